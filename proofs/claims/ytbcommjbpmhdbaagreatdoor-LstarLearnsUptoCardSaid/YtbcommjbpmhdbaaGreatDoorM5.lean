/- Parts of the proof. -/
import Derived.Test.YtbcommjbpmhdbaaGreatDoorM4
set_option linter.all false
set_option maxRecDepth 100000
set_option maxHeartbeats 4000000
open Go.RowKit
namespace Go.Proofs.YtbcommjbpmhdbaaGreatDoor.Sym
theorem zqs {l:List (List Int)} {n:Int} (hA:Asc l) (hc:∀ w∈l,zbl w n=0∧w.length≠0) (h:∀ a∈List.range n.toNat,[(↑a:Int)]∈l):∀ a,a<n.toNat→l[a]?=some [(↑a:Int)]:=by
 intro a
 induction a using Nat.strongRecOn with
 | _ a ih =>
  intro ha;obtain ⟨j,hj,e⟩:=List.mem_iff_getElem.1 (h a (List.mem_range.2 ha));have ej:l[j]?=some [(↑a:Int)]:=by rw [get_at hj,e]
  rcases Nat.lt_trichotomy j a with hlt | heq | hgt
  ·have:=ih j hlt (by omega);rw [ej] at this;injection this with this
   injection this with this
   omega
  ·rw [← heq,ej,heq]
  ·have hx:=get_at (l:=l) (i:=a) (by omega);have hcmp:=hA.get hgt hx ej;have hxm:=zkH hx;obtain ⟨b,hb⟩:=one_of (hc _ hxm).2 (zt1 hcmp);rw [hb] at hcmp hx;have hlt:=znx.1 hcmp;have hr:=zdv (hc _ hxm).1 b (by rw [hb];simp);have hbb:=ih b.toNat (by omega) (by omega);rw [show ((b.toNat:Nat):Int)=b by omega] at hbb;have:=hA.get (show b.toNat<a by omega) hbb hx;rw [zeu] at this;cases this
def newAt (rs:List Row) (i:Nat):Bool:=match rs[i]? with | some r=>decide (r∉rs.take i) | none=>false
def fstI (rs:List Row) (k:Nat):List Nat:=(List.range k).filter (newAt rs)
theorem zt7 (rs:List Row) (k:Nat):fstI rs (k+1)=fstI rs k++if newAt rs k=true then [k] else []:=by
 unfold fstI;rw [List.range_succ,List.filter_append];simp only [List.filter_cons,List.filter_nil]
theorem zv8 (rs:List Row):∀ k,k≤rs.length→za4 [] (rs.take k)=(fstI rs k).map fun i=>(rs[i]?).getD []:=by
 intro k
 induction k with
 | zero=>intro _;rfl
 | succ k ih =>
  intro hk;have hx:=get_at (l:=rs) (i:=k) (by omega);rw [zbk hx,zjg,ih (by omega),zt7,List.map_append]
  have hiff:newAt rs k=true↔rs[k]∉za4 [] (rs.take k):=by
   unfold newAt;rw [hx];simp only;rw [decide_eq_true_iff,zdi];simp
  rw [ih (by omega)] at hiff;unfold addR;by_cases h:newAt rs k=true
  ·rw [if_neg (hiff.1 h),if_pos h];simp [hx]
  ·rw [if_pos (Classical.byContradiction fun h2=>h (hiff.2 h2)),if_neg h];simp
theorem fstI_len (rs:List Row) (k:Nat):(fstI rs k).length≤k:=by
 unfold fstI;have:=List.length_filter_le (newAt rs) (List.range k);rw [List.length_range] at this;exact this
theorem mem_fstI {rs:List Row} {k i:Nat}:i∈fstI rs k↔i<k∧newAt rs i=true:=by
 unfold fstI;rw [List.mem_filter,List.mem_range]
def zh5 (t:zac) (o:zad):List Row:=t.Prefixes.map (rowG t o)
def zet (t:zac) (o:zad):List Row:=za4 [] (zh5 t o)
def zn6 (t:zac) (o:zad) (p:List Int):List Int:=(List.range t.Inputs.toNat).map fun (a:Nat)=>(↑(pos (rowG t o (p++[(↑a:Int)])) (zet t o)):Int)
def outT (t:zac) (o:zad) (p:List Int):List Int:=(List.range t.Inputs.toNat).map fun (a:Nat)=>(((rowG t o p)[a]?).getD []).headD 0
def zhj (t:zac) (i:Nat):List Int:=(t.Prefixes[i]?).getD []
def hypT (t:zac) (o:zad):zb0 :=
 ⟨⟨t.Inputs,0,(fstI (zh5 t o) t.Prefixes.length).map fun i=>zn6 t o (zhj t i),(fstI (zh5 t o) t.Prefixes.length).map fun i=>outT t o (zhj t i)⟩,(fstI (zh5 t o) t.Prefixes.length).map (zhj t)⟩
abbrev h0:zb0:=⟨⟨0,0,[],[]⟩,[]⟩
def hypR (t:zac) (o:zad):zb0×Int :=
 if zjz t o≠0 then (h0,zjz t o) else if (extL t).find? (newRow t o)≠none∨iP t o≠none then (h0,10) else (hypT t o,0)
theorem rowsO_eq {t:zac} {o:zad}:∀ {ps:List (List Int)} {rs:List Row},zgo o t.Suffixes ps=some rs→rs=ps.map (rowG t o)
 | [],rs,h=>by
  injection h with h
  exact h.symm
 | w::ws,rs,h=>by
  unfold zgo at h;cases hr:rowO o w t.Suffixes with
  | none=>rw [hr] at h;cases h
  | some r =>
   rw [hr] at h;obtain ⟨rs',h1,rfl⟩:=Option.map_eq_some_iff.1 h;rw [rowsO_eq h1,List.map_cons,zen hr]
theorem row_out {t:zac} {o:zad} (hv:zeg o) {p:List Int} {r:Row} (hr:rowO o p t.Suffixes=some r) {a:Nat} (hs:t.Suffixes[a]?=some [(↑a:Int)]):∃ y z,r[a]?=some [y]∧ansO o (p++[(↑a:Int)])=some z∧z.drop p.length=[y]:=by
 obtain ⟨z,h1,h2⟩:=zll hr a _ hs;have hl:=zqa hv h1;rw [zkJ,List.length_singleton] at hl;have hd:(z.drop p.length).length=1:=by rw [List.length_drop];omega
 match hq:z.drop p.length,hd with
 | [y],_=>exact ⟨y,z,by rw [h2,hq],h1,hq⟩
theorem zov {t:zac} {o:zad} (ht:zjy t) (ho:SmO o) (hv:zeg o) (hr:(zet t o).length≤128):zav t o=some (hypR t o):=by
 have hn:=ht.n;have hpl:=ht.p;obtain ⟨v,e,h1,h2⟩:=zlw ht ho hv;obtain ⟨h3,h4⟩:=zua h2;unfold zav hypR;rw [h1,zap];simp only;rw [h3] at h4 ⊢;by_cases hz:zjz t o=0
 ·obtain ⟨hV,hA,hck⟩:=h4 hz;obtain ⟨hval,_,_⟩:=zcp hz;obtain ⟨hn1,_,hAp,hAs,hsing,_,_,hne⟩:=zed hval;obtain ⟨_,_,_,hsc⟩:=zdy hval;have hsat:=zqs hAs hsc hsing;obtain ⟨i,a,b,h5,h6⟩:=zl0 ht hV;rw [zkA (by simpa using hz),zkC,if_neg (by simpa using hz),h5,zap,iP_prog ht hv hV,zap];simp only;cases hf:(extL t).find? (newRow t o) with
  | some w =>
   rw [hf] at h6;obtain ⟨rfl,_⟩:=h6;rw [if_pos (Or.inl (by simp))];rfl
  | none =>
   rw [hf] at h6;subst h6;cases hi:iP t o with
   | some x =>
    obtain ⟨hb,_⟩:=iP_range hv hA hi;rw [if_pos (Or.inr (by simp))];simp only [zkC,hb];rfl
   | none =>
    rw [if_neg (by simp)]
    -- closed: there are no other rows than the prefixes'
    have hspec:∃ rs rss,zgo o t.Suffixes t.Prefixes=some rs∧zf0 o t.Suffixes t.Inputs.toNat t.Prefixes=some rss∧v.rows=za4 (za4 [] rs) rss.flatten∧v.prefixes=nums v.rows rs∧v.next=rss.map (nums v.rows):=by
     rcases h2 with ⟨q1,q2⟩ | ⟨_,q2,_⟩ | ⟨_,_,q⟩
     ·exact absurd hck q1
     ·rw [h3,hz] at q2;cases q2
     ·exact q
    obtain ⟨rs,rss,q1,q2,q3,q4,q5⟩:=hspec;have hrs:rs=zh5 t o:=rowsO_eq q1;have hrl:rs.length=t.Prefixes.length:=(zg0 q1).1;have hE:=zjn q2
    have hclosed:∀ x∈rss.flatten,x∈rs:=fun x hx=>by
     obtain ⟨l,hl,hx⟩:=List.mem_flatten.1 hx;obtain ⟨k,hk,rfl⟩:=List.mem_iff_getElem.1 hl;have hkp:=get_at (l:=t.Prefixes) (i:=k) (by rw [← hE.1];exact hk);obtain ⟨l',hl1,hl2⟩:=hE.2 k _ hkp;rw [get_at hk] at hl1;injection hl1 with hl1
     subst hl1;obtain ⟨j,hj,rfl⟩:=List.mem_iff_getElem.1 hx;have hL:=zg0 hl2
     have hj':j<t.Inputs.toNat:=by
      have:=hL.1;simp [exts] at this;omega
     have hw:(exts t.Inputs.toNat t.Prefixes[k])[j]?=some (t.Prefixes[k]++[(↑j:Int)]):=by
      unfold exts;rw [List.getElem?_map,List.getElem?_range hj'];rfl
     obtain ⟨r,hr1,hr2⟩:=hL.2 j _ hw;rw [get_at hj] at hr1;injection hr1 with hr1
     subst hr1
     have hnr:newRow t o (t.Prefixes[k]++[(↑j:Int)])=false:=by
      have:=List.find?_eq_none.1 hf (t.Prefixes[k]++[(↑j:Int)]) (List.mem_flatMap.2 ⟨_,List.getElem_mem _,List.mem_map.2 ⟨j,List.mem_range.2 hj',rfl⟩⟩);simpa using this
     unfold newRow at hnr;have hnr:=Classical.not_not.1 (of_decide_eq_false hnr);obtain ⟨p,hp,hp2⟩:=List.mem_map.1 hnr;rw [hrs];refine List.mem_map.2 ⟨p,hp,?_⟩;rw [hr2] at hp2;exact zen hp2
    have hR:v.rows=zet t o:=by
     rw [q3];unfold zet;rw [← hrs]
     have:∀ (xs R:List Row),(∀ x∈xs,x∈R)→za4 R xs=R:=by
      intro xs
      induction xs with
      | nil=>intro R _;rfl
      | cons x xs ih =>
       intro R h;show za4 (addR R x) xs=R
       have e1:addR R x=R:=by
        unfold addR;rw [if_pos (h x (by simp))]
       rw [e1];exact ih R fun y hy=>h y (List.mem_cons_of_mem _ hy)
     exact this _ _ fun x hx=>zdi.2 (Or.inr (hclosed x hx))
    have hRl:=zjc [] rs;simp only [List.length_nil] at hRl
    have hRlen:v.rows.length≤128:=by
     rw [hR];exact hr
    simp only [zkC,zap];rw [zkA (by omega),zkC]
    have key:=zcw (step:=fun (s:List (List Int)×List (List Int)×List (List Int)×Nat)=>zav.s32 t (v,zjz t o) s.1 s.2.1 s.2.2.1 s.2.2.2) (r:=((fstI rs t.Prefixes.length).map fun i=>zn6 t o (zhj t i),(fstI rs t.Prefixes.length).map fun i=>outT t o (zhj t i),(fstI rs t.Prefixes.length).map (zhj t)))
     (fun s=>s.2.2.2≤t.Prefixes.length∧s.1=(fstI rs s.2.2.2).map (fun i=>zn6 t o (zhj t i))∧s.2.1=(fstI rs s.2.2.2).map (fun i=>outT t o (zhj t i))∧s.2.2.1=(fstI rs s.2.2.2).map (zhj t)) (fun s=>t.Prefixes.length-s.2.2.2) (fun s ⟨g1,g2,g3,g4⟩=>by
      obtain ⟨N,O,A,k⟩:=s
      simp only at g1 g2 g3 g4
      subst g2 g3 g4
      have hfl:=fstI_len rs k
      simp only [zav.s32]
      rw [hV.pl]
      by_cases g5:k<t.Prefixes.length
      ·left
       have hp:=get_at g5
       have hpm:=List.getElem_mem g5
       have hpw:=ht.pw _ hpm
       obtain ⟨r,r1,r2,r3⟩:=hV.pre k _ hp
       obtain ⟨l,l1,l2,l3⟩:=hV.nxt k _ hp
       have hrk:rs[k]?=some r:=by
        rw [hrs]
        unfold zh5
        rw [List.getElem?_map,hp]
        show some (rowG t o t.Prefixes[k])=_
        rw [zen r1]
       have hpa:zhj t k=t.Prefixes[k]:=by unfold zhj;rw [hp];rfl
       have hnew:newAt rs k=true↔r∉rs.take k:=by
        unfold newAt
        rw [hrk]
        simp
       have hlenA:((fstI rs k).map (zhj t)).length=(za4 [] (rs.take k)).length:=by
        rw [zv8 rs k (by omega),zkK,zkK]
       have hvr:v.rows=za4 (za4 [] (rs.take k)) (rs.drop k):=by
        rw [hR]
        unfold zet
        rw [← hrs,← zlp,List.take_append_drop]
       rw [zkB (by omega),zkD,zaq r3,hlenA]
       by_cases g6:newAt rs k=true
       ·have hnotin:=hnew.1 g6
        have hnotR:r∉za4 [] (rs.take k):=fun h=>by
         rcases zdi.1 h with h | h
         ·cases h
         ·exact hnotin h
        have hpos:pos r v.rows=(za4 [] (rs.take k)).length:=by
         rw [hvr,List.drop_eq_getElem_cons (by omega)]
         have e1:rs[k]'(by omega)=r:=by
          have:=get_at (l:=rs) (i:=k) (by omega)
          rw [hrk] at this
          injection this with this
          exact this.symm
         rw [e1]
         show pos r (za4 (addR (za4 [] (rs.take k)) r) _)=_
         rw [zny (zsu.2 (Or.inr rfl))]
         unfold addR
         rw [if_neg hnotR,pos_new hnotR]
        rw [hpos,zkA (by omega),zkC]
        have outs:=zcw (step:=fun (s:List Int×Nat)=>zav.s30 t (v,zjz t o) (↑(za4 [] (rs.take k)).length:Int) s.1 s.2) (r:=outT t o t.Prefixes[k]) (fun s=>s.2≤t.Inputs.toNat∧s.1=(List.range s.2).map fun (a:Nat)=>(((rowG t o t.Prefixes[k])[a]?).getD []).headD 0) (fun s=>t.Inputs.toNat-s.2) (fun s ⟨m1,m2⟩=>by
         obtain ⟨y,a⟩:=s
         simp only at m1 m2
         subst m2
         simp only [zav.s30]
         by_cases m3:a<t.Inputs.toNat
         ·left
          obtain ⟨y,z,y1,_,_⟩:=row_out hv r1 (hsat a m3)
          have hget:v.rows[(za4 [] (rs.take k)).length]?=some r:=by rw [← hpos];exact zls r2
          refine ⟨((List.range (a+1)).map fun (a:Nat)=>(((rowG t o t.Prefixes[k])[a]?).getD []).headD 0,a+1),?_,⟨m3,rfl⟩,by simp only;omega⟩
          rw [zkB (by omega),zkD,zbd rfl hget,zaq y1,zaq (x:=y) rfl,zar (by rw [zkK,List.length_range];unfold za7;omega),zar (by unfold inR;omega),List.range_succ,List.map_append]
          simp [zen r1,y1]
         ·right
          have e:a=t.Inputs.toNat:=by omega
          subst e
          rw [zkA (by omega),zkC]
          rfl) (n:=fuel) (s:=([],0)) ⟨Nat.zero_le _,rfl⟩
        have hln:l=zn6 t o t.Prefixes[k]:=by
         unfold zn6
         apply List.ext_getElem?
         intro a
         by_cases ha:a<t.Inputs.toNat
         ·obtain ⟨x,x1,x2,x3⟩:=l3 a ha
          rw [x3,List.getElem?_map,List.getElem?_range ha,← hR]
          show some (↑(pos x v.rows):Int)=some (↑(pos (rowG t o (t.Prefixes[k]++[(↑a:Int)])) v.rows):Int)
          rw [zen x1]
         ·rw [List.getElem?_eq_none (by omega),List.getElem?_eq_none (by simp;omega)]
        refine ⟨((fstI rs (k+1)).map (fun i=>zn6 t o (zhj t i)),(fstI rs (k+1)).map (fun i=>outT t o (zhj t i)),(fstI rs (k+1)).map (zhj t),k+1),?_,⟨g5,rfl,rfl,rfl⟩,by simp only;omega⟩
        rw [outs,zap,zaq l1,zfa (by unfold SmW;omega),zap,zar (by rw [zkK];unfold za7;omega),zar (by rw [zkK];unfold za7;omega),zaq hp,zfa (by unfold SmW;omega),zap,zar (by
         have h9:=zjc [] (rs.take k)
         rw [List.length_take] at h9
         simp only [List.length_nil] at h9
         unfold za7
         omega),zap]
        rw [zt7,if_pos g6]
        simp only [List.map_append,List.map_cons,List.map_nil,hpa,← hln]
        rfl
       ·have hin:r∈rs.take k:=Classical.byContradiction fun h=>g6 (hnew.2 h)
        have hpos:pos r v.rows<(za4 [] (rs.take k)).length:=by
         rw [hvr,zny (zdi.2 (Or.inr hin))]
         exact pos_lt (zdi.2 (Or.inr hin))
        refine ⟨((fstI rs (k+1)).map (fun i=>zn6 t o (zhj t i)),(fstI rs (k+1)).map (fun i=>outT t o (zhj t i)),(fstI rs (k+1)).map (zhj t),k+1),?_,⟨g5,rfl,rfl,rfl⟩,by simp only;omega⟩
        rw [zkB (by omega),zkD,zap,zt7,if_neg g6,List.append_nil]
        rfl
      ·right
       have e:k=t.Prefixes.length:=by omega
       subst e
       rw [zkA (by omega),zkC]) (n:=fuel) (s:=([],[],[],0)) ⟨Nat.zero_le _,rfl,rfl,rfl⟩ (by have:=zdn;simp only;omega)
    rw [key,zap];unfold hypT;rw [← hrs];rfl
 ·rw [zkB hz,zkD,if_pos hz]
theorem rowG_eq {t:zac} {o:zad} {p:List Int} (h:∃ r,rowO o p t.Suffixes=some r):rowO o p t.Suffixes=some (rowG t o p):=by
 obtain ⟨r,hr⟩:=h;rw [hr,zen hr]
section
structure zca (t:zac) (o:zad):Prop where
 ht:zjy t
 h128:(zet t o).length≤128
 ho:SmO o
 hv:zeg o
 hz:zjz t o=0
 hf:(extL t).find? (newRow t o)=none
 hi:iP t o=none
section
variable {t:zac} {o:zad}
theorem zca.all (H:zca t o):zlk t o:=(zcp H.hz).2.2
theorem zca.row (H:zca t o) {p:List Int} (hp:p∈t.Prefixes):rowO o p t.Suffixes=some (rowG t o p):=rowG_eq (H.all p hp p (by simp [zho]))
theorem zca.ext (H:zca t o) {p:List Int} (hp:p∈t.Prefixes) {a:Nat} (ha:a<t.Inputs.toNat):rowO o (p++[(↑a:Int)]) t.Suffixes=some (rowG t o (p++[(↑a:Int)])) :=
 rowG_eq (H.all p hp _ (List.mem_cons_of_mem _ (List.mem_map.2 ⟨a,List.mem_range.2 ha,rfl⟩)))
theorem zca.closed (H:zca t o) {p:List Int} (hp:p∈t.Prefixes) {a:Nat} (ha:a<t.Inputs.toNat):rowG t o (p++[(↑a:Int)])∈zet t o:=by
 have h1:=List.find?_eq_none.1 H.hf (p++[(↑a:Int)]) (List.mem_flatMap.2 ⟨p,hp,List.mem_map.2 ⟨a,List.mem_range.2 ha,rfl⟩⟩);have h2:newRow t o (p++[(↑a:Int)])=false:=by simpa using h1
 unfold newRow at h2;obtain ⟨q,hq,h3⟩:=List.mem_map.1 (Classical.not_not.1 (of_decide_eq_false h2));rw [H.ext hp ha] at h3;unfold zet;exact zdi.2 (Or.inr (List.mem_map.2 ⟨q,hq,zen h3⟩))
theorem zca.mem (H:zca t o) {p:List Int} (hp:p∈t.Prefixes):rowG t o p∈zet t o:=by
 unfold zet;exact zdi.2 (Or.inr (List.mem_map.2 ⟨p,hp,rfl⟩))
theorem dP_none {a:Nat} {x y:Row} (hl:x.length=y.length) (h:dP a x y=none):x=y:=by
 have h1:=zcd.1 h;apply List.ext_getElem?;intro e;rcases Nat.lt_or_ge e x.length with he | he
 ·have hx:=get_at he;have:=h1 e _ hx;rw [Nat.zero_add] at this;split at this
  ·rename_i h2;rw [hx,h2]
  ·cases this
 ·rw [List.getElem?_eq_none he,List.getElem?_eq_none (by omega)]
theorem zca.cons (H:zca t o) {p q:List Int} (hp:p∈t.Prefixes) (hq:q∈t.Prefixes) (h:rowG t o p=rowG t o q) {a:Nat} (ha:a<t.Inputs.toNat):rowG t o (p++[(↑a:Int)])=rowG t o (q++[(↑a:Int)]):=by
 have key:∀ (i k:Nat) p q,i<k→t.Prefixes[i]?=some p→t.Prefixes[k]?=some q→rowG t o p=rowG t o q→rowG t o (p++[(↑a:Int)])=rowG t o (q++[(↑a:Int)]):=by
  intro i k p q hik hp hq h;have hpm:=zkH hp;have hqm:=zkH hq;have h1:=zcd.1 H.hi i p hp;rw [Nat.zero_add] at h1
  have hq2:(t.Prefixes.drop (i+1))[k-(i+1)]?=some q:=by
   rw [List.getElem?_drop,show i+1+(k-(i+1))=k by omega];exact hq
  have h2:=zcd.1 h1 _ q hq2;rw [if_pos (by rw [H.row hpm,H.row hqm,h])] at h2;have h3:=zcd.1 h2 a a (List.getElem?_range ha);refine dP_none ?_ h3;rw [(zig H.hv (H.ext hpm ha)).1,(zig H.hv (H.ext hqm ha)).1]
 obtain ⟨i,hi,rfl⟩:=List.mem_iff_getElem.1 hp;obtain ⟨k,hk,rfl⟩:=List.mem_iff_getElem.1 hq;rcases Nat.lt_trichotomy i k with hlt | heq | hgt
 ·exact key i k _ _ hlt (get_at hi) (get_at hk) h
 ·subst heq;rfl
 ·exact (key k i _ _ hgt (get_at hk) (get_at hi) h.symm).symm
def stt (t:zac) (o:zad) (w:List Int):Nat:=pos (rowG t o w) (zet t o)
theorem rowsA_map:zet t o=(fstI (zh5 t o) t.Prefixes.length).map fun i=>((zh5 t o)[i]?).getD []:=by
 have:=zv8 (zh5 t o) t.Prefixes.length (by simp [zh5]);rw [List.take_of_length_le (by simp [zh5])] at this;exact this
theorem rep_of {r:Row} (h:r∈zet t o):∃ i,(fstI (zh5 t o) t.Prefixes.length)[pos r (zet t o)]?=some i∧i<t.Prefixes.length∧zhj t i∈t.Prefixes∧rowG t o (zhj t i)=r:=by
 have h1:=zls h;have h2:=@rowsA_map t o;rw [h2,List.getElem?_map] at h1;rw [← h2] at h1;obtain ⟨i,hi,h3⟩:=Option.map_eq_some_iff.1 h1;have hm:=mem_fstI.1 (zkH hi);have hp:=get_at hm.1;have hpa:zhj t i=t.Prefixes[i]:=by unfold zhj;rw [hp];rfl
 refine ⟨i,hi,hm.1,by rw [hpa];exact List.getElem_mem _,?_⟩;rw [hpa,← h3];unfold zh5;rw [List.getElem?_map,hp];rfl
theorem zca.at (H:zca t o) {r:Row} (h:r∈zet t o):∃ q∈t.Prefixes,rowG t o q=r∧(hypT t o).M.Next[pos r (zet t o)]?=some (zn6 t o q)∧(hypT t o).M.Out[pos r (zet t o)]?=some (outT t o q)∧(hypT t o).Access[pos r (zet t o)]?=some q:=by
 obtain ⟨i,hi,_,h2,h3⟩:=rep_of h;refine ⟨zhj t i,h2,h3,?_,?_,?_⟩
 ·show ((fstI (zh5 t o) t.Prefixes.length).map fun i=>zn6 t o (zhj t i))[_]?=_;rw [List.getElem?_map,hi];rfl
 ·show ((fstI (zh5 t o) t.Prefixes.length).map fun i=>outT t o (zhj t i))[_]?=_;rw [List.getElem?_map,hi];rfl
 ·show ((fstI (zh5 t o) t.Prefixes.length).map (zhj t))[_]?=_;rw [List.getElem?_map,hi];rfl
theorem zsl {q:List Int} {a:Nat} (ha:a<t.Inputs.toNat):(zn6 t o q)[a]?=some (↑(stt t o (q++[(↑a:Int)])):Int):=by
 unfold zn6 stt;rw [List.getElem?_map,List.getElem?_range ha];rfl
theorem outT_at {q:List Int} {a:Nat} (ha:a<t.Inputs.toNat):(outT t o q)[a]?=some ((((rowG t o q)[a]?).getD []).headD 0):=by
 unfold outT;rw [List.getElem?_map,List.getElem?_range ha];rfl
theorem zca.sym (H:zca t o) {p:List Int} (hp:p∈t.Prefixes) {k:Nat} {x:Int} (hx:p[k]?=some x):0≤x∧x<t.Inputs :=
 zdv ((zdy (zcp H.hz).1).1 p hp) x (zkH hx)
theorem zca.nil (H:zca t o):t.Prefixes[0]?=some []:=by
 obtain ⟨hval,_,_⟩:=zcp H.hz;obtain ⟨_,_,hA,_,_,_,_,hne⟩:=zed hval;obtain ⟨_,_,h0,_⟩:=zdy hval;have hl:0<t.Prefixes.length:=List.length_pos_iff.2 hne;obtain ⟨j,hj,e⟩:=List.mem_iff_getElem.1 h0;rcases Nat.eq_zero_or_pos j with rfl | hj0
 ·rw [get_at hj,e]
 ·have:=zt1 (hA.get hj0 (get_at hl) (get_at hj));rw [e] at this;have h2:=List.eq_nil_of_length_eq_zero (Nat.le_zero.1 this);rw [get_at hl,h2]
theorem zca.start (H:zca t o):stt t o []=0:=by
 have h0:=H.nil;unfold stt zet
 have hp:zh5 t o=rowG t o []::(zh5 t o).drop 1:=by
  unfold zh5;cases hP:t.Prefixes with
  | nil=>rw [hP] at h0;cases h0
  | cons p ps =>
   rw [hP] at h0;injection h0 with h0
   subst h0;rfl
 rw [hp];show pos (rowG t o []) (za4 (addR [] (rowG t o [])) _)=0;rw [zny (zsu.2 (Or.inr rfl))];simp [addR,pos]
theorem zca.outs (H:zca t o) {p:List Int} (hp:p∈t.Prefixes):∃ ys,zds (hypT t o).M 0 p=some (ys,(↑(stt t o p):Int)):=by
 have hpw:=H.ht.pw p hp;have hval:=(zcp H.hz).1;unfold zds
 have key:=zf5 (step:=fun (s:Int×List Int×Nat)=>zds.s2 (hypT t o).M p s.1 s.2.1 s.2.2) (fun s=>s.2.2≤p.length∧s.1=(↑(stt t o (p.take s.2.2)):Int)∧s.2.1.length=s.2.2) (fun s=>p.length-s.2.2) (fun r=>r.1=(↑(stt t o p):Int)) (fun s ⟨g1,g2,g3⟩=>by
  obtain ⟨st,y,k⟩:=s
  simp only at g1 g2 g3
  subst g2
  simp only [zds.s2]
  by_cases g4:k<p.length
  ·left
   have hx:=get_at g4
   obtain ⟨hx0,hx1⟩:=H.sym hp hx
   have hpre:=zk8 hval _ p hp k rfl (by omega)
   have hpre1:=zk8 hval _ p hp (k+1) rfl (by omega)
   have hxa:p[k]=((p[k].toNat:Nat):Int):=by omega
   have han:p[k].toNat<t.Inputs.toNat:=by omega
   obtain ⟨q,hq,q1,q2,q3,_⟩:=H.at (H.mem hpre)
   have q2:(hypT t o).M.Next[stt t o (p.take k)]?=some (zn6 t o q):=q2
   have q3:(hypT t o).M.Out[stt t o (p.take k)]?=some (outT t o q):=q3
   have hcons:=H.cons hq hpre q1 han
   have hst:stt t o (q++[((p[k].toNat:Nat):Int)])=stt t o (p.take (k+1)):=by
    unfold stt
    rw [hcons,zbk hx,← hxa]
   refine ⟨((↑(stt t o (p.take (k+1))):Int),y++[(((rowG t o q)[p[k].toNat]?).getD []).headD 0],k+1),?_,⟨g4,rfl,by simp [g3]⟩,by simp only;omega⟩
   rw [zcb hx,zkD,zbd rfl q3,zaq hx,zbd hxa (outT_at han),zar (by unfold za7;omega),zbd rfl q2,zaq hx,zbd hxa (zsl han),hst]
  ·right
   have e:k=p.length:=by omega
   subst e
   rw [List.take_length]
   exact ⟨_,by rw [zkA (by omega),zkC],rfl⟩) ((0:Int),[],0) ⟨Nat.zero_le _,by simp [H.start],rfl⟩
 obtain ⟨⟨st,ys⟩,e,hq⟩:=key;rw [e,zap];simp only at hq;subst hq;exact ⟨ys,rfl⟩
theorem zca.num (H:zca t o):(zet t o).length=(fstI (zh5 t o) t.Prefixes.length).length∧0<(zet t o).length∧(zet t o).length≤128:=by
 have h1:=@rowsA_map t o;have h2:=fstI_len (zh5 t o) t.Prefixes.length;have h3:=H.h128;have h4:(zet t o).length=(fstI (zh5 t o) t.Prefixes.length).length:=by rw [h1,zkK]
 have h5:rowG t o []∈zet t o:=H.mem (zkH H.nil);have h6:=List.length_pos_of_mem h5;omega
theorem zca.nlen (H:zca t o):(hypT t o).M.Next.length=(zet t o).length∧(hypT t o).M.Out.length=(zet t o).length∧(hypT t o).Access.length=(zet t o).length:=by
 have:=H.num.1;unfold hypT;simp only [zkK];omega
theorem zca.state (H:zca t o) {s:Nat} (hs:s<(zet t o).length):∃ q∈t.Prefixes,stt t o q=s∧(hypT t o).M.Next[s]?=some (zn6 t o q)∧(hypT t o).M.Out[s]?=some (outT t o q)∧(hypT t o).Access[s]?=some q:=by
 have hm:=List.getElem_mem hs
 have hpos:pos (zet t o)[s] (zet t o)=s:=by
  -- the rows are all different
  have hnd:∀ (rs R:List Row),R.Nodup→(za4 R rs).Nodup:=by
   intro rs
   induction rs with
   | nil=>intro R h;exact h
   | cons r rs ih =>
    intro R h;show (za4 (addR R r) rs).Nodup;refine ih _ ?_;unfold addR;split
    ·exact h
    ·rename_i hn;rw [List.nodup_append]
     exact ⟨h,by simp,fun x hx y hy=>by
      rw [List.mem_singleton.1 hy]
      exact fun e=>hn (e ▸ hx)⟩
  have hN:(zet t o).Nodup:=hnd _ _ List.nodup_nil;have h1:=zls hm;have h2:=pos_lt hm;have h3:=get_at h2;rw [h1] at h3;injection h3 with h3
  rcases Nat.lt_trichotomy (pos (zet t o)[s] (zet t o)) s with hlt | heq | hgt
  ·exact absurd h3.symm (List.pairwise_iff_getElem.1 hN _ _ h2 hs hlt)
  ·exact heq
  ·exact absurd h3 (List.pairwise_iff_getElem.1 hN _ _ hs h2 hgt)
 obtain ⟨q,hq,q1,q2,q3,q4⟩:=H.at hm;rw [hpos] at q2 q3 q4;exact ⟨q,hq,by unfold stt;rw [q1,hpos],q2,q3,q4⟩
theorem zca.out_rng (H:zca t o) {q:List Int} (hq:q∈t.Prefixes) {a:Nat} (ha:a<t.Inputs.toNat):0≤((((rowG t o q)[a]?).getD []).headD 0)∧((((rowG t o q)[a]?).getD []).headD 0)≤1048576:=by
 obtain ⟨hval,_,_⟩:=zcp H.hz;obtain ⟨_,_,_,hAs,hsing,_⟩:=zed hval;obtain ⟨_,_,_,hsc⟩:=zdy hval;obtain ⟨y,z,y1,y2,y3⟩:=row_out H.hv (H.row hq) (zqs hAs hsc hsing a ha);rw [y1];show 0≤y∧y≤1048576;have hy:y∈z:=List.mem_of_mem_drop (by rw [y3];simp);unfold ansO at y2;split at y2
 ·injection y2 with y2
  subst y2;cases hy
 ·obtain ⟨tr,htr,rfl⟩:=Option.map_eq_some_iff.1 y2;exact (H.hv.prop tr (List.mem_of_find?_eq_some htr)).1.2.2 y (List.mem_of_mem_take hy)
theorem zca.row_valid (H:zca t o) {s:Nat} (hs:s<(zet t o).length):zft (hypT t o).M (↑s:Int)=some 0:=by
 have hn:=H.ht.n;have hn1:1≤t.Inputs:=(zed (zcp H.hz).1).1;obtain ⟨q,hq,_,q2,q3,_⟩:=H.state hs;have hl1:(zn6 t o q).length=t.Inputs.toNat:=by simp [zn6]
 have hl2:(outT t o q).length=t.Inputs.toNat:=by simp [outT]
 have hI:(hypT t o).M.Inputs=t.Inputs:=rfl;have hnum:=H.num;unfold zft;rw [hI,zbd rfl q2,zkA (by omega),zkC,zbd rfl q3,zkA (by omega),zap,zkC]
 have key:=zcw (step:=fun a=>zft.s2 (hypT t o).M (↑s:Int) a) (r:=.inl ()) (fun a=>a≤t.Inputs.toNat) (fun a=>t.Inputs.toNat-a) (fun a g1=>by
  simp only [zft.s2]
  rw [hI]
  by_cases g2:a<t.Inputs.toNat
  ·left
   have hlt:stt t o (q++[(↑a:Int)])<(zet t o).length:=pos_lt (H.closed hq g2)
   obtain ⟨o1,o2⟩:=H.out_rng hq g2
   refine ⟨a+1,?_,by omega,by omega⟩
   rw [zkB (by omega),zkD,zbd rfl q2,zaq (zsl g2),zkA (by omega),zkC,zbd rfl q2,zaq (zsl g2),H.nlen.1,zkA (by omega),zkC,zbd rfl q3,zaq (outT_at g2),zkA (by omega),zkC,zbd rfl q3,zaq (outT_at g2),zkA (by omega),zap,zkC,zar (by unfold inR;omega)]
  ·right
   have e:a=t.Inputs.toNat:=by omega
   subst e
   rw [zkA (by omega),zkC]) (n:=fuel) (s:=0) (Nat.zero_le _)
 rw [key,zap];rfl
theorem zca.valid6 (H:zca t o):zbx (hypT t o).M=some 0:=by
 have hn:=H.ht.n;have hn1:1≤t.Inputs:=(zed (zcp H.hz).1).1;have hI:(hypT t o).M.Inputs=t.Inputs:=rfl;have hS:(hypT t o).M.Start=0:=rfl;obtain ⟨l1,l2,l3⟩:=H.nlen;obtain ⟨_,n1,n2⟩:=H.num;unfold zbx;rw [hI,hS,l1,l2,zkA (by omega),zkC,zkA (by omega),zap,zkC,zkA (by omega),zkC,zkA (by omega),zkC,zkA (by omega),zkC,zkA (by omega),zap,zkC,zkA (by omega),zkC]
 have key:=zcs (step:=fun s=>zbx.s2 (hypT t o).M s) (l:=(hypT t o).M.Next) (fun _ _=>(none:Option Int)) (fun i x hx=>by
  have hi:=(zkI.1 hx).1
  simp only [zbx.s2]
  rw [zcb hx,zkD,H.row_valid (by omega),zap]
  rfl) (by
  simp only [zbx.s2]
  rw [zes]
  rfl) (by omega)
 rw [key,zap,zcd.2 fun i x _=>rfl];rfl
theorem zca.valid22 (H:zca t o):zf4 (hypT t o)=some 0:=by
 have hn:=H.ht.n;have hI:(hypT t o).M.Inputs=t.Inputs:=rfl;have hS:(hypT t o).M.Start=0:=rfl;obtain ⟨l1,l2,l3⟩:=H.nlen;obtain ⟨_,n1,n2⟩:=H.num;have hval:=(zcp H.hz).1;unfold zf4;rw [H.valid6,zap,zkA (by simp),zkC,l1,l3,zkA (by omega),zkC]
 have key:=zcs (step:=fun s=>zf4.s2 (hypT t o) s) (l:=(hypT t o).Access) (fun _ _=>(none:Option Int)) (fun i x hx=>by
  have hi:=(zkI.1 hx).1
  obtain ⟨q,hq,q1,_,_,q4⟩:=H.state (s:=i) (by omega)
  rw [hx] at q4
  injection q4 with q4
  subst q4
  have hqw:=H.ht.pw x hq
  obtain ⟨ys,hys⟩:=H.outs hq
  simp only [zf4.s2]
  rw [zcb hx,zkD,zaq hx,zm0 _ _ (by unfold SmW;omega),hI,(zdy hval).1 x hq,zap,hS,hys]
  simp [q1]) (by
  simp only [zf4.s2]
  rw [zes]
  rfl) (by omega)
 obtain ⟨q,hq,q1,_,_,q4⟩:=H.state (s:=0) n1
 have hq0:(hypT t o).Access[0]?=some []:=by
  have h5:rowG t o []∈zet t o:=H.mem (zkH H.nil)
  -- the first state's prefix is the first prefix
  have hf0:(fstI (zh5 t o) t.Prefixes.length)[0]?=some 0:=by
   have hl:0<t.Prefixes.length:=(zkI.1 H.nil).1
   have h1:newAt (zh5 t o) 0=true:=by
    unfold newAt zh5;rw [List.getElem?_map,H.nil];simp
   unfold fstI;obtain ⟨k,hk⟩:∃ k,t.Prefixes.length=k+1:=⟨t.Prefixes.length-1,by omega⟩;rw [hk,List.range_succ_eq_map,List.filter_cons_of_pos h1];rfl
  show ((fstI (zh5 t o) t.Prefixes.length).map (zhj t))[0]?=_;rw [List.getElem?_map,hf0];show some (zhj t 0)=_;unfold zhj;rw [H.nil];rfl
 rw [key,zap,zcd.2 fun i x _=>rfl];simp only [Sum.elim_inl];rw [hS,zbd (n:=0) (i:=0) rfl hq0];rfl
end
end
section
theorem sufL_take_len {l:List (List Int)} (i:Nat):(sufL (l.take i)).length≤(sufL l).length:=by
 have h:sufL l=sufL (l.take i)++sufL (l.drop i):=by
  unfold sufL;rw [← List.flatMap_append,List.take_append_drop]
 rw [h,zkJ];omega
theorem zql:∀ {u a b:List Int},u <+: a→u <+: b→u.length≤za3 a b
 | [],_,_,_,_=>Nat.zero_le _
 | x::u,a,b,⟨v,hv⟩,⟨w,hw⟩=>by
  subst hv;subst hw;have:=zql (u:=u) (a:=u++v) (b:=u++w) ⟨v,rfl⟩ ⟨w,rfl⟩;show u.length+1≤za3 (x::(u++v)) (x::(u++w));simp only [za3,if_true];omega
theorem zin {α:Type} {l:List α} {i j:Nat} (h:i≤j):(l.take j).take i=l.take i:=by
 rw [List.take_take,Nat.min_eq_left h]
theorem agree_all {o:zad} (hv:zeg o) {a b:zaa} (ha:a∈o.Traces) (hb:b∈o.Traces):Agree a b∨Agree b a:=by
 obtain ⟨i,hi,rfl⟩:=List.mem_iff_getElem.1 ha;obtain ⟨j,hj,rfl⟩:=List.mem_iff_getElem.1 hb;rcases Nat.lt_trichotomy i j with h | h | h
 ·exact Or.inl (hv.apart i j _ _ h (get_at hi) (get_at hj)).2
 ·subst h;exact Or.inl rfl
 ·exact Or.inr (hv.apart j i _ _ h (get_at hj) (get_at hi)).2
theorem ansO_pre {o:zad} (hv:zeg o) {u v r:List Int} (h:ansO o (u++v)=some r):ansO o u=some (r.take u.length):=by
 unfold ansO at h ⊢;by_cases h0:u=[]
 ·subst h0;simp
 ·rw [if_neg (by simp [h0])] at h;rw [if_neg h0];obtain ⟨a,ha,rfl⟩:=Option.map_eq_some_iff.1 h;have hma:=List.mem_of_find?_eq_some ha;have hpa:u++v <+: a.In:=by simpa using List.find?_some ha
  have hua:u <+: a.In:=(List.prefix_append u v).trans hpa;cases hb:o.Traces.find? fun t=>decide (u <+: t.In) with
  | none =>
   have:=List.find?_eq_none.1 hb a hma;simp [hua] at this
  | some b =>
   have hmb:=List.mem_of_find?_eq_some hb;have hub:u <+: b.In:=by simpa using List.find?_some hb
   show some (b.Out.take u.length)=some ((a.Out.take (u++v).length).take u.length);rw [zin (by rw [zkJ];omega)];congr 1;rcases agree_all hv hma hmb with h1 | h1
   ·have h2:=zql hua hub;unfold Agree at h1;rw [← zin h2,← h1,zin h2]
   ·have h2:=zql hub hua;unfold Agree at h1;rw [← zin h2,h1,zin h2]
def tailA (o:zad) (w e:List Int):List Int:=((ansO o (w++e)).getD []).drop w.length
theorem zvi {o:zad} (hv:zeg o) (w:List Int):tailA o w []=[]:=by
 unfold tailA;rw [List.append_nil];cases h:ansO o w with
 | none=>simp
 | some r =>
  rw [Option.getD_some,List.drop_eq_nil_of_le (by rw [zqa hv h];exact Nat.le_refl _)]
theorem rowO_at {o:zad} {w:List Int} {S:List (List Int)} {r:Row} (h:rowO o w S=some r) {i:Nat} {e:List Int} (he:S[i]?=some e):r[i]?=some (tailA o w e):=by
 obtain ⟨x,x1,x2⟩:=zll h i e he;rw [x2];unfold tailA;rw [x1];rfl
theorem tailA_cons {o:zad} (hv:zeg o) {w e:List Int} {a y:Int} (h:ansO o (w++a::e)≠none) (hy:tailA o w [a]=[y]):tailA o w (a::e)=y::tailA o (w++[a]) e:=by
 cases hr:ansO o (w++a::e) with
 | none=>exact absurd hr h
 | some r =>
  have hl:=zqa hv hr;have h1:w++a::e=(w++[a])++e:=by simp
  have h2:=hr;rw [h1] at h2;have h3:=ansO_pre hv h2;unfold tailA at hy ⊢;rw [h3] at hy;rw [hr,h2];simp only [Option.getD_some] at hy ⊢;rw [zkJ,List.length_singleton] at hy ⊢;rw [zkJ,zkL] at hl;have h4:r.drop w.length=r[w.length]'(by omega)::r.drop (w.length+1):=List.drop_eq_getElem_cons (by omega);rw [h4];congr 1
  have h5:(List.drop w.length (List.take (w.length+1) r))[0]?=some (r[w.length]'(by omega)):=by
   rw [List.getElem?_drop,List.getElem?_take_of_lt (by omega),get_at (by omega)];rfl
  rw [hy] at h5;injection h5 with h5
  exact h5.symm
theorem ans_split {o:zad} (hv:zeg o) {w e r:List Int} (hw:ansO o w=some r) (h:ansO o (w++e)≠none):ansO o (w++e)=some (r++tailA o w e):=by
 cases hr:ansO o (w++e) with
 | none=>exact absurd hr h
 | some z =>
  have h1:=ansO_pre hv hr;rw [hw] at h1;injection h1 with h1
  unfold tailA;rw [hr,h1,Option.getD_some,List.take_append_drop]
section
variable {t:zac} {o:zad}
theorem zca.mac (H:zca t o):zda (hypT t o).M:=macOk_of H.valid6
theorem zca.sing (H:zca t o) {a:Nat} (ha:a<t.Inputs.toNat):t.Suffixes[a]?=some [(↑a:Int)]:=by
 have hval:=(zcp H.hz).1;obtain ⟨_,_,_,hAs,hsing,_⟩:=zed hval;obtain ⟨_,_,_,hsc⟩:=zdy hval;exact zqs hAs hsc hsing a ha
theorem zca.nx_ot (H:zca t o) {p:List Int} (hp:p∈t.Prefixes) {a:Nat} (ha:a<t.Inputs.toNat):nx (hypT t o).M (stt t o p) a=stt t o (p++[(↑a:Int)])∧tailA o p [(↑a:Int)]=[ot (hypT t o).M (stt t o p) a]:=by
 obtain ⟨q,hq,q1,q2,q3,_⟩:=H.at (H.mem hp);have q2:(hypT t o).M.Next[stt t o p]?=some (zn6 t o q):=q2;have q3:(hypT t o).M.Out[stt t o p]?=some (outT t o q):=q3;constructor
 ·unfold nx;rw [q2,Option.getD_some,zsl ha,Option.getD_some,Int.toNat_natCast];unfold stt;rw [H.cons hq hp q1 ha]
 ·obtain ⟨y,z,y1,y2,y3⟩:=row_out H.hv (H.row hp) (H.sing ha);unfold ot;rw [q3,Option.getD_some,outT_at ha,Option.getD_some,q1,y1];unfold tailA;rw [y2,Option.getD_some,y3];rfl
theorem zca.rep (H:zca t o) {p:List Int} (hp:p∈t.Prefixes) {a:Nat} (ha:a<t.Inputs.toNat):∃ q∈t.Prefixes,rowG t o q=rowG t o (p++[(↑a:Int)])∧stt t o q=stt t o (p++[(↑a:Int)]):=by
 obtain ⟨q,hq,q1,_⟩:=H.at (H.closed hp ha);exact ⟨q,hq,q1,by unfold stt;rw [q1]⟩
theorem zca.sufs (H:zca t o) {e:List Int} (he:e∈t.Suffixes):WOk t.Inputs e:=zdv ((zdy (zcp H.hz).1).2.2.2 e he).1
theorem same_tail {p q:List Int} {r:Row} (hp:rowO o p t.Suffixes=some r) (hq:rowO o q t.Suffixes=some r) {e:List Int} (he:e∈t.Suffixes):tailA o p e=tailA o q e:=by
 obtain ⟨i,hi,rfl⟩:=List.mem_iff_getElem.1 he;have h1:=rowO_at hp (get_at hi);rw [rowO_at hq (get_at hi)] at h1;injection h1 with h1
 exact h1.symm
theorem zca.along (H:zca t o) (hc:∀ e∈t.Suffixes,e.drop 1∈t.Suffixes∨e.drop 1=[]):∀ (e:List Int),e∈t.Suffixes∨e=[]→∀ p∈t.Prefixes,Sym.outs (hypT t o).M (stt t o p) e=tailA o p e
 | [],_,p,_=>(zvi H.hv p).symm
 | a::e,he,p,hp=>by
  have he:=he.resolve_right (by simp);have ha:=(H.sufs he).head;have han:a.toNat<t.Inputs.toNat:=by omega
  have haa:a=((a.toNat:Nat):Int):=by omega
  obtain ⟨n1,n2⟩:=H.nx_ot hp han;rw [← haa] at n1 n2;obtain ⟨q,hq,q1,q2⟩:=H.rep hp han;rw [← haa] at q1 q2;have hans:=zsm (H.row hp) _ he;rw [tailA_cons H.hv hans n2];show ot (hypT t o).M (stt t o p) a.toNat::Sym.outs (hypT t o).M (nx (hypT t o).M (stt t o p) a.toNat) e=_;rw [n1,← q2,H.along hc e (hc _ he) q hq];congr 1;rcases hc _ he with h | h
  ·have hx:=H.ext hp han;rw [← haa] at hx;exact same_tail (t:=t) (by rw [H.row hq,q1]) hx h
  ·have h:e=[]:=h;subst h;rw [zvi H.hv,zvi H.hv]
theorem zca.walk (H:zca t o):∀ (k:Nat) (p:List Int),p.length=k→p∈t.Prefixes→ansO o p=some (Sym.outs (hypT t o).M 0 p)∧dest (hypT t o).M 0 p=stt t o p:=by
 intro k
 induction k with
 | zero =>
  intro p hl _;have e:=List.eq_nil_of_length_eq_zero hl;subst e;exact ⟨rfl,H.start.symm⟩
 | succ k ih =>
  intro p hl hp;have hval:=(zcp H.hz).1;have hpre:=zk8 hval _ p hp k rfl (by omega);have hx:=get_at (l:=p) (i:=k) (by omega);obtain ⟨x0,x1⟩:=H.sym hp hx
  have hpe:p=p.take k++[p[k]'(by omega)]:=by
   rw [← zbk hx,← hl,List.take_length]
  have han:(p[k]'(by omega)).toNat<t.Inputs.toNat:=by omega
  have haa:(p[k]'(by omega))=(((p[k]'(by omega)).toNat:Nat):Int):=by omega
  obtain ⟨i1,i2⟩:=ih (p.take k) (by rw [List.length_take];omega) hpre;obtain ⟨n1,n2⟩:=H.nx_ot hpre han;rw [← haa,← hpe] at n1;rw [← haa] at n2;have hmem:=zkH (H.sing han);rw [← haa] at hmem;have hs:=ans_split H.hv i1 (zsm (H.row hpre) _ hmem);rw [n2,← hpe] at hs;constructor
  ·rw [hs]
   conv=>rhs;rw [hpe,zfd,i2]
   rfl
  ·conv=>lhs;rw [hpe,zea,i2]
   show nx (hypT t o).M (stt t o (p.take k)) _=_;rw [n1]
end
end
theorem zj7:zmt=some true:=by decide +kernel
section
def stepT (t:zac) (o:zad):zac×List (List Int)×Bool×Int :=
 if chkT t o≠0 then (t,[],false,chkT t o)
 else if zdx o t t.Prefixes≠[] then (t,maxR (zdx o t t.Prefixes),false,0)
 else match (extL t).find? (newRow t o) with
  | some w=>((zex t w).1,[],false,(zex t w).2)
  | none=>match iP t o with
   | some x=>((zfi t (toW t x)).1,[],false,(zfi t (toW t x)).2)
   | none=>(t,[],true,0)
section
variable {t:zac} {o:zad}
theorem compT_of (h1:chkT t o=0) (h2:zdx o t t.Prefixes=[]):zjz t o=0:=by
 unfold zjz;rw [if_neg (by simpa using h1),if_pos h2]
theorem toW_len (ht:zjy t) (x:Int×Int×Bool):(toW t x).length≤81:=by
 unfold toW;cases h2:t.Suffixes[x.2.1.toNat]? with
 | none=>simp
 | some e =>
  have:=ht.sw e (zkH h2);simp;omega
theorem pos_len {l:List (List Int)} (h:l≠[]):(0:Int)<(↑l.length:Int):=by
 have:=List.length_pos_iff.2 h;omega
theorem lstar_Step_eq (ht:zjy t) (ho:SmO o) (hv:zeg o):zd7 t o=some (stepT t o):=by
 have hp:=ht.p;have hs:=ht.s;unfold zd7;rw [zkB (rfl:(0:Nat)=0),zkD,zap,elim_l,zty ht ho hv,zap];unfold stepT;by_cases h1:chkT t o=0
 ·rw [if_neg (by simpa using h1),if_neg (by simpa using h1)];by_cases h2:zdx o t t.Prefixes=[]
  ·rw [if_neg (by simpa using h2),maxR_nil.2 h2];have hz:=compT_of h1 h2;simp only [ne_eq,not_true_eq_false,decide_false,zkC,List.length_nil,Int.ofNat_zero,Int.natCast_zero,Int.lt_irrefl];rw [zap,zkC,zap,elim_l,zqz ht ho hv];unfold unclT;rw [if_neg (by simpa using hz)];cases hf:(extL t).find? (newRow t o) with
   | some w =>
    obtain ⟨w1,w2⟩:=extL_mem_sm ht (List.mem_of_find?_eq_some hf);simp only [zap,ne_eq,not_true_eq_false,decide_false,zkC,zkD];rw [zm8 ht.sm (by omega) w2 (by omega)];rfl
   | none =>
    simp only [zap,ne_eq,not_true_eq_false,decide_false,zkC];rw [elim_l,zml ht ho hv];unfold incT;rw [if_neg (by simpa using hz)];cases hi:iP t o with
    | some x =>
     have:=toW_len ht x;simp only [zap,ne_eq,not_true_eq_false,decide_false,zkC,zkD];rw [ztg ht.sm (by omega) (by omega)];rfl
    | none=>rfl
  ·rw [if_pos h2,zkA (by simp),zkC,zkB (pos_len fun h=>h2 (maxR_nil.1 h))];rfl
 ·rw [if_pos h1,if_pos h1,zkB h1];rfl
structure Kept (t u:zac):Prop where
 p:∀ x∈t.Prefixes,x∈u.Prefixes
 s:∀ x∈t.Suffixes,x∈u.Suffixes
 i:t.Inputs=u.Inputs
theorem Kept.self:Kept t t:=⟨fun _ h=>h,fun _ h=>h,rfl⟩
theorem znw (p s:List (List Int)):Kept t (zi8 t p s).1:=by
 unfold zi8;split
 ·exact Kept.self
 ·exact ⟨fun x h=>(zb6 _ _).2 (List.mem_append_left _ h),fun x h=>(zb6 _ _).2 (List.mem_append_left _ h),rfl⟩
theorem prefixT_kept (w:List Int):Kept t (zex t w).1:=by
 unfold zex;split
 ·exact Kept.self
 ·split
  ·exact Kept.self
  ·exact znw _ _
theorem suffixT_kept (w:List Int):Kept t (zfi t w).1:=by
 unfold zfi;split
 ·exact Kept.self
 ·split
  ·exact Kept.self
  ·split
   ·exact Kept.self
   ·exact znw _ _
theorem maxR_need_sml (hT:zjy t):SmL (maxR (zdx o t t.Prefixes)):=by
 refine ⟨?_,fun x hx=>?_⟩
 ·have h4:=maxR_length (zdx o t t.Prefixes)
  have hb:∀ P:List (List Int),(zdx o t P).length≤3000*P.length:=by
   intro P
   induction P with
   | nil=>simp [zdx]
   | cons p P ih =>
    unfold zdx at ih ⊢;rw [List.flatMap_cons,zkJ,zkL]
    have hw:((zho t.Inputs.toNat p).flatMap fun w=>zjj o w t.Suffixes).length≤600*(zho t.Inputs.toNat p).length:=by
     generalize zho t.Inputs.toNat p=X
     induction X with
     | nil=>simp
     | cons w X ih2 =>
      have:=zm2 o w t.Suffixes;have:=hT.s;rw [List.flatMap_cons,zkJ,zkL];omega
    have hwl:(zho t.Inputs.toNat p).length=t.Inputs.toNat+1:=by simp [zho]
    have:=hT.n;rw [hwl] at hw;omega
  have:=hb t.Prefixes;have:=hT.p;omega
 ·have hx:=zlu hx;unfold zdx at hx;obtain ⟨p,hpm,h2⟩:=List.mem_flatMap.1 hx;obtain ⟨u,hu,h3⟩:=List.mem_flatMap.1 h2;obtain ⟨⟨e,he,rfl⟩,_⟩:=zkp.1 h3;have h4:=hT.pw p hpm;have h5:=hT.sw e he
  have h6:u.length≤401:=by
   unfold zho at hu;rcases List.mem_cons.1 hu with rfl | hu
   ·omega
   ·obtain ⟨a,_,rfl⟩:=List.mem_map.1 hu;simp;omega
  unfold SmW;rw [zkJ];omega
structure StepSm (r:zac×List (List Int)×Bool×Int):Prop where
 p:SmL r.1.Prefixes
 s:SmL r.1.Suffixes
 w:SmL r.2.1
structure StepOk (t:zac) (o:zad) (r:zac×List (List Int)×Bool×Int):Prop where
 p:SmL r.1.Prefixes
 s:SmL r.1.Suffixes
 w:SmL r.2.1
 k:Kept t r.1
 n:t.Prefixes.length+t.Suffixes.length≤r.1.Prefixes.length+r.1.Suffixes.length
 d:r.2.2.1=true→r.2.2.2=0∧(hypR t o).2=0
def zhr (w:List Int):List (List Int):=(List.range w.length).map w.drop
def zeb (t:zac) (w:List Int) (mode:Int):zac×Int :=
 if zdf t≠0 then (t,zdf t) else if zbl w t.Inputs≠0 then (t,zbl w t.Inputs)
 else if mode=0 then zi8 t (sortW (preL [w])) [] else if mode=1 then zi8 t [] (zhr w) else (t,2)
theorem zop {l:List (List Int)} (hl:SmL l) (hp:SmL (sufL l)):zfl l=some (sortW (sufL l)):=by
 have hl1:l.length≤2000000:=hl.1;have hp1:(sufL l).length≤2000000:=hp.1;unfold zfl zbp
 rw [zcw (r:=sufL l) (fun s=>s.2≤l.length∧s.1=sufL (l.take s.2)) (fun s=>l.length-s.2) (fun s ⟨h1,h2⟩=>by
  obtain ⟨y,i⟩:=s
  simp only at h1 h2
  subst h2
  simp only [zbp.s14]
  by_cases h3:i<l.length
  ·left
   have hx:=get_at h3
   have hxs:SmW l[i]:=hl.2 _ (List.getElem_mem _)
   have hx1:l[i].length≤2000000:=hxs
   have hst:=sufL_step hx
   have hle:=sufL_take_len (l:=l) (i+1)
   rw [hst,zkJ,zfw] at hle
   refine ⟨(sufL (l.take (i+1)),i+1),?_,⟨h3,rfl⟩,by simp only;omega⟩
   rw [zcb hx,zkD,zaq hx,zar (by unfold inR;omega)]
   rw [zcw (r:=sufL (l.take i)++zgb l[i]) (fun s=>s.2≤l[i].length+1∧s.1=sufL (l.take i)++(zgb l[i]).take s.2) (fun s=>l[i].length+1-s.2) (fun s ⟨g1,g2⟩=>by
    obtain ⟨y,k⟩:=s
    simp only at g1 g2
    subst g2
    simp only [zbp.s13,zej]
    by_cases g3:k<l[i].length+1
    ·left
     refine ⟨(sufL (l.take i)++(zgb l[i]).take (k+1),k+1),?_,⟨g3,rfl⟩,by simp only;omega⟩
     rw [zkB (by omega),zkD,zar (by omega),Int.toNat_natCast]
     simp only [zap]
     rw [zar (by
      rw [zkJ,List.length_take,zfw]
      unfold za7
      omega),zar (by unfold inR;omega),suffixes_take _ (by omega),List.append_assoc]
    ·right
     have e:k=l[i].length+1:=by omega
     subst e
     rw [zkA (by omega),zkC,← zfw,List.take_length]) (s:=(sufL (l.take i),0)) ⟨Nat.zero_le _,by simp⟩]
   rw [hst]
   rfl
  ·right
   have e:i=l.length:=by omega
   subst e
   rw [zkA (by omega),zkC,List.take_length]) (s:=([],0)) ⟨Nat.zero_le _,by simp [sufL]⟩]
 simp only [zap];rw [zcm hp];rfl
theorem restL_sml {w:List Int} (hw:w.length≤100000):SmL (zhr w):=by
 refine ⟨by simp [zhr];omega,fun x hx=>?_⟩;obtain ⟨k,_,rfl⟩:=List.mem_map.1 hx;unfold SmW;rw [List.length_drop];omega
theorem zsk (w:List Int):sufL [w]=zgb w:=by simp [sufL]
theorem zo2 {w:List Int} (hw:w.length≤100000):SmL (sufL [w]):=by
 rw [zsk];refine ⟨by rw [zfw];omega,fun x hx=>?_⟩;obtain ⟨k,_,rfl⟩:=List.mem_map.1 hx;unfold SmW;rw [List.length_drop];omega
theorem mem_restL {w x:List Int}:x∈zhr w↔x∈sortW (sufL [w])∧0<x.length:=by
 rw [zb6,zsk];constructor
 ·intro h;obtain ⟨k,hk,rfl⟩:=List.mem_map.1 h;have hk:=List.mem_range.1 hk;exact ⟨List.mem_map.2 ⟨k,List.mem_range.2 (by omega),rfl⟩,by rw [List.length_drop];omega⟩
 ·rintro ⟨h,h2⟩;obtain ⟨k,hk,rfl⟩:=List.mem_map.1 h;rw [List.length_drop] at h2;exact List.mem_map.2 ⟨k,List.mem_range.2 (by omega),rfl⟩
theorem zu5 (ht:SmT t) {w:List Int} {mode:Int} (h1:t.Prefixes.length≤1100000) (h2:t.Suffixes.length≤1100000) (hw:w.length≤100000) (hr:∀ a∈w,inR a):zcf t w mode=some (zeb t w mode):=by
 unfold zcf zeb;rw [zfq t ht,zap];by_cases c1:zdf t=0
 ·rw [zkA (by simpa using c1),zkC,if_neg (by simpa using c1),zfe w _ (by unfold SmW;omega),zap];by_cases c2:zbl w t.Inputs=0
  ·rw [zkA (by simpa using c2),zkC,if_neg (by simpa using c2)];by_cases c3:mode=0
   ·rw [zkB c3,zkD,if_pos c3,zm8 ht hw hr (by omega),zap];unfold zex;rw [if_neg (by simpa using c1),if_neg (by simpa using c2)]
   ·rw [zkA c3,zkC,if_neg c3];by_cases c4:mode=1
    ·rw [zkB c4,zkD,if_pos c4,zcm ht.2.1,zap,zcm ht.2.2.1,zap,zop (sml_one hw) (zo2 hw),zap];have hsl:=zd4 (sufL [w]);rw [zsk,zfw,← zsk] at hsl;have htl:=zd4 t.Suffixes
     have key:=zcw (step:=fun (s:List (List Int)×Nat)=>zcf.s2 (sortW (sufL [w])) s.1 s.2) (r:=sortW t.Suffixes++(sortW (sufL [w])).filter fun x=>decide (0<x.length)) (fun s=>s.2≤(sortW (sufL [w])).length∧s.1=sortW t.Suffixes++((sortW (sufL [w])).take s.2).filter fun x=>decide (0<x.length)) (fun s=>(sortW (sufL [w])).length-s.2) (fun s ⟨g1,g2⟩=>by
      obtain ⟨y,i⟩:=s
      simp only at g1 g2
      subst g2
      simp only [zcf.s2]
      by_cases g3:i<(sortW (sufL [w])).length
      ·left
       have hx:=get_at g3
       have hfl:=List.length_filter_le (fun x=>decide (0<x.length)) ((sortW (sufL [w])).take i)
       rw [List.length_take] at hfl
       refine ⟨(sortW t.Suffixes++((sortW (sufL [w])).take (i+1)).filter fun x=>decide (0<x.length),i+1),?_,⟨g3,rfl⟩,by simp only;omega⟩
       rw [zcb hx,zkD,zaq hx,zbk hx,List.filter_append]
       by_cases g4:0<((sortW (sufL [w]))[i]).length
       ·rw [zkB (by omega),zkD,zar (by rw [zkJ];unfold za7;omega),List.filter_cons_of_pos (by simpa using g4),List.append_assoc]
        rfl
       ·rw [zkA (by omega),zkC,List.filter_cons_of_neg (by simpa using g4)]
        simp
      ·right
       have e:i=(sortW (sufL [w])).length:=by omega
       subst e
       rw [zkA (by omega),zkC,List.take_length]) (n:=fuel) (s:=(sortW t.Suffixes,0)) ⟨Nat.zero_le _,by simp⟩
     have hmem:∀ x,x∈sortW t.Suffixes++(sortW (sufL [w])).filter (fun x=>decide (0<x.length))↔x∈t.Suffixes++zhr w:=fun x=>by
      rw [List.mem_append,List.mem_append,zb6,List.mem_filter,decide_eq_true_eq,mem_restL]
     have hfl:=List.length_filter_le (fun x=>decide (0<x.length)) (sortW (sufL [w]));have hS:SmL (sortW t.Suffixes++(sortW (sufL [w])).filter fun x=>decide (0<x.length)):=zkv (by omega) (zn3 ht.2.2.1) ⟨by have:=(zn3 (zo2 hw)).1;omega,fun x hx=>(zn3 (zo2 hw)).2 x (List.mem_filter.1 hx).1⟩;have hg:=smt_grow (p:=[]) (s:=zhr w) ht sml_nil (restL_sml hw) (by have:=ht.2.1.1;simp;omega) (by simp [zhr];omega) (fun x hx=>by cases hx);rw [key,zap,zcm hS,zap,sortW_ext hmem];rw [List.append_nil] at hg;rw [zfq _ hg,zap];unfold zi8;rw [List.append_nil];by_cases c5:zdf ⟨t.Inputs,sortW t.Prefixes,sortW (t.Suffixes++zhr w)⟩=0
     ·rw [zkA (by simpa using c5),zkC,if_neg (by simpa using c5)]
     ·rw [zkB c5,zkD,if_pos c5]
    ·rw [zkA c4,zkC,if_neg c4]
  ·rw [zkB c2,zkD,if_pos c2]
 ·rw [zkB c1,zkD,if_pos c1]
end
end
section
def trow (m:zab) (S:List (List Int)) (w:List Int):Row:=S.map fun e=>outs m (dest m m.Start.toNat w) e
def KnS (o:zad) (S:List (List Int)) (w:List Int):Prop:=∀ e∈S,Kn o (w++e)
section
variable {m:zab} {o:zad} {S:List (List Int)} {w:List Int}
theorem ans_tail_true (hE:Expl m o) {e:List Int} (h:Kn o (w++e)):tailA o w e=outs m (dest m m.Start.toNat w) e:=by
 unfold tailA;rw [(znj hE).1 h,Option.getD_some,zfd,List.drop_append_of_le_length (by rw [zii];exact Nat.le_refl _),List.drop_of_length_le (by rw [zii];exact Nat.le_refl _),List.nil_append]
theorem zpn (hE:Expl m o):∀ (S:List (List Int)),(KnS o S w→rowO o w S=some (trow m S w))∧(∀ R,rowO o w S=some R→KnS o S w)
 | []=>⟨fun _=>rfl,fun R _ e he=>by cases he⟩
 | e::S=>by
  obtain ⟨h1,h2⟩:=zpn hE S;constructor
  ·intro h;have hk:=h e (by simp);unfold rowO;rw [(znj hE).1 hk,h1 fun x hx=>h x (by simp [hx])];simp only [Option.map_some,trow,List.map_cons];congr 2;rw [zfd,List.drop_append_of_le_length (by rw [zii];exact Nat.le_refl _),List.drop_of_length_le (by rw [zii];exact Nat.le_refl _),List.nil_append]
  ·intro R hR x hx;unfold rowO at hR;by_cases hk:Kn o (w++e)
   ·rw [(znj hE).1 hk] at hR;simp only at hR;cases hr:rowO o w S with
    | none=>rw [hr] at hR;cases hR
    | some R' =>
     rcases List.mem_cons.1 hx with g | g
     ·rw [g];exact hk
     ·exact h2 R' hr x g
   ·rw [(znj hE).2 hk] at hR;cases hR
theorem rowO_is (hE:Expl m o) {R:Row} (h:rowO o w S=some R):R=trow m S w:=by
 have:=(zpn hE S).1 ((zpn hE S).2 R h);rw [this] at h;injection h with h
 exact h.symm
theorem zuw {p q:List Int} (h:trow m S p=trow m S q) {e:List Int} (he:e∈S):outs m (dest m m.Start.toNat p) e=outs m (dest m m.Start.toNat q) e:=by
 unfold trow at h;exact List.map_inj_left.1 h e he
theorem zk5 (w:List Int) (a:Int):dest m m.Start.toNat (w++[a])=nx m (dest m m.Start.toNat w) a.toNat:=by
 rw [zea];rfl
theorem zp7 (s:Nat) (a:Int) (w:List Int):outs m s (a::w)=ot m s a.toNat::outs m (nx m s a.toNat) w:=rfl
end
theorem zio {α:Type} [DecidableEq α]:∀ {l k:List α},l.Nodup→(∀ x∈l,x∈k)→l.length≤k.length
 | [],_,_,_=>Nat.zero_le _
 | x::l,k,h,hs=>by
  have hx:=hs x (by simp);have hn:=List.nodup_cons.1 h;have:=zio (l:=l) (k:=k.erase x) hn.2 fun y hy=>(List.mem_erase_of_ne (fun e=>hn.1 (by rw [← e];exact hy))).2 (hs y (by simp [hy]));rw [List.length_erase_of_mem hx] at this;have hp:0<k.length:=List.length_pos_of_mem hx;simp only [zkL];omega
def zl9 (n:Nat) (S P:List (List Int)):List (List Int):=P.flatMap fun p=>(zho n p).flatMap fun w=>S.map fun e=>w++e
theorem zh2 {n:Nat} {S P:List (List Int)} {v:List Int}:v∈zl9 n S P↔∃ p∈P,∃ w∈zho n p,∃ e∈S,w++e=v:=by
 unfold zl9;simp only [List.mem_flatMap,List.mem_map]
theorem zgv {o:zad} {t:zac} {P:List (List Int)} {v:List Int}:v∈zdx o t P↔v∈zl9 t.Inputs.toNat t.Suffixes P∧ansO o v=none:=by
 unfold zdx;rw [zh2];constructor
 ·intro h;obtain ⟨p,hp,h⟩:=List.mem_flatMap.1 h;obtain ⟨w,hw,h⟩:=List.mem_flatMap.1 h;obtain ⟨⟨e,he,h1⟩,h2⟩:=zkp.1 h;exact ⟨⟨p,hp,w,hw,e,he,h1.symm⟩,h2⟩
 ·rintro ⟨⟨p,hp,w,hw,e,he,h1⟩,h2⟩;exact List.mem_flatMap.2 ⟨p,hp,List.mem_flatMap.2 ⟨w,hw,zkp.2 ⟨⟨e,he,h1.symm⟩,h2⟩⟩⟩
theorem maxR_up {l:List (List Int)} (L:Nat) (hL:∀ x∈l,x.length≤L):∀ (k:Nat) (v:List Int),v∈l→L-v.length≤k→∃ y∈maxR l,v <+: y
 | k,v,hv,hk=>by
  by_cases h:∀ y∈l,y=v∨¬ v <+: y
  ·exact ⟨v,(zkb l v).2 ⟨hv,h⟩,List.prefix_refl _⟩
  ·have:∃ y∈l,y≠v∧v <+: y:=Classical.byContradiction fun hn=>h fun y hy=>Classical.byContradiction fun hn2=>hn ⟨y,hy,fun e=>hn2 (.inl e),Classical.byContradiction fun e=>hn2 (.inr e)⟩;obtain ⟨y,hy,hne,hp⟩:=this
   have hlt:v.length<y.length:=by
    rcases Nat.lt_or_ge v.length y.length with g | g
    ·exact g
    ·have:=hp.length_le;exact absurd (hp.eq_of_length (by omega)).symm hne
   have:=hL y hy;cases k with
   | zero=>omega
   | succ k =>
    obtain ⟨z,hz,hp2⟩:=maxR_up L hL k y hy (by omega);exact ⟨z,hz,hp.trans hp2⟩
theorem zjq {w:List Int} {n:Int} (hn:1≤n∧n≤1024) (hw:WOk n w) (hl:w.length≤1024):zbl w n=0:=by
 unfold zbl;rw [if_pos hn,if_neg (by omega),if_pos (List.all_eq_true.2 fun x hx=>zkB (hw x hx))]
end
section
theorem addR_nodup {R:List Row} (h:R.Nodup) (r:Row):(addR R r).Nodup:=by
 unfold addR;split
 ·exact h
 ·rename_i g;rw [List.nodup_append];exact ⟨h,by simp,fun a ha b hb e=>g (by rw [List.mem_singleton.1 hb] at e;rw [← e];exact ha)⟩
theorem znf:∀ (rs R:List Row),R.Nodup→(za4 R rs).Nodup
 | [],_,h=>h
 | r::rs,R,h=>znf rs (addR R r) (addR_nodup h r)
theorem mem_all {rs:List Row} {x:Row}:x∈za4 [] rs↔x∈rs:=by rw [zdi];simp
def kN (m:zab) (S P:List (List Int)):Nat:=(za4 [] (P.map (trow m S))).length
theorem map_reps {α β:Type} {f:α→β} {P:List α}:∀ (L:List β),(∀ r∈L,r∈P.map f)→∃ Q:List α,(∀ q∈Q,q∈P)∧Q.map f=L
 | [],_=>⟨[],fun _ h=>(by cases h),rfl⟩
 | r::L,h=>by
  obtain ⟨Q,h1,h2⟩:=map_reps L fun x hx=>h x (List.mem_cons_of_mem _ hx);obtain ⟨p,hp,e⟩:=List.mem_map.1 (h r List.mem_cons_self);refine ⟨p::Q,fun q hq=>?_,by rw [List.map_cons,e,h2]⟩;rcases List.mem_cons.1 hq with rfl | hq
  ·exact hp
  ·exact h1 q hq
section
variable {m:zab} {S S' P P':List (List Int)}
theorem kN_reps (m:zab) (S P:List (List Int)):∃ Q:List (List Int),(∀ q∈Q,q∈P)∧(Q.map (trow m S)).Nodup∧Q.length=kN m S P∧∀ p∈P,∃ q∈Q,trow m S q=trow m S p:=by
 obtain ⟨Q,h1,h2⟩:=map_reps (f:=trow m S) (P:=P) (za4 [] (P.map (trow m S))) fun r hr=>mem_all.1 hr;refine ⟨Q,h1,by rw [h2];exact znf _ _ List.nodup_nil,by unfold kN;rw [← h2,zkK],fun p hp=>?_⟩;have:trow m S p∈Q.map (trow m S):=by rw [h2];exact mem_all.2 (List.mem_map.2 ⟨p,hp,rfl⟩)
 obtain ⟨q,hq,e⟩:=List.mem_map.1 this;exact ⟨q,hq,e⟩
theorem kN_ge {Q:List (List Int)} (h1:(Q.map (trow m S)).Nodup) (h2:∀ q∈Q,q∈P):Q.length≤kN m S P:=by
 have:=zio (k:=za4 [] (P.map (trow m S))) h1 fun x hx=>by
  obtain ⟨q,hq,rfl⟩:=List.mem_map.1 hx;exact mem_all.2 (List.mem_map.2 ⟨q,h2 q hq,rfl⟩)
 rw [zkK] at this;exact this
theorem kN_le (H:zda m) (hP:∀ p∈P,WOk m.Inputs p):kN m S P≤m.Next.length:=by
 have hst:=H.st
 have:=zio (l:=za4 [] (P.map (trow m S))) (k:=(List.range m.Next.length).map fun s=>S.map fun e=>outs m s e) (znf _ _ List.nodup_nil) fun x hx=>by
  obtain ⟨p,hp,rfl⟩:=List.mem_map.1 (mem_all.1 hx);exact List.mem_map.2 ⟨dest m m.Start.toNat p,List.mem_range.2 (H.dest (hP p hp) (by omega)),rfl⟩
 rw [zkK,List.length_range] at this;exact this
theorem trow_sub {p q:List Int} (hs:∀ e∈S,e∈S') (h:trow m S' p=trow m S' q):trow m S p=trow m S q:=List.map_congr_left fun e he=>zuw h (hs e he)
theorem zu0 {Q:List (List Int)} (hs:∀ e∈S,e∈S') (h:(Q.map (trow m S)).Nodup):(Q.map (trow m S')).Nodup:=by
 rw [List.nodup_iff_pairwise_ne,List.pairwise_map] at h ⊢;exact h.imp fun {a b} hne e=>hne (trow_sub hs e)
theorem kN_mono (hP:∀ p∈P,p∈P') (hs:∀ e∈S,e∈S'):kN m S P≤kN m S' P':=by
 obtain ⟨Q,h1,h2,h3,_⟩:=kN_reps m S P;rw [← h3];exact kN_ge (zu0 hs h2) fun q hq=>hP q (h1 q hq)
theorem kN_new {w:List Int} (hP:∀ p∈P,p∈P') (hw:w∈P') (hn:∀ p∈P,trow m S p≠trow m S w):kN m S P+1≤kN m S P':=by
 obtain ⟨Q,h1,h2,h3,_⟩:=kN_reps m S P
 have:=kN_ge (m:=m) (S:=S) (P:=P') (Q:=w::Q) (by
  rw [List.map_cons,List.nodup_cons]
  exact ⟨fun h=>by
   obtain ⟨q,hq,e⟩:=List.mem_map.1 h
   exact hn q (h1 q hq) e,h2⟩) fun q hq=>by
  rcases List.mem_cons.1 hq with rfl | hq
  ·exact hw
  ·exact hP q (h1 q hq)
 rw [zkL,h3] at this;exact this
theorem kN_split {p q:List Int} (hp:p∈P) (hq:q∈P) (hs:∀ e∈S,e∈S') (he:trow m S p=trow m S q) (hn:trow m S' p≠trow m S' q):kN m S P+1≤kN m S' P:=by
 obtain ⟨Q,h1,h2,h3,h4⟩:=kN_reps m S P;obtain ⟨r,hr,er⟩:=h4 p hp
 have key:∀ x∈P,trow m S x=trow m S r→trow m S' x≠trow m S' r→kN m S P+1≤kN m S' P:=fun x hx ex nx=>by
  have:=kN_ge (m:=m) (S:=S') (P:=P) (Q:=x::Q) (by
   rw [List.map_cons,List.nodup_cons]
   refine ⟨fun h=>?_,zu0 hs h2⟩
   obtain ⟨y,hy,e⟩:=List.mem_map.1 h
   have e2:=trow_sub hs e
   obtain ⟨i,hi,rfl⟩:=List.getElem_of_mem hy
   obtain ⟨j,hj,rfl⟩:=List.getElem_of_mem hr
   have hij:i=j:=by
    have:=(List.getElem_inj (h₀:=by rw [zkK];exact hi) (h₁:=by rw [zkK];exact hj) h2).1 (by rw [List.getElem_map,List.getElem_map,e2,ex])
    exact this
   subst hij
   exact nx e.symm) fun y hy=>by
   rcases List.mem_cons.1 hy with rfl | hy
   ·exact hx
   ·exact h1 y hy
  rw [zkL,h3] at this;exact this
 by_cases g:trow m S' p=trow m S' r
 ·exact key q hq (he.symm.trans er.symm) fun h=>hn (g.trans h.symm)
 ·exact key p hp er.symm g
theorem rows_old (hP:∀ p∈P,p∈P') (hk:kN m S P'≤kN m S P) {w:List Int} (hw:w∈P'):∃ p∈P,trow m S p=trow m S w:=Classical.byContradiction fun g=>by
 have:=kN_new (m:=m) (S:=S) hP hw fun p hp e=>g ⟨p,hp,e⟩;omega
end
section
variable {m:zab} {t:zac} {o:zad}
theorem zca.true_ (H:zca t o) (T:zez m o) {w:List Int} (h:∃ r,rowO o w t.Suffixes=some r):rowG t o w=trow m t.Suffixes w:=by
 obtain ⟨r,hr⟩:=h;have:=rowO_is T.ex hr;rw [← this];exact zen hr
theorem zca.row_t (H:zca t o) (T:zez m o) {p:List Int} (hp:p∈t.Prefixes):rowG t o p=trow m t.Suffixes p:=H.true_ T ⟨_,H.row hp⟩
theorem zca.ext_t (H:zca t o) (T:zez m o) {p:List Int} (hp:p∈t.Prefixes) {a:Nat} (ha:a<t.Inputs.toNat):rowG t o (p++[(↑a:Int)])=trow m t.Suffixes (p++[(↑a:Int)]):=H.true_ T ⟨_,H.ext hp ha⟩
theorem zca.stt_row (H:zca t o) (T:zez m o) {p:List Int} (hp:p∈t.Prefixes):stt t o p=pos (trow m t.Suffixes p) (zet t o):=by unfold stt;rw [H.row_t T hp]
theorem zca.ot_t (H:zca t o) (T:zez m o) {p:List Int} (hp:p∈t.Prefixes) {a:Nat} (ha:a<t.Inputs.toNat):ot (hypT t o).M (stt t o p) a=ot m (dest m m.Start.toNat p) a:=by
 have h1:=(H.nx_ot hp ha).2;have hs:[(↑a:Int)]∈t.Suffixes:=zkH (H.sing ha);have hk:Kn o (p++[(↑a:Int)]):=(zpn T.ex t.Suffixes).2 _ (H.row hp) _ hs;rw [ans_tail_true T.ex hk] at h1
 have h2:Sym.outs m (dest m m.Start.toNat p) [(↑a:Int)]=[ot m (dest m m.Start.toNat p) a]:=by
  show [ot m (dest m m.Start.toNat p) (Int.toNat (↑a:Int))]=_;rw [Int.toNat_natCast]
 rw [h2] at h1;injection h1 with h1
 exact h1.symm
theorem zca.nx_t (H:zca t o) (T:zez m o) {p:List Int} (hp:p∈t.Prefixes) {a:Nat} (ha:a<t.Inputs.toNat):nx (hypT t o).M (stt t o p) a=pos (trow m t.Suffixes (p++[(↑a:Int)])) (zet t o):=by
 rw [(H.nx_ot hp ha).1];unfold stt;rw [H.ext_t T hp ha]
theorem ctx_pre (H:zca t o) (T:zez m o) (hi:t.Inputs=m.Inputs) {P':List (List Int)} (hP:∀ p∈t.Prefixes,p∈P') (hk:kN m t.Suffixes P'≤kN m t.Suffixes t.Prefixes)
  (hc:∀ p∈P',∀ q∈P',trow m t.Suffixes p=trow m t.Suffixes q→∀ a:Nat,a<m.Inputs.toNat→trow m t.Suffixes (p++[(↑a:Int)])=trow m t.Suffixes (q++[(↑a:Int)])) :
  ∀ (n:Nat) {w:List Int},w.length=n→WOk m.Inputs w→(∀ k,w.take k∈P')→outs (hypT t o).M 0 w=outs m m.Start.toNat w∧dest (hypT t o).M 0 w=pos (trow m t.Suffixes w) (zet t o)
 | 0,w,hn,_,_=>by
  have e:w=[]:=List.length_eq_zero_iff.1 hn;subst e;have h0:[]∈t.Prefixes:=zkH H.nil;refine ⟨rfl,?_⟩;show 0=_;rw [← H.stt_row T h0];exact H.start.symm
 | n+1,w,hn,hw,hp=>by
  obtain ⟨v,x,rfl⟩:∃ v x,w=v++[x]:=by
   rcases List.eq_nil_or_concat w with h | ⟨v,x,h⟩
   ·rw [h] at hn;cases hn
   ·exact ⟨v,x,by rw [h,List.concat_eq_append]⟩
  have hvl:v.length=n:=by rw [zkJ,List.length_singleton] at hn;omega
  have hx:=hw x (by simp);obtain ⟨a,rfl⟩:=Int.eq_ofNat_of_zero_le hx.1;have ha:a<m.Inputs.toNat:=by omega
  have hvw:WOk m.Inputs v:=fun y hy=>hw y (List.mem_append_left _ hy)
  have hvp:∀ k,v.take k∈P':=fun k=>by
   rcases Nat.lt_or_ge v.length k with g | g
   ·have:=hp v.length;rw [List.take_left' rfl] at this;rw [List.take_of_length_le (by omega)];exact this
   ·have:=hp k;rw [List.take_append_of_le_length g] at this;exact this
  obtain ⟨i1,i2⟩:=ctx_pre H T hi hP hk hc n hvl hvw hvp;have hvP:v∈P':=by have:=hvp v.length;rwa [List.take_length] at this
  obtain ⟨q,hq,eq⟩:=rows_old hP hk hvP;have hd:dest (hypT t o).M 0 v=stt t o q:=by rw [i2,H.stt_row T hq,eq]
  have hs:[(↑a:Int)]∈t.Suffixes:=zkH (H.sing (by rw [hi];exact ha));have ho:=zuw eq hs
  have ho2:ot m (dest m m.Start.toNat q) a=ot m (dest m m.Start.toNat v) a:=by
   have:[ot m (dest m m.Start.toNat q) (Int.toNat (↑a:Int))]=[ot m (dest m m.Start.toNat v) (Int.toNat (↑a:Int))]:=ho;injection this
  have h1:=H.ot_t T hq (a:=a) (by rw [hi];exact ha);have h2:=H.nx_t T hq (a:=a) (by rw [hi];exact ha);have h3:=hc q (hP q hq) v hvP eq a ha;constructor
  ·rw [zfd,zfd,i1,hd];show _++[ot (hypT t o).M (stt t o q) (Int.toNat (↑a:Int))]=_++[ot m _ (Int.toNat (↑a:Int))];rw [Int.toNat_natCast,h1,ho2]
  ·rw [zea,hd];show nx (hypT t o).M (stt t o q) (Int.toNat (↑a:Int))=_;rw [Int.toNat_natCast,h2,h3]
theorem ctx_suf (H:zca t o) (T:zez m o) (hi:t.Inputs=m.Inputs) {S':List (List Int)} (hS:∀ e∈t.Suffixes,e∈S')
  (hc:∀ p∈t.Prefixes,∀ a:Nat,a<m.Inputs.toNat→∃ q∈t.Prefixes,trow m S' q=trow m S' (p++[(↑a:Int)])) :
  ∀ (w:List Int),WOk m.Inputs w→(∀ k,w.drop k∈S'∨w.drop k=[])→∀ p∈t.Prefixes,outs (hypT t o).M (stt t o p) w=outs m (dest m m.Start.toNat p) w
 | [],_,_,_,_=>rfl
 | x::w,hw,hs,p,hp=>by
  have hx:=hw.head;obtain ⟨a,rfl⟩:=Int.eq_ofNat_of_zero_le hx.1;have ha:a<m.Inputs.toNat:=by omega
  obtain ⟨q,hq,eq⟩:=hc p hp a ha;have ih:=ctx_suf H T hi hS hc w hw.tail (fun k=>hs (k+1)) q hq;have h1:=H.ot_t T hp (a:=a) (by rw [hi];exact ha);have h2:=H.nx_t T hp (a:=a) (by rw [hi];exact ha);rw [← trow_sub hS eq,← H.stt_row T hq] at h2
  have h3:outs m (dest m m.Start.toNat q) w=outs m (dest m m.Start.toNat (p++[(↑a:Int)])) w:=by
   rcases hs 1 with g | g
   ·exact zuw eq g
   ·have g:w=[]:=g;rw [g];rfl
  show ot (hypT t o).M (stt t o p) (Int.toNat (↑a:Int))::outs (hypT t o).M (nx (hypT t o).M (stt t o p) (Int.toNat (↑a:Int))) w=ot m _ (Int.toNat (↑a:Int))::outs m (nx m _ (Int.toNat (↑a:Int))) w;rw [Int.toNat_natCast,h1,h2,ih,h3,zk5,Int.toNat_natCast]
end
end
section
section
variable {m:zab} {mode:Int} {t u v:zac} {o p:zad} {W:List (List Int)} {h:zb0} {w:List Int} {n:Nat}
theorem ps_ask (hS:zd7 t o=some (u,W,false,0)) (hA:zci m o W=some (p,0)):zby.s4 m mode t.Inputs t.Prefixes t.Suffixes o.Inputs o.Traces n=some (.inl (u.Inputs,u.Prefixes,u.Suffixes,p.Inputs,p.Traces,n)):=by
 unfold zby.s4;rw [show zd7 (⟨t.Inputs,t.Prefixes,t.Suffixes⟩:zac) (⟨o.Inputs,o.Traces⟩:zad)=some (u,W,false,0) from hS,zap];simp only;rw [zkA (fun h=>h rfl),zkC,Bool.not_false,zkD,show zci m (⟨o.Inputs,o.Traces⟩:zad) W=some (p,0) from hA,zap];simp only;rw [zkA (fun h=>h rfl),zkC];rfl
theorem ps_end (hS:zd7 t o=some (u,[],true,0)) (hH:zav u o=some (h,0)) (hD:zck h.M m=some (w,false,0)):zby.s4 m mode t.Inputs t.Prefixes t.Suffixes o.Inputs o.Traces n=some (.inr (h,o,(↑n:Int),0)):=by
 unfold zby.s4;rw [show zd7 (⟨t.Inputs,t.Prefixes,t.Suffixes⟩:zac) (⟨o.Inputs,o.Traces⟩:zad)=some (u,[],true,0) from hS,zap];simp only;rw [zkA (fun h=>h rfl),zkC,Bool.not_true,zkC,show zav u (⟨o.Inputs,o.Traces⟩:zad)=some (h,0) from hH,zap];simp only;rw [zkA (fun h=>h rfl),zkC,hD,zap];simp only;rw [zkA (fun h=>h rfl),zkC,Bool.not_false,zkD];rfl
theorem ps_ref (hn:n≤1000) (hS:zd7 t o=some (u,[],true,0)) (hH:zav u o=some (h,0)) (hD:zck h.M m=some (w,true,0)) (hA:zci m o [w]=some (p,0)) (hR:zcf u w mode=some (v,0)):zby.s4 m mode t.Inputs t.Prefixes t.Suffixes o.Inputs o.Traces n=some (.inl (v.Inputs,v.Prefixes,v.Suffixes,p.Inputs,p.Traces,n+1)):=by
 unfold zby.s4;rw [show zd7 (⟨t.Inputs,t.Prefixes,t.Suffixes⟩:zac) (⟨o.Inputs,o.Traces⟩:zad)=some (u,[],true,0) from hS,zap];simp only;rw [zkA (fun h=>h rfl),zkC,Bool.not_true,zkC,show zav u (⟨o.Inputs,o.Traces⟩:zad)=some (h,0) from hH,zap];simp only;rw [zkA (fun h=>h rfl),zkC,hD,zap];simp only;rw [zkA (fun h=>h rfl),zkC,Bool.not_true,zkC,show zci m (⟨o.Inputs,o.Traces⟩:zad) [w]=some (p,0) from hA,zap];simp only;rw [zkA (fun h=>h rfl),zkC,hR,zap];simp only;rw [zkA (fun h=>h rfl),zkC,zar (by unfold inR;omega)];rfl
end
end
section
def Ghost (m:zab) (t:zac):Prop:=∃ t0 o0 w,zca t0 o0∧zez m o0∧t0.Inputs=m.Inputs∧WOk m.Inputs w∧Sym.outs (hypT t0 o0).M 0 w≠Sym.outs m m.Start.toNat w ∧
 ((t.Suffixes=t0.Suffixes∧(∀ p∈t0.Prefixes,p∈t.Prefixes)∧(∀ k,w.take k∈t.Prefixes)∧kN m t.Suffixes t.Prefixes≤kN m t.Suffixes t0.Prefixes) ∨
 (t.Prefixes=t0.Prefixes∧(∀ e∈t0.Suffixes,e∈t.Suffixes)∧∀ k,w.drop k∈t.Suffixes∨w.drop k=[]))
abbrev kT (m:zab) (t:zac):Nat:=kN m t.Suffixes t.Prefixes
structure RunI (m:zab) (t:zac) (o:zad) (c x:Nat) (g:Bool):Prop where
 told:zez m o
 val:zdf t=0
 inp:t.Inputs=m.Inputs
 suf:∀ e∈t.Suffixes,e.drop 1∈t.Suffixes∨e.drop 1=[]
 pl:t.Prefixes.length≤1+x+25*c
 sl:t.Suffixes.length≤4+x+25*c
 pw:∀ p∈t.Prefixes,p.length≤25+x
 sw:∀ e∈t.Suffixes,e.length≤25+x
 k1:1+x≤kT m t
 k2:c+(if g=true then 0 else 1)≤kT m t
 gh:g=true→Ghost m t
theorem zn2 {t:zac} {p s:List (List Int)} (h:(zi8 t p s).2=0):(zi8 t p s).1=⟨t.Inputs,sortW (t.Prefixes++p),sortW (t.Suffixes++s)⟩∧zdf ⟨t.Inputs,sortW (t.Prefixes++p),sortW (t.Suffixes++s)⟩=0:=by
 unfold zi8 at h ⊢;split at h
 ·rename_i g;exact absurd h g
 ·rename_i g;rw [if_neg g];exact ⟨rfl,Classical.not_not.1 g⟩
section
variable {m:zab} {t:zac} {o:zad} {c x:Nat} {g:Bool}
theorem RunI.wok (J:RunI m t o c x g):∀ p∈t.Prefixes,WOk m.Inputs p:=fun p hp=>by
 have:=(zdy J.val).1 p hp;rw [J.inp] at this;exact zdv this
theorem RunI.swok (J:RunI m t o c x g):∀ p∈t.Suffixes,WOk m.Inputs p:=fun p hp=>by
 have:=((zdy J.val).2.2.2 p hp).1;rw [J.inp] at this;exact zdv this
theorem RunI.bnd (J:RunI m t o c x g) (H:zda m) (hn:m.Next.length≤12):kT m t≤12∧x≤11∧c≤12:=by
 have h1:kT m t≤m.Next.length:=kN_le (S:=t.Suffixes) H J.wok;have h2:=J.k1;have h3:=J.k2;refine ⟨by omega,by omega,?_⟩;have:c≤kT m t:=Nat.le_trans (Nat.le_add_right _ _) h3;omega
theorem RunI.tab (J:RunI m t o c x g) (H:zda m) (hn:m.Next.length≤12) (hi:m.Inputs≤4):zjy t:=by
 obtain ⟨b1,b2,b3⟩:=J.bnd H hn;have h1:=J.pl;have h2:=J.sl;have hi1:=H.i1;have hI:=J.inp;refine ⟨⟨by unfold inR;omega,⟨by omega,fun p hp=>by have:=J.pw p hp;unfold SmW;omega⟩,⟨by omega,fun p hp=>by have:=J.sw p hp;unfold SmW;omega⟩,fun p hp a ha=>by have:=J.wok p hp a ha;unfold inR;omega⟩,by omega,by omega,by omega,fun p hp=>by have:=J.pw p hp;omega,fun e he=>by have:=J.sw e he;omega⟩
theorem RunI.ask (J:RunI m t o c x g) (H:zda m) {W:List (List Int)} (hw:∀ w∈W,zbl w m.Inputs=0) (hN:(zdb m o W).Traces.length≤10000):RunI m t (zdb m o W) c x g:=⟨zp5 H W o J.told hw hN,J.val,J.inp,J.suf,J.pl,J.sl,J.pw,J.sw,J.k1,J.k2,J.gh⟩
theorem pre_mem (hval:zdf t=0) {p:List Int} (hp:p∈t.Prefixes) (a:Int) (x:List Int):x∈t.Prefixes++sortW (preL [p++[a]])↔x∈t.Prefixes∨x=p++[a]:=by
 rw [List.mem_append,zb6,zi6];unfold prefixes;constructor
 ·rintro (h | h)
  ·exact Or.inl h
  ·obtain ⟨k,hk,rfl⟩:=List.mem_map.1 h;have hk:=List.mem_range.1 hk;rw [zkJ,List.length_singleton] at hk;rcases Nat.lt_or_ge p.length k with h3 | h3
   ·right;rw [List.take_of_length_le (by rw [zkJ,List.length_singleton];omega)]
   ·left;rw [List.take_append_of_le_length h3];exact zk8 hval _ p hp k rfl h3
 ·rintro (h | rfl)
  ·exact Or.inl h
  ·exact Or.inr (List.mem_map.2 ⟨p.length+1,by simp,by rw [List.take_of_length_le (by simp)]⟩)
theorem zju (T:zez m o) (hA:zlk t o) {p w:List Int} (hp:p∈t.Prefixes) (hw:w∈zho t.Inputs.toNat p):rowO o w t.Suffixes=some (trow m t.Suffixes w):=by
 obtain ⟨r,hr⟩:=hA p hp w hw;rw [hr,rowO_is T.ex hr]
theorem zkw (n:Nat) (p:List Int):p∈zho n p:=by unfold zho;simp
theorem zpe {n a:Nat} (ha:a<n) (p:List Int):p++[(↑a:Int)]∈zho n p:=List.mem_cons_of_mem _ (List.mem_map.2 ⟨a,List.mem_range.2 ha,rfl⟩)
theorem rowsA_kN (T:zez m o) (hA:zlk t o):(zet t o).length=kT m t:=by
 unfold zet zh5 kT kN;congr 2;refine List.map_congr_left fun p hp=>?_;exact zen (zju T hA hp (zkw _ p))
theorem RunI.pre (J:RunI m t o c x g) (H:zda m) (hz:zjz t o=0) {w:List Int} (hf:(extL t).find? (newRow t o)=some w) (he:(zex t w).2=0) :
  RunI m (zex t w).1 o c (x+1) false∧kT m t+1≤kT m (zex t w).1:=by
 obtain ⟨hval,_,hA⟩:=zcp hz;obtain ⟨hn1,_,hAp,hAs,_,_,_,hne⟩:=zed hval;have hnew:newRow t o w=true:=List.find?_some hf;obtain ⟨p,hp,h2⟩:=List.mem_flatMap.1 (List.mem_of_find?_eq_some hf);obtain ⟨a,ha,rfl⟩:=List.mem_map.1 h2;have ha:=List.mem_range.1 ha;have hnot:p++[(↑a:Int)]∉t.Prefixes:=fun hm=>of_decide_eq_true hnew (List.mem_map.2 ⟨_,hm,rfl⟩)
 have hrow:∀ q∈t.Prefixes,trow m t.Suffixes q≠trow m t.Suffixes (p++[(↑a:Int)]):=fun q hq e=>by
  refine of_decide_eq_true hnew (List.mem_map.2 ⟨q,hq,?_⟩);rw [zju J.told hA hq (zkw _ q),zju J.told hA hp (zpe ha p),e]
 have hc:zbl (p++[(↑a:Int)]) t.Inputs=0:=Classical.byContradiction fun hc=>by
  unfold zex at he;rw [if_neg (fun h=>h hval),if_pos hc] at he;exact hc he
 have eG:zex t (p++[(↑a:Int)])=zi8 t (sortW (preL [p++[(↑a:Int)]])) []:=by
  unfold zex;rw [if_neg (fun h=>h hval),if_neg (fun h=>h hc)]
 rw [eG] at he ⊢;obtain ⟨e1,e2⟩:=zn2 he;obtain ⟨hlen,hmem⟩:=zud hAp hnot (pre_mem hval hp (↑a:Int));have hsuf:sortW (t.Suffixes++[])=t.Suffixes:=by rw [List.append_nil,ze8 hAs]
 rw [hsuf] at e1 e2;rw [e1];have hk:kT m t+1≤kN m t.Suffixes (sortW (t.Prefixes++sortW (preL [p++[(↑a:Int)]]))):=kN_new (fun q hq=>(hmem q).2 (.inl hq)) ((hmem _).2 (.inr rfl)) hrow;have h1:=J.pl;have h2:=J.sl;have h3:=J.k1;have h4:=J.k2;have h5:=J.pw p hp;refine ⟨⟨J.told,e2,J.inp,J.suf,by simp only;rw [hlen];omega,by simp only;omega,fun q hq=>?_,fun e h=>by have:=J.sw e h;omega,by simp only [kT] at hk h3 ⊢;omega,?_,fun h=>by cases h⟩,hk⟩
 ·rcases (hmem q).1 hq with h | rfl
  ·have:=J.pw q h;omega
  ·rw [zkJ,List.length_singleton];omega
 ·have:c≤kT m t:=Nat.le_trans (Nat.le_add_right _ _) h4;show c+(if false=true then 0 else 1)≤_;rw [if_neg Bool.false_ne_true];simp only [kT] at hk this ⊢;omega
theorem RunI.inc (J:RunI m t o c x g) (H:zda m) (hz:zjz t o=0) {y:Int×Int×Bool} (hf:iP t o=some y) (he:(zfi t (toW t y)).2=0) :
  RunI m (zfi t (toW t y)).1 o c (x+1) false∧kT m t+1≤kT m (zfi t (toW t y)).1:=by
 obtain ⟨hval,_,hA⟩:=zcp hz;obtain ⟨hn1,_,hAp,hAs,_,_,_,hne⟩:=zed hval;obtain ⟨p,q,hp,hq,hpq,a,e,rfl,ha,X,Y,u,hX,hY,hu,hne2⟩:=iP_parts hA hf;have hrp:=zju J.told hA hp (zkw _ p);have hrq:=zju J.told hA hq (zkw _ q)
 have hpq2:trow m t.Suffixes p=trow m t.Suffixes q:=by
  rw [hrp,hrq] at hpq;injection hpq
 have hX2:=zju J.told hA hp (zpe ha p);have hY2:=zju J.told hA hq (zpe ha q);rw [hX] at hX2;rw [hY] at hY2;injection hX2 with hX2
 injection hY2 with hY2
 have hel:e<t.Suffixes.length:=by
  have h1:=(zkI.1 hu).1;rw [hX2] at h1;unfold trow at h1
  rwa [zkK] at h1
 have hse:=get_at hel
 have hW:toW t ((a:Int),(e:Int),true)=(↑a:Int)::t.Suffixes[e]:=by
  unfold toW;simp [hse]
 rw [hW] at he ⊢;have hlen0:((↑a:Int)::t.Suffixes[e]).length≠0:=by simp
 have hc:zbl ((↑a:Int)::t.Suffixes[e]) t.Inputs=0:=Classical.byContradiction fun hc=>by
  unfold zfi at he;rw [if_neg (fun h=>h hval),if_neg hlen0,if_pos hc] at he;exact hc he
 have eG:zfi t ((↑a:Int)::t.Suffixes[e])=zi8 t [] [(↑a:Int)::t.Suffixes[e]]:=by
  unfold zfi;rw [if_neg (fun h=>h hval),if_neg hlen0,if_neg (fun h=>h hc)]
 rw [eG] at he ⊢;obtain ⟨e1,e2⟩:=zn2 he;have hpre:sortW (t.Prefixes++[])=t.Prefixes:=by rw [List.append_nil,ze8 hAp]
 rw [hpre] at e1 e2;rw [e1];have hmem:∀ z,z∈sortW (t.Suffixes++[(↑a:Int)::t.Suffixes[e]])↔z∈t.Suffixes∨z=(↑a:Int)::t.Suffixes[e]:=fun z=>by rw [zb6,List.mem_append,List.mem_singleton]
 have hlen:=zd4 (t.Suffixes++[(↑a:Int)::t.Suffixes[e]]);rw [zkJ,List.length_singleton] at hlen
 have hk:kT m t+1≤kN m (sortW (t.Suffixes++[(↑a:Int)::t.Suffixes[e]])) t.Prefixes:=by
  refine kN_split hp hq (fun z hz=>(hmem z).2 (.inl hz)) hpq2 fun hh=>hne2 ?_;have h1:=zuw hh ((hmem _).2 (.inr rfl))
  have h2:Sym.outs m (dest m m.Start.toNat (p++[(↑a:Int)])) t.Suffixes[e]=Sym.outs m (dest m m.Start.toNat (q++[(↑a:Int)])) t.Suffixes[e]:=by
   rw [zk5,zk5];rw [zp7,zp7] at h1;injection h1
  rw [hY2];rw [hX2] at hu;unfold trow at hu ⊢;rw [List.getElem?_map,hse,Option.map_some] at hu ⊢;rw [← hu,h2]
 have h1:=J.pl;have h2:=J.sl;have h3:=J.k1;have h4:=J.k2;have h5:=J.sw _ (List.getElem_mem hel);refine ⟨⟨J.told,e2,J.inp,fun z hz=>?_,by simp only;omega,by simp only;omega,fun q hq=>by have:=J.pw q hq;omega,fun z hz=>?_,by simp only [kT] at hk h3 ⊢;omega,?_,fun h=>by cases h⟩,hk⟩
 ·rcases (hmem z).1 hz with h | rfl
  ·rcases J.suf z h with h | h
   ·exact .inl ((hmem _).2 (.inl h))
   ·exact .inr h
  ·exact .inl ((hmem _).2 (.inl (List.getElem_mem hel)))
 ·rcases (hmem z).1 hz with h | rfl
  ·have:=J.sw z h;omega
  ·rw [zkL];omega
 ·have:c≤kT m t:=Nat.le_trans (Nat.le_add_right _ _) h4;show c+(if false=true then 0 else 1)≤_;rw [if_neg Bool.false_ne_true];simp only [kT] at hk this ⊢;omega
theorem RunI.noghost (J:RunI m t o c x true) (H:zca t o) (T:zez m o) (hM:zda m):False:=by
 obtain ⟨t0,o0,w,H0,T0,hi0,hw,hne,⟨hS,hP,hpre,hk⟩ | ⟨hP,hS,hsu⟩⟩:=J.gh rfl
 ·refine hne (ctx_pre H0 T0 hi0 hP (by rw [← hS];exact hk) (fun p hp q hq e a ha=>?_) w.length rfl hw hpre).1;rw [← hS] at e ⊢;have h1:=H.cons hp hq (by rw [H.row_t T hp,H.row_t T hq,e]) (a:=a) (by rw [J.inp];exact ha);rw [H.ext_t T hp (by rw [J.inp];exact ha),H.ext_t T hq (by rw [J.inp];exact ha)] at h1;exact h1
 ·have h0:[]∈t0.Prefixes:=zkH H0.nil
  have:=ctx_suf H0 T0 hi0 hS (fun p hp a ha=>by
   rw [← hP] at hp ⊢
   obtain ⟨q,hq,e,_⟩:=H.rep hp (a:=a) (by rw [J.inp];exact ha)
   rw [H.row_t T hq,H.ext_t T hp (by rw [J.inp];exact ha)] at e
   exact ⟨q,hq,e⟩) w hw hsu [] h0
  rw [H0.start] at this;exact hne this
theorem RunI.ctx (J:RunI m t o c x false) (H:zca t o) {o':zad} (T':zez m o') {w:List Int} (hw:WOk m.Inputs w) (hwl:w.length≤24) (hne:Sym.outs (hypT t o).M 0 w≠Sym.outs m m.Start.toNat w) {mode:Int} (hm:mode=0∨mode=1) (he:(zeb t w mode).2=0) :
  ∃ g',RunI m (zeb t w mode).1 o' (c+1) x g'∧kT m t≤kT m (zeb t w mode).1∧(g'=false→kT m t+1≤kT m (zeb t w mode).1):=by
 have hval:=J.val;obtain ⟨hn1,_,hAp,hAs,_,_,_,hne0⟩:=zed hval;have h1:=J.pl;have h2:=J.sl;have h3:=J.k1;have h4:=J.k2;rw [if_neg Bool.false_ne_true] at h4
 have hc:zbl w t.Inputs=0:=Classical.byContradiction fun hc=>by
  unfold zeb at he;rw [if_neg (fun h=>h hval),if_pos hc] at he;exact hc he
 rcases hm with rfl | rfl
 ·have eG:zeb t w 0=zi8 t (sortW (preL [w])) []:=by
   unfold zeb;rw [if_neg (fun h=>h hval),if_neg (fun h=>h hc),if_pos rfl]
  rw [eG] at he ⊢;obtain ⟨e1,e2⟩:=zn2 he;have hsuf:sortW (t.Suffixes++[])=t.Suffixes:=by rw [List.append_nil,ze8 hAs]
  rw [hsuf] at e1 e2;rw [e1]
  have hmem:∀ z,z∈sortW (t.Prefixes++sortW (preL [w]))↔z∈t.Prefixes∨∃ k,k≤w.length∧w.take k=z:=fun z=>by
   rw [zb6,List.mem_append,zb6,zi6];unfold prefixes;rw [List.mem_map];constructor
   ·rintro (h | ⟨k,hk,e⟩)
    ·exact .inl h
    ·exact .inr ⟨k,by have:=List.mem_range.1 hk;omega,e⟩
   ·rintro (h | ⟨k,hk,e⟩)
    ·exact .inl h
    ·exact .inr ⟨k,List.mem_range.2 (by omega),e⟩
  have hlen:=zd4 (t.Prefixes++sortW (preL [w]));have hlen2:=zd4 (preL [w]);rw [zkJ] at hlen;have hpl:(preL [w]).length=w.length+1:=by rw [zi6,ze0]
  have hmono:kT m t≤kN m t.Suffixes (sortW (t.Prefixes++sortW (preL [w]))):=kN_mono (fun p hp=>(hmem p).2 (.inl hp)) fun _ h=>h
  have base:∀ g',c+1+(if g'=true then 0 else 1)≤kN m t.Suffixes (sortW (t.Prefixes++sortW (preL [w])))→(g'=true→Ghost m ⟨t.Inputs,sortW (t.Prefixes++sortW (preL [w])),t.Suffixes⟩)→RunI m ⟨t.Inputs,sortW (t.Prefixes++sortW (preL [w])),t.Suffixes⟩ o' (c+1) x g':=fun g' hg hG=>by
   refine ⟨T',e2,J.inp,J.suf,by simp only;omega,by simp only;omega,fun z hz=>?_,J.sw,by simp only [kT] at hmono h3 ⊢;omega,hg,hG⟩;rcases (hmem z).1 hz with h | ⟨k,hk,rfl⟩
   ·exact J.pw z h
   ·rw [List.length_take];omega
  by_cases hk:kT m t+1≤kN m t.Suffixes (sortW (t.Prefixes++sortW (preL [w])))
  ·exact ⟨false,base false (by rw [if_neg Bool.false_ne_true];simp only [kT] at hk h4;omega) (fun h=>by cases h),hmono,fun _=>hk⟩
  ·refine ⟨true,base true (by rw [if_pos rfl];simp only [kT] at hmono h4;omega) (fun _=>⟨t,o,w,H,J.told,J.inp,hw,hne,.inl ⟨rfl,fun p hp=>(hmem p).2 (.inl hp),fun k=>?_,by simp only [kT] at hk ⊢;omega⟩⟩),hmono,fun h=>by cases h⟩;rcases Nat.lt_or_ge w.length k with q | q
   ·exact (hmem _).2 (.inr ⟨w.length,Nat.le_refl _,by rw [List.take_length,List.take_of_length_le (by omega)]⟩)
   ·exact (hmem _).2 (.inr ⟨k,q,rfl⟩)
 ·have eG:zeb t w 1=zi8 t [] (zhr w):=by
   unfold zeb;rw [if_neg (fun h=>h hval),if_neg (fun h=>h hc),if_neg (by decide),if_pos rfl]
  rw [eG] at he ⊢;obtain ⟨e1,e2⟩:=zn2 he;have hpre:sortW (t.Prefixes++[])=t.Prefixes:=by rw [List.append_nil,ze8 hAp]
  rw [hpre] at e1 e2;rw [e1]
  have hmem:∀ z,z∈sortW (t.Suffixes++zhr w)↔z∈t.Suffixes∨∃ k,k<w.length∧w.drop k=z:=fun z=>by
   rw [zb6,List.mem_append];unfold zhr;rw [List.mem_map];constructor
   ·rintro (h | ⟨k,hk,e⟩)
    ·exact .inl h
    ·exact .inr ⟨k,List.mem_range.1 hk,e⟩
   ·rintro (h | ⟨k,hk,e⟩)
    ·exact .inl h
    ·exact .inr ⟨k,List.mem_range.2 hk,e⟩
  have hlen:=zd4 (t.Suffixes++zhr w);rw [zkJ] at hlen;have hrl:(zhr w).length=w.length:=by unfold zhr;rw [zkK,List.length_range]
  have hmono:kT m t≤kN m (sortW (t.Suffixes++zhr w)) t.Prefixes:=kN_mono (fun _ h=>h) fun e h=>(hmem e).2 (.inl h)
  have base:∀ g',c+1+(if g'=true then 0 else 1)≤kN m (sortW (t.Suffixes++zhr w)) t.Prefixes→(g'=true→Ghost m ⟨t.Inputs,t.Prefixes,sortW (t.Suffixes++zhr w)⟩)→RunI m ⟨t.Inputs,t.Prefixes,sortW (t.Suffixes++zhr w)⟩ o' (c+1) x g':=fun g' hg hG=>by
   refine ⟨T',e2,J.inp,fun z hz=>?_,by simp only;omega,by simp only;omega,J.pw,fun z hz=>?_,by simp only [kT] at hmono h3 ⊢;omega,hg,hG⟩
   ·rcases (hmem z).1 hz with h | ⟨k,hk,rfl⟩
    ·rcases J.suf z h with h | h
     ·exact .inl ((hmem _).2 (.inl h))
     ·exact .inr h
    ·rw [List.drop_drop];rcases Nat.lt_or_ge (k+1) w.length with q | q
     ·exact .inl ((hmem _).2 (.inr ⟨k+1,q,rfl⟩))
     ·exact .inr (List.drop_of_length_le q)
   ·rcases (hmem z).1 hz with h | ⟨k,hk,rfl⟩
    ·exact J.sw z h
    ·rw [List.length_drop];omega
  by_cases hk:kT m t+1≤kN m (sortW (t.Suffixes++zhr w)) t.Prefixes
  ·exact ⟨false,base false (by rw [if_neg Bool.false_ne_true];simp only [kT] at hk h4;omega) (fun h=>by cases h),hmono,fun _=>hk⟩
  ·refine ⟨true,base true (by rw [if_pos rfl];simp only [kT] at hmono h4;omega) (fun _=>⟨t,o,w,H,J.told,J.inp,hw,hne,.inr ⟨rfl,fun e h=>(hmem e).2 (.inl h),fun k=>?_⟩⟩),hmono,fun h=>by cases h⟩;rcases Nat.lt_or_ge k w.length with q | q
   ·exact .inl ((hmem _).2 (.inr ⟨k,q,rfl⟩))
   ·exact .inr (List.drop_of_length_le q)
end
end
section
section
variable {m:zab} {t:zac} {o:zad} {c x:Nat} {g:Bool}
theorem zez.smR (T:zez m o):SmO o:=by
 refine ⟨by have:=T.ok.num;omega,fun t ht=>?_⟩;have h1:=zni (T.ok.prop t ht).1.1;have h2:=(T.tr.2 t ht).2;unfold SmW at h2;exact ⟨by omega,h2⟩
theorem zwx (T:zez m o) {v:List Int}:ansO o v=none↔¬ Kn o v :=
 ⟨fun h hk=>(by rw [(znj T.ex).1 hk] at h;cases h),fun h=>(znj T.ex).2 h⟩
theorem RunI.need (J:RunI m t o c x g) (H:zda m) (hn:m.Next.length≤12) (hi:m.Inputs≤4):(∀ w∈maxR (zdx o t t.Prefixes),zbl w m.Inputs=0)∧(maxR (zdx o t t.Prefixes)).length≤2000000∧(10000<(maxR (zdx o t t.Prefixes)).length→10000<(zdb m o (maxR (zdx o t t.Prefixes))).Traces.length) ∧
  ((zdb m o (maxR (zdx o t t.Prefixes))).Traces.length≤10000→zdx (zdb m o (maxR (zdx o t t.Prefixes))) t t.Prefixes=[]):=by
 obtain ⟨b1,b2,b3⟩:=J.bnd H hn;have hT:=J.tab H hn hi;have hi1:=H.i1
 have hcell:∀ v∈zdx o t t.Prefixes,WOk m.Inputs v∧v.length≤200:=fun v hv=>by
  obtain ⟨h1,_⟩:=zgv.1 hv;obtain ⟨p,hp,w,hw,e,he,rfl⟩:=zh2.1 h1;have h2:=J.pw p hp;have h3:=J.sw e he
  have hww:WOk m.Inputs w∧w.length≤p.length+1:=by
   unfold zho at hw;rcases List.mem_cons.1 hw with rfl | hw
   ·exact ⟨J.wok _ hp,by omega⟩
   ·obtain ⟨a,ha,rfl⟩:=List.mem_map.1 hw;have ha:=List.mem_range.1 ha;rw [J.inp] at ha;refine ⟨fun y hy=>?_,by simp⟩;rcases List.mem_append.1 hy with h | h
    ·exact J.wok p hp y h
    ·rw [List.mem_singleton.1 h];omega
  exact ⟨hww.1.append (J.swok e he),by rw [zkJ];omega⟩
 have hw:∀ w∈maxR (zdx o t t.Prefixes),zbl w m.Inputs=0:=fun w hw=>by
  obtain ⟨h1,h2⟩:=hcell w (zlu hw);exact zjq ⟨hi1,by omega⟩ h1 (by omega)
 have hkn:∀ v,Kn (zdb m o (maxR (zdx o t t.Prefixes))) v↔Kn o v∨∃ w∈maxR (zdx o t t.Prefixes),v <+: w:=fun v=>zj4 _ _;refine ⟨hw,(maxR_need_sml hT).1,fun hl=>?_,fun hN=>?_⟩
 ·have hnd:(maxR (zdx o t t.Prefixes)).Nodup:=(maxR_asc _).imp fun {a b} h e=>by
   rw [e,zeu] at h;cases h
  have:=zio (k:=(zdb m o (maxR (zdx o t t.Prefixes))).Traces.map fun t=>t.In) hnd fun w hw'=>by
   rcases (hkn w).2 (.inr ⟨w,hw',List.prefix_refl _⟩) with h | ⟨u,hu,hp⟩
   ·exfalso;have:=(zgv.1 (zlu hw')).2;exact (zwx J.told).1 this (.inl h)
   ·rcases zk3 _ _ hu with h | h
    ·exact absurd (.inr ⟨u,h,hp⟩) ((zwx J.told).1 (zgv.1 (zlu hw')).2)
    ·rcases ((zkb _ w).1 hw').2 u.In (zlu h) with e | e
     ·exact List.mem_map.2 ⟨u,hu,e⟩
     ·exact absurd hp e
  rw [zkK] at this;omega
 ·have T':=zp5 H (maxR (zdx o t t.Prefixes)) o J.told hw hN;refine List.eq_nil_iff_forall_not_mem.2 fun v hv=>?_;obtain ⟨h1,h2⟩:=zgv.1 hv;have h3:=(zwx T').1 h2;by_cases h4:ansO o v=none
  ·obtain ⟨y,hy,hp⟩:=maxR_up 200 (fun z hz=>(hcell z hz).2) 200 v (zgv.2 ⟨h1,h4⟩) (by omega);exact h3 ((hkn v).2 (.inr ⟨y,hy,hp⟩))
  ·exact h3 ((hkn v).2 (.inl (Classical.byContradiction fun h=>h4 ((zwx J.told).2 h))))
def mu (m:zab) (t:zac) (o:zad) (g:Bool):Nat:=10*(12-kT m t)+(if g=true then 0 else 2)+(if zdx o t t.Prefixes=[] then 0 else 1)
theorem mu_le (m:zab) (t:zac) (o:zad) (g:Bool):mu m t o g≤10*(12-kT m t)+3:=by
 unfold mu;split<;>split<;>omega
structure ResR (r:zb0×zad×Int×Int):Prop where
 h1:SmL r.1.M.Next
 h2:SmL r.1.M.Out
 h3:SmL r.1.Access
 h4:SmTr r.2.1.Traces
theorem iter_inr {S R:Type} {step:S→Option (S⊕R)} {s:S} {r:R} {n:Nat} (h:step s=some (.inr r)):iter step (n+1) s=some r:=by unfold iter;rw [h]
theorem iter_inl {S R:Type} {step:S→Option (S⊕R)} {s s':S} {n:Nat} (h:step s=some (.inl s')):iter step (n+1) s=iter step n s':=by
 show (match step s with | none=>none | some (.inl s')=>iter step n s' | some (.inr r)=>some r)=_
 rw [h]
abbrev pStep (m:zab) (mode:Int):=fun (s:Int×List (List Int)×List (List Int)×Int×List zaa×Nat)=>zby.s4 m mode s.1 s.2.1 s.2.2.1 s.2.2.2.1 s.2.2.2.2.1 s.2.2.2.2.2
end
end
section
section
variable {m:zab}
theorem new_valid (H:zda m) (hi:m.Inputs≤4):zdf ⟨m.Inputs,[[]],ze5 m.Inputs.toNat⟩=0:=by
 have hi1:=H.i1;have hsl:=zib m.Inputs.toNat;have hck:zbl [] m.Inputs=0:=zjq ⟨hi1,by omega⟩ (fun y hy=>by cases hy) (by simp)
 have hs:∀ w∈ze5 m.Inputs.toNat,∃ a:Nat,a<m.Inputs.toNat∧w=[(↑a:Int)]:=fun w hw=>by
  unfold ze5 at hw;obtain ⟨a,ha,rfl⟩:=List.mem_map.1 hw;exact ⟨a,List.mem_range.1 ha,rfl⟩
 refine zjk hi1 hi (by simp) (by simp) (by simp only;omega) (by simp only [List.length_singleton];omega) (List.pairwise_singleton _ _) ?_ (fun w hw=>?_) (fun w hw=>?_) (fun w hw h0=>?_) (by simp) (fun a ha=>List.mem_map.2 ⟨a,ha,rfl⟩)
 ·unfold ze5;refine List.pairwise_map.2 (List.Pairwise.imp (fun {a b} h=>?_) List.pairwise_lt_range);unfold cmpW;simp only [List.length_singleton,Nat.lt_irrefl,if_false];unfold lexI;rw [if_pos (by omega)]
 ·rw [List.mem_singleton.1 hw];exact ⟨hck,by simp⟩
 ·obtain ⟨a,ha,rfl⟩:=hs w hw;exact ⟨zjq ⟨hi1,by show m.Inputs≤1024;omega⟩ (fun y hy=>by rw [List.mem_singleton.1 hy];show 0≤(↑a:Int)∧(↑a:Int)<m.Inputs;omega) (by simp),by simp,by simp⟩
 ·rw [List.mem_singleton.1 hw] at h0;cases h0
theorem run_start (H:zda m) (hi:m.Inputs≤4):RunI m ⟨m.Inputs,[[]],ze5 m.Inputs.toNat⟩ ⟨m.Inputs,[]⟩ 0 0 false:=by
 have hk:1≤kT m ⟨m.Inputs,[[]],ze5 m.Inputs.toNat⟩:=kN_ge (m:=m) (S:=ze5 m.Inputs.toNat) (P:=[[]]) (Q:=[[]]) (by simp) (fun q hq=>hq);refine ⟨none_told ⟨H.i1,H.i2⟩,new_valid H hi,rfl,fun e he=>?_,by simp,by simp only [zib];omega,fun p hp=>?_,fun e he=>?_,hk,by rw [if_neg Bool.false_ne_true];exact hk,fun h=>by cases h⟩
 ·unfold ze5 at he;obtain ⟨a,_,rfl⟩:=List.mem_map.1 he;exact .inr rfl
 ·rw [List.mem_singleton.1 hp];simp
 ·unfold ze5 at he;obtain ⟨a,_,rfl⟩:=List.mem_map.1 he;simp
end
end
section
theorem zv5 {α:Type} (p:α→Bool):∀ l:List α,(l.filter p).length+(l.filter fun x=>!p x).length=l.length
 | []=>rfl
 | x::l=>by
  have:=zv5 p l;cases h:p x with
  | true=>rw [List.filter_cons_of_pos h,List.filter_cons_of_neg (by simp [h]),zkL,zkL];omega
  | false=>rw [List.filter_cons_of_neg (by simp [h]),List.filter_cons_of_pos (by simp [h]),zkL,zkL];omega
def nextW (n:Nat) (P:List (List Int)):List (List Int):=P.flatMap fun p=>(List.range n).map fun (a:Nat)=>p++[(↑a:Int)]
theorem nextW_len (n:Nat):∀ P:List (List Int),(nextW n P).length=n*P.length
 | []=>rfl
 | p::P=>by
  have:=nextW_len n P;unfold nextW at this ⊢;rw [List.flatMap_cons,zkJ,zkK,List.length_range,this,zkL,Nat.mul_succ];omega
def extN (n:Nat) (P:List (List Int)):List (List Int):=(nextW n P).filter fun w=>!decide (w∈P)
theorem mem_next {n:Nat} {P:List (List Int)} {p:List Int} {a:Nat} (hp:p∈P) (ha:a<n):p++[(↑a:Int)]∈nextW n P:=List.mem_flatMap.2 ⟨p,hp,List.mem_map.2 ⟨a,List.mem_range.2 ha,rfl⟩⟩
theorem extN_len {n:Nat} {P:List (List Int)} (hnd:P.Nodup) (hcl:∀ w∈P,0<w.length→w.take (w.length-1)∈P) (hw:∀ w∈P,∀ x∈w,(0:Int)≤x∧x<n):(extN n P).length+P.length≤n*P.length+1:=by
 have h1:=zv5 (fun w=>decide (w∈P)) (nextW n P)
 have h2:P.length≤([]::(nextW n P).filter fun w=>decide (w∈P)).length:=zio hnd fun w h=>by
  rcases List.eq_nil_or_concat w with e | ⟨v,x,e⟩
  ·rw [e];simp
  ·rw [List.concat_eq_append] at e;have hv:=hcl w h (by rw [e];simp);rw [e,zkJ,List.length_singleton,Nat.add_sub_cancel,List.take_left' rfl] at hv;have hx:=hw w h x (by rw [e];simp);obtain ⟨a,rfl⟩:=Int.eq_ofNat_of_zero_le hx.1;refine List.mem_cons_of_mem _ (List.mem_filter.2 ⟨by rw [e];exact mem_next hv (by omega),by simp [h]⟩)
 rw [zkL] at h2;rw [nextW_len] at h1;unfold extN;omega
section
variable {m:zab} {t:zac} {o:zad} {c x:Nat} {g:Bool} {C:List (List Int)}
theorem cell_walk {n:Nat} {P S:List (List Int)} (hS:∀ e∈S,e.drop 1∈S∨e.drop 1=[]) (hw:∀ e∈S,∀ y∈e,(0:Int)≤y∧y<n):∀ (e w:List Int),e∈S∨e=[]→w∈P∨w∈extN n P→w++e∈P∨w++e∈extN n P∨∃ v∈extN n P,∃ f∈S,v++f=w++e
 | [],w,_,h=>by
  rw [List.append_nil];rcases h with h | h
  ·exact .inl h
  ·exact .inr (.inl h)
 | a::e,w,he,h=>by
  have he:a::e∈S:=by
   rcases he with h | h
   ·exact h
   ·cases h
  rcases h with h | h
  ·have ha:=hw _ he a (by simp);obtain ⟨a,rfl⟩:=Int.eq_ofNat_of_zero_le ha.1
   have h1:w++[(↑a:Int)]∈P∨w++[(↑a:Int)]∈extN n P:=by
    by_cases g:w++[(↑a:Int)]∈P
    ·exact .inl g
    ·exact .inr (List.mem_filter.2 ⟨mem_next h (by omega),by simp [g]⟩)
   have:=cell_walk hS hw e (w++[(↑a:Int)]) (hS _ he) h1;rw [List.append_assoc,List.singleton_append] at this;exact this
  ·exact .inr (.inr ⟨w,h,_,he,rfl⟩)
theorem traces_le (hT:zn8 o.Traces) (hval:zdf t=0) (hS:∀ e∈t.Suffixes,e.drop 1∈t.Suffixes∨e.drop 1=[]) (hcs:∀ u∈o.Traces,u.In∈C∨u.In∈zl9 t.Inputs.toNat t.Suffixes t.Prefixes)
  (hk:∀ v∈zl9 t.Inputs.toNat t.Suffixes t.Prefixes,Kn o v):o.Traces.length≤C.length+(extN t.Inputs.toNat t.Prefixes).length*t.Suffixes.length:=by
 obtain ⟨hn1,_,_,_,hsing,_,_,_⟩:=zed hval;obtain ⟨hp1,hp2,hp3,hs1⟩:=zdy hval
 have hnd:(o.Traces.map fun u=>u.In).Nodup:=by
  unfold List.Nodup;rw [List.pairwise_map]
  exact hT.asc.imp fun {a b} h e=>by
   rw [e,zeu] at h;cases h
 have h0:[(0:Int)]∈t.Suffixes:=hsing 0 (List.mem_range.2 (by omega))
 -- what follows is known too
 have more:∀ u∈o.Traces,(∃ p∈t.Prefixes,u.In∈zho t.Inputs.toNat p)→False:=fun u hu ⟨p,hp,h⟩=>by
  rcases hk (u.In++[(0:Int)]) (zh2.2 ⟨p,hp,_,h,_,h0,rfl⟩) with e | ⟨u',hu',hpre⟩
  ·simp at e
  ·have:=hT.one hu hu' ((List.prefix_append _ _).trans hpre);subst this;have:=hpre.length_le;rw [zkJ,List.length_singleton] at this;omega
 have:=zio (k:=C++(extN t.Inputs.toNat t.Prefixes).flatMap fun w=>t.Suffixes.map fun e=>w++e) hnd fun v hv=>by
  obtain ⟨u,hu,rfl⟩:=List.mem_map.1 hv;rcases hcs u hu with h | h
  ·exact List.mem_append_left _ h
  ·refine List.mem_append_right _ ?_;obtain ⟨p,hp,w,hw,e,he,h⟩:=zh2.1 h
   have hw2:w∈t.Prefixes∨w∈extN t.Inputs.toNat t.Prefixes:=by
    unfold zho at hw;rcases List.mem_cons.1 hw with rfl | hw
    ·exact .inl hp
    ·obtain ⟨a,ha,rfl⟩:=List.mem_map.1 hw;by_cases g:p++[(↑a:Int)]∈t.Prefixes
     ·exact .inl g
     ·exact .inr (List.mem_filter.2 ⟨mem_next hp (List.mem_range.1 ha),by simp [g]⟩)
   rcases cell_walk hS (fun e he y hy=>by have:=zdv (hs1 e he).1 y hy;omega) e w (.inl he) hw2 with h3 | h3 | ⟨v,hv,f,hf,h3⟩
   ·rw [h] at h3;exact (more u hu ⟨_,h3,zkw _ _⟩).elim
   ·rw [h] at h3;obtain ⟨q,hq,h4⟩:=List.mem_flatMap.1 (List.mem_filter.1 h3).1;obtain ⟨a,ha,h5⟩:=List.mem_map.1 h4;exact (more u hu ⟨q,hq,by rw [← h5];exact zpe (List.mem_range.1 ha) q⟩).elim
   ·rw [h] at h3;exact List.mem_flatMap.2 ⟨v,hv,List.mem_map.2 ⟨f,hf,h3⟩⟩
 rw [zkK,zkJ] at this
 have e:∀ l:List (List Int),(l.flatMap fun w=>t.Suffixes.map fun e=>w++e).length=l.length*t.Suffixes.length:=fun l=>by
  induction l with
  | nil=>simp
  | cons y l ih=>rw [List.flatMap_cons,zkJ,zkK,ih,zkL,Nat.succ_mul];omega
 rw [e] at this;exact this
def tri:Nat→Nat
 | 0=>0
 | k+1=>tri k+(k+13)
theorem zsy:∀ {b a:Nat},a≤b→tri a≤tri b
 | 0,a,h=>by rw [Nat.le_zero.1 h];exact Nat.le_refl _
 | b+1,a,h=>by
  rcases Nat.lt_or_eq_of_le h with h | h
  ·have:=zsy (b:=b) (a:=a) (by omega);show tri a≤tri b+(b+13);omega
  ·rw [h];exact Nat.le_refl _
structure RunL (m:zab) (t:zac) (o:zad) (mode:Int) (c x:Nat) (g:Bool):Prop where
 J:RunI m t o c x g
 m0:mode=0→t.Prefixes.length≤1+x+tri (kT m t-(if g=true then 0 else 1))∧t.Suffixes.length≤4+x
 m1:mode=1→t.Prefixes.length≤1+x∧t.Suffixes.length≤4+x+tri (kT m t-(if g=true then 0 else 1))
 g11:g=true→kT m t≤11
 cs:∃ C:List (List Int),C.length≤c∧∀ u∈o.Traces,u.In∈C∨u.In∈zl9 t.Inputs.toNat t.Suffixes t.Prefixes
theorem RunL.sizes {mode:Int} (R:RunL m t o mode c x g) (H:zda m) (hn:m.Next.length≤12) (hm:mode=0∨mode=1):t.Prefixes.length≤210∧t.Suffixes.length≤15∨t.Prefixes.length≤12∧t.Suffixes.length≤213:=by
 obtain ⟨b1,b2,b3⟩:=R.J.bnd H hn
 have ht:tri (kT m t-(if g=true then 0 else 1))≤198:=by
  refine Nat.le_trans (zsy (b:=11) ?_) (by decide);cases g with
  | true=>have:=R.g11 rfl;omega
  | false=>rw [if_neg Bool.false_ne_true];omega
 rcases hm with h | h
 ·have:=R.m0 h;omega
 ·have:=R.m1 h;omega
theorem RunL.prod {mode:Int} (R:RunL m t o mode c x g) (H:zda m) (hn:m.Next.length≤12) (hm:mode=0∨mode=1):(t.Prefixes.length+30)*5*(t.Suffixes.length+30)≤160000:=by
 rcases R.sizes H hn hm with ⟨h1,h2⟩ | ⟨h1,h2⟩
 ·exact Nat.le_trans (Nat.mul_le_mul (Nat.mul_le_mul_right 5 (Nat.add_le_add_right h1 30)) (Nat.add_le_add_right h2 30)) (by decide)
 ·exact Nat.le_trans (Nat.mul_le_mul (Nat.mul_le_mul_right 5 (Nat.add_le_add_right h1 30)) (Nat.add_le_add_right h2 30)) (by decide)
theorem RunL.few {mode:Int} (R:RunL m t o mode c x g) (H:zda m) (hn:m.Next.length≤12) (hi:m.Inputs≤4) (hm:mode=0∨mode=1) {p:zad} (hT:zn8 p.Traces)
  (hcs:∀ u∈p.Traces,(∃ u'∈o.Traces,u'.In=u.In)∨u.In∈zl9 t.Inputs.toNat t.Suffixes t.Prefixes) (hk:∀ v∈zl9 t.Inputs.toNat t.Suffixes t.Prefixes,Kn p v):p.Traces.length≤9500:=by
 obtain ⟨b1,b2,b3⟩:=R.J.bnd H hn;obtain ⟨C,hC,hcs2⟩:=R.cs;have hval:=R.J.val;have hI:=R.J.inp;obtain ⟨hn1,_,hAp,_,_,_,_,_⟩:=zed hval;obtain ⟨hp1,hp2,hp3,hs1⟩:=zdy hval
 have h1:=traces_le (C:=C) hT hval R.J.suf (fun u hu=>by
  rcases hcs u hu with ⟨u',hu',e⟩ | h
  ·rw [← e];exact hcs2 u' hu'
  ·exact .inr h) hk
 have h2:=extN_len (n:=t.Inputs.toNat) (P:=t.Prefixes) (hAp.imp fun {a b} h e=>by
  rw [e,zeu] at h
  cases h) hp2 (fun w hw y hy=>by have:=zdv (hp1 w hw) y hy;omega)
 have h3:t.Inputs.toNat*t.Prefixes.length≤4*t.Prefixes.length:=Nat.mul_le_mul_right _ (by omega);have h4:(extN t.Inputs.toNat t.Prefixes).length≤3*t.Prefixes.length+1:=by omega
 rcases R.sizes H hn hm with ⟨s1,s2⟩ | ⟨s1,s2⟩
 ·have:(extN t.Inputs.toNat t.Prefixes).length*t.Suffixes.length≤631*15:=Nat.mul_le_mul (by omega) s2;omega
 ·have:(extN t.Inputs.toNat t.Prefixes).length*t.Suffixes.length≤37*213:=Nat.mul_le_mul (by omega) s2;omega
end
end
section
section
variable {m:zab} {t t':zac} {o:zad} {c x:Nat} {g:Bool} {mode:Int}
theorem zwt (K:Kept t t') {v:List Int} (h:v∈zl9 t.Inputs.toNat t.Suffixes t.Prefixes):v∈zl9 t'.Inputs.toNat t'.Suffixes t'.Prefixes:=by
 obtain ⟨p,hp,w,hw,e,he,h⟩:=zh2.1 h;exact zh2.2 ⟨p,K.p p hp,w,by rw [← K.i];exact hw,e,K.s e he,h⟩
theorem RunL.up (R:RunL m t o mode c x g) (J:RunI m t' o c (x+1) false) (hk:kT m t+1≤kT m t') (K:Kept t t') (hl:t'.Prefixes.length≤t.Prefixes.length+1∧t'.Suffixes.length≤t.Suffixes.length∨t'.Prefixes.length≤t.Prefixes.length∧t'.Suffixes.length≤t.Suffixes.length+1):RunL m t' o mode c (x+1) false:=by
 have ht:tri (kT m t-(if g=true then 0 else 1))≤tri (kT m t'-(if false=true then 0 else 1)):=zsy (by rw [if_neg Bool.false_ne_true];omega);refine ⟨J,fun h=>?_,fun h=>?_,(fun h=>by cases h),?_⟩
 ·have:=R.m0 h;omega
 ·have:=R.m1 h;omega
 ·obtain ⟨C,hC,h⟩:=R.cs;refine ⟨C,hC,fun u hu=>?_⟩;rcases h u hu with h | h
  ·exact .inl h
  ·exact .inr (zwt K h)
theorem RunL.ask (R:RunL m t o mode c x g) (H:zda m) {W:List (List Int)} (hw:∀ w∈W,zbl w m.Inputs=0) (hN:(zdb m o W).Traces.length≤10000) (hW:∀ w∈W,w∈zl9 t.Inputs.toNat t.Suffixes t.Prefixes):RunL m t (zdb m o W) mode c x g:=by
 refine ⟨R.J.ask H hw hN,R.m0,R.m1,R.g11,?_⟩;obtain ⟨C,hC,h⟩:=R.cs;refine ⟨C,hC,fun u hu=>?_⟩;rcases zk3 _ _ hu with h1 | h1
 ·exact h u h1
 ·exact .inr (hW _ h1)
theorem RunL.ref (R:RunL m t o mode c x false) {w:List Int} {g':Bool} (J:RunI m t' (zdb m o [w]) (c+1) x g') (hk:kT m t≤kT m t') (a2:kT m t≤11) (hg:g'=false→kT m t+1≤kT m t') (hwl:w.length≤kT m t+12) (K:Kept t t')
  (h0:mode=0→t'.Prefixes.length≤t.Prefixes.length+w.length∧t'.Suffixes.length≤t.Suffixes.length) (h1:mode=1→t'.Prefixes.length≤t.Prefixes.length∧t'.Suffixes.length≤t.Suffixes.length+w.length) :
  ∃ g',RunL m t' (zdb m o [w]) mode (c+1) x g'∧(g'=false→kT m t+1≤kT m t'):=by
 have k1:=R.J.k1;have k2:=R.J.k2;rw [if_neg Bool.false_ne_true] at k2
 have ht:tri (kT m t-(if false=true then 0 else 1))+w.length≤tri (kT m t):=by
  rw [if_neg Bool.false_ne_true];obtain ⟨k,hk⟩:∃ k,kT m t=k+1:=⟨kT m t-1,by omega⟩;rw [hk];show tri k+w.length≤tri k+(k+13);omega
 have fin:∀ b:Bool,RunI m t' (zdb m o [w]) (c+1) x b→kT m t≤kT m t'-(if b=true then 0 else 1)→(b=true→kT m t'≤11)→RunL m t' (zdb m o [w]) mode (c+1) x b:=fun b J' hb h11'=>by
  have ht2:=zsy hb;refine ⟨J',fun h=>?_,fun h=>?_,h11',?_⟩
  ·have:=R.m0 h;have:=h0 h;omega
  ·have:=R.m1 h;have:=h1 h;omega
  ·obtain ⟨C,hC,h⟩:=R.cs;refine ⟨w::C,by rw [zkL];omega,fun u hu=>?_⟩;rcases zk3 _ _ hu with h2 | h2
   ·rcases h u h2 with h | h
    ·exact .inl (List.mem_cons_of_mem _ h)
    ·exact .inr (zwt K h)
   ·exact .inl (by rw [List.mem_singleton.1 h2];exact List.mem_cons_self ..)
 by_cases hkk:kT m t+1≤kT m t'
 ·refine ⟨false,fin false ⟨J.told,J.val,J.inp,J.suf,J.pl,J.sl,J.pw,J.sw,J.k1,?_,fun h=>by cases h⟩ (by rw [if_neg Bool.false_ne_true];omega) (fun h=>by cases h),fun _=>hkk⟩;rw [if_neg Bool.false_ne_true];omega
 ·cases g' with
  | false=>exact absurd (hg rfl) hkk
  | true=>exact ⟨true,fin true J (by rw [if_pos rfl];omega) (fun _=>by omega),fun h=>by cases h⟩
theorem refine_ok (hT:zjy t) (hval:zdf t=0) (hb:(t.Prefixes.length+30)*5*(t.Suffixes.length+30)≤160000) (hp:t.Prefixes.length≤500) (hs:t.Suffixes.length≤500) {w:List Int} (hw:WOk t.Inputs w) (hwl:w.length≤24) (hm:mode=0∨mode=1) :
  (zeb t w mode).2=0∧(mode=0→(zeb t w mode).1.Prefixes.length≤t.Prefixes.length+w.length∧(zeb t w mode).1.Suffixes.length≤t.Suffixes.length)∧(mode=1→(zeb t w mode).1.Prefixes.length≤t.Prefixes.length∧(zeb t w mode).1.Suffixes.length≤t.Suffixes.length+w.length):=by
 obtain ⟨hn1,_,hAp,hAs,hsing,_,_,hne⟩:=zed hval;obtain ⟨hck,hcl,hnil,hsc⟩:=zdy hval;have hn:=hT.n;have hc:zbl w t.Inputs=0:=zjq ⟨hn1,by omega⟩ hw (by omega)
 have nd:∀ l:List (List Int),(sortW l).Nodup:=fun l=>(zel l).imp fun {a b} h e=>by
  rw [e,zeu] at h;cases h
 rcases hm with rfl | rfl
 ·have eG:zeb t w 0=zi8 t (sortW (preL [w])) []:=by
   unfold zeb;rw [if_neg (fun h=>h hval),if_neg (fun h=>h hc),if_pos rfl]
  have hsuf:sortW (t.Suffixes++[])=t.Suffixes:=by rw [List.append_nil,ze8 hAs]
  have hmem:∀ z,z∈sortW (t.Prefixes++sortW (preL [w]))↔z∈t.Prefixes∨∃ k,k≤w.length∧w.take k=z:=fun z=>by
   rw [zb6,List.mem_append,zb6,zi6];unfold prefixes;rw [List.mem_map];constructor
   ·rintro (h | ⟨k,hk,e⟩)
    ·exact .inl h
    ·exact .inr ⟨k,by have:=List.mem_range.1 hk;omega,e⟩
   ·rintro (h | ⟨k,hk,e⟩)
    ·exact .inl h
    ·exact .inr ⟨k,List.mem_range.2 (by omega),e⟩
  have hlen:(sortW (t.Prefixes++sortW (preL [w]))).length≤t.Prefixes.length+w.length:=by
   have:=zio (k:=t.Prefixes++(List.range w.length).map fun k=>w.take (k+1)) (nd _) fun z hz=>by
    rcases (hmem z).1 hz with h | ⟨k,hk,rfl⟩
    ·exact List.mem_append_left _ h
    ·cases k with
     | zero=>exact List.mem_append_left _ (by rw [List.take_zero];exact hnil)
     | succ k=>exact List.mem_append_right _ (List.mem_map.2 ⟨k,List.mem_range.2 (by omega),rfl⟩)
   rwa [zkJ,zkK,List.length_range] at this
  have hv:zdf ⟨t.Inputs,sortW (t.Prefixes++sortW (preL [w])),t.Suffixes⟩=0:=by
   have h0:([]:List Int)∈sortW (t.Prefixes++sortW (preL [w])):=(hmem _).2 (.inl hnil);refine zjk hn1 hn (List.ne_nil_of_mem h0) (by simp only;omega) (by simp only;omega) (Nat.le_trans (Nat.mul_le_mul (Nat.mul_le_mul_right 5 (by simp only;omega)) (by simp only;omega)) hb) (zel _) hAs (fun z hz=>?_) (fun z hz=>⟨(hsc z hz).1,(hsc z hz).2,by have:=hT.sw z hz;omega⟩) (fun z hz h0=>?_) h0 hsing
   ·rcases (hmem z).1 hz with h | ⟨k,hk,rfl⟩
    ·exact ⟨hck z h,by have:=hT.pw z h;omega⟩
    ·exact ⟨zjq ⟨hn1,by show t.Inputs≤1024;omega⟩ (fun y hy=>hw y (List.mem_of_mem_take hy)) (by rw [List.length_take];omega),by rw [List.length_take];omega⟩
   ·rcases (hmem z).1 hz with h | ⟨k,hk,rfl⟩
    ·exact (hmem _).2 (.inl (hcl z h h0))
    ·refine (hmem _).2 (.inr ⟨k-1,by omega,?_⟩);rw [List.length_take,List.take_take];congr 1;omega
  have eF:zi8 t (sortW (preL [w])) []=(⟨t.Inputs,sortW (t.Prefixes++sortW (preL [w])),t.Suffixes⟩,0):=by
   unfold zi8;rw [hsuf,if_neg (fun h=>h hv)]
  rw [eG,eF];exact ⟨rfl,fun _=>⟨hlen,Nat.le_refl _⟩,fun h=>by cases h⟩
 ·have eG:zeb t w 1=zi8 t [] (zhr w):=by
   unfold zeb;rw [if_neg (fun h=>h hval),if_neg (fun h=>h hc),if_neg (by decide),if_pos rfl]
  have hpre:sortW (t.Prefixes++[])=t.Prefixes:=by rw [List.append_nil,ze8 hAp]
  have hmem:∀ z,z∈sortW (t.Suffixes++zhr w)↔z∈t.Suffixes∨∃ k,k<w.length∧w.drop k=z:=fun z=>by
   rw [zb6,List.mem_append];unfold zhr;rw [List.mem_map];constructor
   ·rintro (h | ⟨k,hk,e⟩)
    ·exact .inl h
    ·exact .inr ⟨k,List.mem_range.1 hk,e⟩
   ·rintro (h | ⟨k,hk,e⟩)
    ·exact .inl h
    ·exact .inr ⟨k,List.mem_range.2 hk,e⟩
  have hlen:=zd4 (t.Suffixes++zhr w);have hrl:(zhr w).length=w.length:=by unfold zhr;rw [zkK,List.length_range]
  rw [zkJ,hrl] at hlen
  have hv:zdf ⟨t.Inputs,t.Prefixes,sortW (t.Suffixes++zhr w)⟩=0:=by
   refine zjk hn1 hn hne (by simp only;omega) (by simp only;omega) (Nat.le_trans (Nat.mul_le_mul (Nat.mul_le_mul_right 5 (by simp only;omega)) (by simp only;omega)) hb) hAp (zel _) (fun z hz=>⟨hck z hz,by have:=hT.pw z hz;omega⟩) (fun z hz=>?_) hcl hnil (fun a ha=>(hmem _).2 (.inl (hsing a ha)));rcases (hmem z).1 hz with h | ⟨k,hk,rfl⟩
   ·exact ⟨(hsc z h).1,(hsc z h).2,by have:=hT.sw z h;omega⟩
   ·exact ⟨zjq ⟨hn1,by show t.Inputs≤1024;omega⟩ (fun y hy=>hw y (List.mem_of_mem_drop hy)) (by rw [List.length_drop];omega),by rw [List.length_drop];omega,by rw [List.length_drop];omega⟩
  have eF:zi8 t [] (zhr w)=(⟨t.Inputs,t.Prefixes,sortW (t.Suffixes++zhr w)⟩,0):=by
   unfold zi8;rw [hpre,if_neg (fun h=>h hv)]
  rw [eG,eF];exact ⟨rfl,(fun h=>by cases h),fun _=>⟨Nat.le_refl _,hlen⟩⟩
theorem ctx_full (H:zca t o) (T:zez m o) (hM:zda m) (hi:t.Inputs=m.Inputs) (hP:∀ p∈t.Prefixes,WOk m.Inputs p) (hk:m.Next.length≤kT m t) {w:List Int} (hw:WOk m.Inputs w):Sym.outs (hypT t o).M 0 w=Sym.outs m m.Start.toNat w:=by
 have hmem:∀ z,z∈t.Prefixes++(List.range (w.length+1)).map (fun k=>w.take k)↔z∈t.Prefixes∨∃ k,k<w.length+1∧w.take k=z:=fun z=>by
  rw [List.mem_append,List.mem_map];exact or_congr Iff.rfl ⟨fun ⟨k,h,e⟩=>⟨k,List.mem_range.1 h,e⟩,fun ⟨k,h,e⟩=>⟨k,List.mem_range.2 h,e⟩⟩
 have hsub:∀ p∈t.Prefixes,p∈t.Prefixes++(List.range (w.length+1)).map (fun k=>w.take k):=fun p hp=>(hmem p).2 (.inl hp)
 have hall:∀ p∈t.Prefixes++(List.range (w.length+1)).map (fun k=>w.take k),WOk m.Inputs p:=fun p hp=>by
  rcases (hmem p).1 hp with h | ⟨k,_,rfl⟩
  ·exact hP p h
  ·exact fun y hy=>hw y (List.mem_of_mem_take hy)
 refine (ctx_pre H T hi hsub (Nat.le_trans (kN_le hM hall) hk) (fun p hp q hq e a ha=>?_) w.length rfl hw (fun k=>(hmem _).2 (.inr ?_))).1
 ·refine Classical.byContradiction fun hne=>?_;have h1:=kN_split (m:=m) (S:=t.Suffixes) (S':=t.Suffixes++t.Suffixes.map fun f=>(↑a:Int)::f) hp hq (fun f hf=>List.mem_append_left _ hf) e fun h=>hne (List.map_congr_left fun f hf=>?_)
  ·have h2:=kN_le (m:=m) (S:=t.Suffixes++t.Suffixes.map fun f=>(↑a:Int)::f) hM hall;have h3:kT m t≤kN m t.Suffixes (t.Prefixes++(List.range (w.length+1)).map (fun k=>w.take k)):=kN_mono hsub fun _ h=>h;omega
  ·have h2:=zuw h (e:=(↑a:Int)::f) (List.mem_append_right _ (List.mem_map.2 ⟨f,hf,rfl⟩));rw [zp7,zp7] at h2;injection h2 with _ h2
   rw [zk5,zk5];exact h2
 ·rcases Nat.lt_or_ge w.length k with q | q
  ·exact ⟨w.length,by omega,by rw [List.take_length,List.take_of_length_le (by omega)]⟩
  ·exact ⟨k,by omega,rfl⟩
end
end
section
section
variable {m:zab}
theorem refineT_kept {t:zac} (w:List Int) (mode:Int):Kept t (zeb t w mode).1:=by
 unfold zeb;split
 ·exact Kept.self
 ·split
  ·exact Kept.self
  ·split
   ·exact znw _ _
   ·split
    ·exact znw _ _
    ·exact Kept.self
theorem dist_prog {a b:zab} (c1:zgu a=0) (c2:zgu b=0) (c3:a.Inputs=b.Inputs) (h:a.Next.length+b.Next.length≤128) :
  (zck a b=some ([],false,0)∧∀ w,WOk a.Inputs w→Sym.outs a a.Start.toNat w=Sym.outs b b.Start.toNat w) ∨
  ∃ w,zck a b=some (w,true,0)∧WOk a.Inputs w∧w.length≤a.Next.length+b.Next.length∧Sym.outs a a.Start.toNat w≠Sym.outs b b.Start.toNat w:=by
 have T:Two a b:=⟨zhp c1,zhp c2,c3⟩;have h1:=T.a1.st;have h2:=T.b1.st;have hi:=T.a1.i1;obtain ⟨⟨w,f⟩,h3,h4⟩:=zvg T (p0:=(a.Start.toNat,b.Start.toNat)) (by simp only;omega) (by simp only;omega);simp only at h3;rw [show (↑a.Start.toNat:Int)=a.Start by omega,show (↑b.Start.toNat:Int)=b.Start by omega] at h3
 have e1:zck a b=some (w,f,0):=by
  unfold zck;rw [zvq c1 c2 c3,zap,zkA (by decide),zkC,h3,zap]
 cases f with
 | false =>
  left
  have hw:w=[]:=by
   rcases h4 with ⟨_,_,_,_,_,_,_,h⟩ | ⟨_,_,_,h⟩
   ·injection h with _ h;cases h
   ·injection h
  subst hw;exact ⟨e1,fst_none h4⟩
 | true =>
  right;have hw:=(fst_word T (p0:=(a.Start.toNat,b.Start.toNat)) (by simp only;omega) (by simp only;omega) h4).1;have hne:=fst_ne T (p0:=(a.Start.toNat,b.Start.toNat)) (by simp only;omega) (by simp only;omega) h4;obtain ⟨v,v1,v2,v3⟩:=two_short T h (s:=a.Start.toNat) (t:=b.Start.toNat) (by omega) (by omega) hw hne;have:=fst_short h4 v2 v3;exact ⟨w,e1,hw,by omega,hne⟩
def DoneR (m:zab) (r:zb0×zad×Int×Int):Prop :=
 ∃ t o c x,zca t o∧RunI m t o c x false∧(∀ w,WOk m.Inputs w→Sym.outs (hypT t o).M 0 w=Sym.outs m m.Start.toNat w)∧(hypT t o).M.Next.length=kT m t∧r=(hypT t o,o,(↑(c+1):Int),0)
theorem run_ends {mode:Int} (hv:zgu m=0) (hn:m.Next.length≤12) (hi:m.Inputs≤4) (hm:mode=0∨mode=1) :
  ∀ (N:Nat) (t:zac) (o:zad) (c x:Nat) (g:Bool),RunL m t o mode c x g→mu m t o g≤N→∀ n,N<n →
   ∃ r,iter (pStep m mode) n (t.Inputs,t.Prefixes,t.Suffixes,o.Inputs,o.Traces,c+1)=some r∧DoneR m r:=by
 have H:=zhp hv;intro N
 induction N using Nat.strongRecOn with
 | ind N ih =>
  intro t o c x g R hmu n hN;obtain ⟨k,rfl⟩:∃ k,n=k+1:=⟨n-1,by omega⟩;have J:=R.J;obtain ⟨b1,b2,b3⟩:=J.bnd H hn;have hT:=J.tab H hn hi;have hso:=J.told.smR;have hok:=J.told.ok;have hprod:=R.prod H hn hm
  have hsz:t.Prefixes.length≤500∧t.Suffixes.length≤500:=by
   have:=R.sizes H hn hm;omega
  have hchk:chkT t o=0:=by
   unfold chkT;rw [if_neg (fun h=>h J.val),if_neg (fun h=>h (by rw [J.inp,J.told.inp]))]
  have hS1:=lstar_Step_eq hT hso hok
  have good:∀ (u:zac) (p:zad) (c' x':Nat) (g':Bool),RunL m u p mode c' x' g'→mu m u p g'<mu m t o g→pStep m mode (t.Inputs,t.Prefixes,t.Suffixes,o.Inputs,o.Traces,c+1)=some (.inl (u.Inputs,u.Prefixes,u.Suffixes,p.Inputs,p.Traces,c'+1))→∃ r,iter (pStep m mode) (k+1) (t.Inputs,t.Prefixes,t.Suffixes,o.Inputs,o.Traces,c+1)=some r∧DoneR m r:=fun u p c' x' g' J' hlt h1=>by
   rw [iter_inl h1];exact ih (mu m u p g') (by omega) u p c' x' g' J' (Nat.le_refl _) k (by omega)
  have nil1:zci m o []=some (o,0):=by
   have:=(zne (m:=m) (o:=o) (ws:=[]) hv J.told (fun w h=>by cases h) (by simp) (fun h=>absurd h (by simp))).1 hok.num;exact this
  unfold stepT at hS1;rw [if_neg (fun h=>h hchk)] at hS1;by_cases hA:zdx o t t.Prefixes=[]
  ·rw [if_neg (fun h=>h hA)] at hS1;have hz:=compT_of hchk hA;obtain ⟨_,_,hAll⟩:=zcp hz
   have hcell:∀ v∈zl9 t.Inputs.toNat t.Suffixes t.Prefixes,Kn o v:=fun v hv=>Classical.byContradiction fun h=>by
    have:=zgv.2 ⟨hv,(zwx J.told).2 h⟩;rw [hA] at this;cases this
   cases hf:(extL t).find? (newRow t o) with
   | some w =>
    rw [hf] at hS1;simp only at hS1;obtain ⟨he,_,_,l1,l2⟩:=uncl_progress hT (Nat.le_trans (Nat.mul_le_mul (Nat.mul_le_mul_right 5 (by omega)) (by omega)) hprod) hz hf;obtain ⟨J',hk⟩:=J.pre H hz hf he;rw [he] at hS1;have b1':=(J'.bnd H hn).1;refine good _ o c (x+1) false (R.up J' hk (prefixT_kept w) (by omega)) ?_ (ps_ask hS1 nil1);have h1:=mu_le m (zex t w).1 o false;unfold mu at h1 ⊢;omega
   | none =>
    rw [hf] at hS1;cases hip:iP t o with
    | some y =>
     rw [hip] at hS1;simp only at hS1;obtain ⟨he,_,_,l1,l2⟩:=inc_progress hT (Nat.le_trans (Nat.mul_le_mul (Nat.mul_le_mul_right 5 (by omega)) (by omega)) hprod) hok hz hip;obtain ⟨J',hk⟩:=J.inc H hz hip he;rw [he] at hS1;have b1':=(J'.bnd H hn).1;refine good _ o c (x+1) false (R.up J' hk (suffixT_kept _) (by omega)) ?_ (ps_ask hS1 nil1);have h1:=mu_le m (zfi t (toW t y)).1 o false;unfold mu at h1 ⊢;omega
    | none =>
     rw [hip] at hS1;simp only at hS1;have hrk:=rowsA_kN J.told hAll;have h128:(zet t o).length≤128:=by rw [hrk];omega
     have HO:zca t o:=⟨hT,h128,hso,hok,hz,hf,hip⟩
     have eR:hypR t o=(hypT t o,0):=by
      unfold hypR;rw [if_neg (fun h=>h hz),if_neg (fun h=>h.elim (fun h=>h hf) fun h=>h hip)]
     have hH1:=zov hT hso hok h128;rw [eR] at hH1
     have hvh:zgu (hypT t o).M=0:=by
      have:=HO.valid6;rw [zf2] at this;injection this
     have hnl:(hypT t o).M.Next.length=kT m t:=by rw [HO.nlen.1,hrk]
     have hin:(hypT t o).M.Inputs=m.Inputs:=J.inp;cases g with
     | true=>exact (J.noghost HO J.told H).elim
     | false =>
      rcases dist_prog hvh hv hin (by omega) with ⟨d1,d3⟩ | ⟨w,d1,hw,hwl,hne⟩
      ·refine ⟨_,iter_inr (ps_end hS1 hH1 d1),t,o,c,x,HO,J,fun w hw=>?_,hnl,rfl⟩;exact d3 w (by rw [hin];exact hw)
      ·have hne:Sym.outs (hypT t o).M 0 w≠Sym.outs m m.Start.toNat w:=hne;have hi1:=H.i1;have hww:WOk m.Inputs w:=by rw [← hin];exact hw
       have hfull:kT m t<m.Next.length:=Classical.byContradiction fun h=>hne (ctx_full HO J.told H J.inp J.wok (by omega) hww)
       have hc:∀ z∈[w],zbl z m.Inputs=0:=fun z hz'=>by
        rw [List.mem_singleton.1 hz'];exact zjq ⟨hi1,by omega⟩ hww (by omega)
       obtain ⟨a1,_⟩:=zne (m:=m) (o:=o) (ws:=[w]) hv J.told hc (by simp) (fun h=>absurd h (by simp));have hN1:o.Traces.length≤9500:=R.few H hn hi hm hok.trs (fun u hu=>.inl ⟨u,hu,rfl⟩) hcell
       have hN2:(zdb m o [w]).Traces.length≤10000:=by
        have:=ztp o.Traces (tr m w);show (addL o.Traces (tr m w)).length≤10000;omega
       have T':=zp5 H [w] o J.told hc hN2;have hrw:∀ a∈w,inR a:=fun a ha=>by have:=hww a ha;unfold inR;omega
       have hR1:=zu5 (mode:=mode) hT.sm (by omega) (by omega) (by omega:w.length≤100000) hrw;obtain ⟨he,f0,f1⟩:=refine_ok (mode:=mode) hT J.val hprod hsz.1 hsz.2 (w:=w) (by rw [J.inp];exact hww) (by omega) hm;obtain ⟨g',J',k1,k2⟩:=J.ctx HO T' hww (by omega) hne hm he;obtain ⟨g'',R',k3⟩:=R.ref J' k1 (by omega) k2 (by omega) (refineT_kept w mode) f0 f1;have hR1':zcf t w mode=some ((zeb t w mode).1,0):=by rw [hR1,← he]
       have b1':=(J'.bnd H hn).1;refine good _ (zdb m o [w]) (c+1) x g'' R' ?_ (ps_ref (n:=c+1) (by omega) hS1 hH1 d1 (a1 hN2) hR1');unfold mu;rw [if_pos hA,if_neg Bool.false_ne_true];cases g'' with
       | true =>
        rw [if_pos rfl];split<;>omega
       | false =>
        have:=k3 rfl;rw [if_neg Bool.false_ne_true];split<;>omega
  ·rw [if_pos hA] at hS1;obtain ⟨w1,w2,w3,w4⟩:=J.need H hn hi;obtain ⟨a1,_⟩:=zne hv J.told w1 w2 w3
   have hlen:∀ v∈zdx o t t.Prefixes,v.length≤200:=fun v hv=>by
    obtain ⟨p,hp,w,hw,e,he,rfl⟩:=zh2.1 (zgv.1 hv).1;have h2:=J.pw p hp;have h3:=J.sw e he
    have h4:w.length≤p.length+1:=by
     unfold zho at hw;rcases List.mem_cons.1 hw with rfl | hw
     ·omega
     ·obtain ⟨a,_,rfl⟩:=List.mem_map.1 hw;rw [zkJ,List.length_singleton];omega
    rw [zkJ];omega
   have hkn:∀ v,Kn (zdb m o (maxR (zdx o t t.Prefixes))) v↔Kn o v∨∃ w∈maxR (zdx o t t.Prefixes),v <+: w:=fun v=>zj4 _ _
   have hN2:(zdb m o (maxR (zdx o t t.Prefixes))).Traces.length≤10000:=by
    refine Nat.le_trans (R.few H hn hi hm (zns _ _ hok.trs) (fun u hu=>?_) fun v hv=>?_) (by decide)
    ·rcases zk3 _ _ hu with h | h
     ·exact .inl ⟨u,h,rfl⟩
     ·exact .inr (zgv.1 (zlu h)).1
    ·by_cases h4:ansO o v=none
     ·obtain ⟨y,hy,hp⟩:=maxR_up 200 hlen 200 v (zgv.2 ⟨hv,h4⟩) (by omega);exact (hkn v).2 (.inr ⟨y,hy,hp⟩)
     ·exact (hkn v).2 (.inl (Classical.byContradiction fun h=>h4 ((zwx J.told).2 h)))
   refine good t _ c x g (R.ask H w1 hN2 fun w hw=>(zgv.1 (zlu hw)).1) ?_ (ps_ask hS1 (a1 hN2));unfold mu;rw [if_neg hA,if_pos (w4 hN2)];omega
theorem learn_done {mode:Int} (hv:zgu m=0) (hn:m.Next.length≤12) (hi:m.Inputs≤4) (hm:mode=0∨mode=1):∃ r,zby m mode=some r∧DoneR m r:=by
 have H:=zhp hv;have hi1:=H.i1
 have hmode:(cond (decide (mode≠0)) (some (decide (mode≠1))) (some false):Option Bool)=some false:=by
  rcases hm with rfl | rfl<;>rfl
 have J:=run_start H hi;have hmu:=mu_le m ⟨m.Inputs,[[]],ze5 m.Inputs.toNat⟩ ⟨m.Inputs,[]⟩ false;have hsl:=zib m.Inputs.toNat;obtain ⟨r,r1,r2⟩:=run_ends hv hn hi hm _ _ _ 0 0 false ⟨J,fun _=>⟨by simp only [List.length_singleton];omega,by simp only;omega⟩,fun _=>⟨by simp only [List.length_singleton];omega,by simp only;omega⟩,(fun h=>by cases h),[],Nat.le_refl _,fun u hu=>by cases hu⟩ (Nat.le_refl _) fuel (by have:=zdn;omega)
 have hnew:newT m.Inputs=(⟨m.Inputs,[[]],ze5 m.Inputs.toNat⟩,0):=by
  unfold newT;rw [if_neg (by omega)]
 refine ⟨r,?_,r2⟩;unfold zby;rw [zih,zap,hv,zkA (by decide),zkC,hmode,zap,zkC,table_New_eq,hnew,zap]
 have ho:zjw m.Inputs=some (⟨m.Inputs,[]⟩,0):=by
  unfold zjw;rw [zkA (by omega),zkC,zkA (by omega),zap,zkC]
 rw [ho,zap];exact r1
end
end
section
section
variable {m:zab}
theorem R06_has_eq {l:List Int} {t:Int} (hl:l.length≤1000000):zkn l t=some (decide (t∈l)):=by
 unfold zkn;rw [zcs (l:=l) (fun _ u=>if u=t then some true else none) (fun i u hu=>?_) ?_ (by omega),zap]
 ·by_cases h:t∈l
  ·rw [zkB h];cases e:scan (fun _ u=>if u=t then some true else none) 0 l with
   | some r =>
    obtain ⟨i,u,_,h2⟩:=zsz e;split at h2
    ·injection h2 with h2
     subst h2;rfl
    ·cases h2
   | none =>
    obtain ⟨i,hi,hit⟩:=List.mem_iff_getElem.1 h;have:=zcd.1 e i _ (get_at hi);rw [if_pos hit] at this;cases this
  ·rw [zkA h,zcd.2 fun i u hu=>if_neg fun q=>h (by rw [← q];exact zkH hu)];rfl
 ·simp only [zkn.s2];rw [zkA (by omega),zkC]
 ·have hi:=(zkI.1 hu).1;simp only [zkn.s2];rw [zkB (by omega),zkD,zaq hu];by_cases e:u=t
  ·rw [zkB e,zkD,if_pos e]
  ·rw [zkA e,zkC,if_neg e]
theorem R06_index_eq {l:List Int} {t:Int} {j:Nat} (hl:l.length≤1000000) (hj:l[j]?=some t) (hnd:l.Nodup):zgy l t=some (↑j:Int):=by
 unfold zgy;rw [zcs (l:=l) (fun i u=>if u=t then some (↑i:Int) else none) (fun i u hu=>?_) ?_ (by omega),zap]
 ·cases e:scan (fun i u=>if u=t then some (↑i:Int) else none) 0 l with
  | some r =>
   obtain ⟨i,u,h1,h2⟩:=zsz e;split at h2
   ·rename_i h3;injection h2 with h2
    rw [h3] at h1;have:=zs1 hnd h1 hj;subst this;rw [← h2];show some (↑(0+i):Int)=_;rw [Nat.zero_add]
   ·cases h2
  | none =>
   have:=zcd.1 e j _ hj;rw [if_pos rfl] at this;cases this
 ·simp only [zgy.s2];rw [zkA (by omega),zkC]
 ·have hi:=(zkI.1 hu).1;simp only [zgy.s2];rw [zkB (by omega),zkD,zaq hu];by_cases e:u=t
  ·rw [zkB e,zkD,if_pos e]
  ·rw [zkA e,zkC,if_neg e]
theorem natI_nodup {l:List Nat} (h:l.Nodup):(natI l).Nodup:=by
 unfold natI List.Nodup;rw [List.pairwise_map];exact h.imp fun {a b} h e=>h (by omega)
theorem R06_Reach_eq (hv:zgu m=0):∃ L,MEnd m m.Start.toNat L∧zde m=some (natI (L.map Prod.fst)):=by
 have H:=zhp hv;have hst:=H.st;have hn:=H.n2;have hI:=H.i2;have hs:m.Start.toNat<m.Next.length:=by omega
 have inner:∀ (i:Nat) (x:Nat×List Int),i≤m.Next.length→(mB m m.Start.toNat (i*m.Inputs.toNat))[i]?=some x →
   iter (fun (s:List Int×Nat)=>zde.s13 m i s.1 s.2) fuel (natI ((mB m m.Start.toNat (i*m.Inputs.toNat)).map Prod.fst),0)=some (natI ((mB m m.Start.toNat ((i+1)*m.Inputs.toNat)).map Prod.fst)):=by
  intro i x hin hx;have hxs:=(mB_rng H hs _ x (zkH hx)).1;have hiK:i*m.Inputs.toNat≤128*64:=Nat.mul_le_mul (by omega) (by omega)
  exact zcw (step:=fun (s:List Int×Nat)=>zde.s13 m i s.1 s.2) (fun s=>s.2≤m.Inputs.toNat∧s.1=natI ((mB m m.Start.toNat (i*m.Inputs.toNat+s.2)).map Prod.fst)) (fun s=>m.Inputs.toNat-s.2) (fun s ⟨q1,q2⟩=>by
   obtain ⟨l,a⟩:=s
   simp only at q1 q2
   subst q2
   simp only [zde.s13]
   by_cases g:a<m.Inputs.toNat
   ·left
    have hxa:=mB_get hx (r:=i*m.Inputs.toNat+a) (by omega)
    obtain ⟨h1,_,_,x',y',h2,_,h4,_⟩:=H.at hxs g
    have hlen:=mB_len H hs (i*m.Inputs.toNat+a)
    have hstep:=mB_step g hxa
    have hat:=zvh (i:=i) (u:=x.1) (l:=(mB m m.Start.toNat (i*m.Inputs.toNat+a)).map Prod.fst) (by rw [List.getElem?_map,hxa];rfl)
    rw [zkB (by omega),zkD,zaq hat,zbd rfl h2,zaq h4,R06_has_eq (by rw [zhc,zkK];omega),zap]
    by_cases hm:nx m x.1 a∈(mB m m.Start.toNat (i*m.Inputs.toNat+a)).map Prod.fst
    ·rw [if_pos hm] at hstep
     refine ⟨(natI ((mB m m.Start.toNat (i*m.Inputs.toNat+a)).map Prod.fst),a+1),?_,⟨g,by simp only;rw [hstep]⟩,by simp only;omega⟩
     rw [zkB (mem_natI.2 hm),Bool.not_true,zkC,zar (by unfold inR;omega)]
    ·rw [if_neg hm] at hstep
     refine ⟨(natI ((mB m m.Start.toNat (i*m.Inputs.toNat+a)).map Prod.fst++[nx m x.1 a]),a+1),?_,⟨g,by simp only;rw [hstep,List.map_append];rfl⟩,by simp only;omega⟩
     rw [zkA (fun q=>hm (mem_natI.1 q)),Bool.not_false,zkD,zaq hat,zbd rfl h2,zaq h4,zar (by unfold za7;rw [zhc,zkK];omega),zar (by unfold inR;omega),natI_push]
   ·right
    have e':a=m.Inputs.toNat:=by omega
    subst e'
    rw [mB_next,zkA (by omega),zkC]) (n:=fuel) ⟨Nat.zero_le _,rfl⟩
 unfold zde;rw [zf2,zap,hv,zkA (by decide),zkC]
 obtain ⟨r,hr,L,hL,rfl⟩:=zf5 (step:=fun (s:List Int×Nat)=>zde.s14 m s.1 s.2) (fun s=>s.2≤(mB m m.Start.toNat (s.2*m.Inputs.toNat)).length∧s.1=natI ((mB m m.Start.toNat (s.2*m.Inputs.toNat)).map Prod.fst)) (fun s=>m.Next.length+1-s.2) (fun r=>∃ L,MEnd m m.Start.toNat L∧r=natI (L.map Prod.fst)) (fun s ⟨q1,q2⟩=>by
  obtain ⟨l,i⟩:=s
  simp only at q1 q2
  subst q2
  simp only [zde.s14]
  have hlen:=mB_len H hs (i*m.Inputs.toNat)
  by_cases g:i<(mB m m.Start.toNat (i*m.Inputs.toNat)).length
  ·left
   have hx:=get_at g
   have h1:=inner i _ (by omega) hx
   have hmono:=(ziv (e:=nx m) (K:=m.Inputs.toNat) (s0:=m.Start.toNat) (show i*m.Inputs.toNat≤(i+1)*m.Inputs.toNat by rw [Nat.succ_mul];omega)).length_le
   refine ⟨(natI ((mB m m.Start.toNat ((i+1)*m.Inputs.toNat)).map Prod.fst),i+1),?_,⟨by simp only;unfold mB at g ⊢;omega,rfl⟩,by simp only;omega⟩
   rw [zkB (by rw [zhc,zkK];omega),zkD,h1,zap]
  ·right
   refine ⟨_,by rw [zkA (by rw [zhc,zkK];omega),zkC],mB m m.Start.toNat (i*m.Inputs.toNat),⟨?_⟩,rfl⟩
   rw [show (mB m m.Start.toNat (i*m.Inputs.toNat)).length=i by omega]
   rfl) ([m.Start],0) ⟨Nat.zero_le _,by simp only;rw [Nat.zero_mul];simp [mB,bfsB,natI];omega⟩
 exact ⟨L,hL,by rw [hr,zap]⟩
theorem zrx {β:Type} (f:Nat→β) {n a:Nat} (h:a<n):((List.range n).map f)[a]?=some (f a):=by
 rw [List.getElem?_map,List.getElem?_range h];rfl
theorem R06_Trim_eq (hv:zgu m=0):∃ t L,zb8 m=some (t,0)∧TrimOk m t L:=by
 have H:=zhp hv;have hst:=H.st;have hn:=H.n2;have hI:=H.i2;have hI1:=H.i1;have hs:m.Start.toNat<m.Next.length:=by omega
 obtain ⟨L,hE,hR⟩:=R06_Reach_eq hv;obtain ⟨hLn,hLr⟩:=mEnd_rng H hs hE;have hnd:=hE.nodup;unfold zb8;rw [zf2,zap,hv,zkA (by decide),zkC,hR,zap]
 have pl:∀ (x:Nat×List Int) (a:Nat),x∈L→a<m.Inputs.toNat→∃ j:Nat,∃ y,L[j]?=some y∧y.1=nx m x.1 a:=fun x a hx ha=>by
  obtain ⟨i,hi⟩:=List.mem_iff_getElem?.1 hx;obtain ⟨j,y,h1,h2,_⟩:=hE.closed hi ha;exact ⟨j,y,h1,h2⟩
 let F:Nat×List Int→Nat→Int:=fun x a=>if h:x∈L∧a<m.Inputs.toNat then (↑(Classical.choose (pl x a h.1 h.2)):Int) else 0
 have hF:∀ x a,x∈L→a<m.Inputs.toNat→∃ (j:Nat) (y:Nat×List Int),L[j]?=some y∧y.1=nx m x.1 a∧F x a=(↑j:Int):=fun x a hx ha=>by
  obtain ⟨y,h1,h2⟩:=Classical.choose_spec (pl x a hx ha);exact ⟨_,y,h1,h2,by show (if h:x∈L∧a<m.Inputs.toNat then (↑(Classical.choose (pl x a h.1 h.2)):Int) else 0)=_;rw [dif_pos ⟨hx,ha⟩]⟩
 have row1:∀ (i:Nat) (x:Nat×List Int),L[i]?=some x→iter (fun (s:List Int×List Int×Nat)=>zb8.s18 m (natI (L.map Prod.fst)) i s.1 s.2.1 s.2.2) fuel ([],[],0)=some ((List.range m.Inputs.toNat).map (F x),(List.range m.Inputs.toNat).map (ot m x.1)):=by
  intro i x hx;have hxm:=zkH hx;have hxr:=(hLr x hxm).1;have hat:=zvh (i:=i) (u:=x.1) (l:=L.map Prod.fst) (by rw [List.getElem?_map,hx];rfl)
  exact zcw (step:=fun (s:List Int×List Int×Nat)=>zb8.s18 m (natI (L.map Prod.fst)) i s.1 s.2.1 s.2.2) (fun s=>s.2.2≤m.Inputs.toNat∧s.1=(List.range s.2.2).map (F x)∧s.2.1=(List.range s.2.2).map (ot m x.1)) (fun s=>m.Inputs.toNat-s.2.2) (fun s ⟨q1,q2,q3⟩=>by
   obtain ⟨p,q,a⟩:=s
   simp only at q1 q2 q3
   subst q2
   subst q3
   simp only [zb8.s18]
   by_cases g:a<m.Inputs.toNat
   ·left
    obtain ⟨h1,_,_,x',y',h2,h3,h4,h5⟩:=H.at hxr g
    obtain ⟨j,y,z1,z2,z3⟩:=hF x a hxm g
    refine ⟨((List.range (a+1)).map (F x),(List.range (a+1)).map (ot m x.1),a+1),?_,⟨g,rfl,rfl⟩,by simp only;omega⟩
    rw [zkB (by omega),zkD,zaq hat,zbd rfl h2,zaq h4,R06_index_eq (by rw [zhc,zkK];omega) (j:=j) (zvh (by rw [List.getElem?_map,z1,← z2];rfl)) (natI_nodup hnd),zap,zar (by unfold za7;rw [zkK,List.length_range];omega),zaq hat,zbd rfl h3,zaq h5,zar (by unfold za7;rw [zkK,List.length_range];omega),zar (by unfold inR;omega)]
    rw [List.range_succ,List.map_append,List.map_append,← z3]
    rfl
   ·right
    have:a=m.Inputs.toNat:=by omega
    subst this
    rw [zkA (by omega),zkC]) (n:=fuel) ⟨Nat.zero_le _,rfl,rfl⟩
 have all:iter (fun (s:List (List Int)×List (List Int)×Nat)=>zb8.s20 m (natI (L.map Prod.fst)) s.1 s.2.1 s.2.2) fuel ([],[],0)=some (L.map fun x=>(List.range m.Inputs.toNat).map (F x),L.map fun x=>(List.range m.Inputs.toNat).map (ot m x.1)) :=
  zcw (step:=fun (s:List (List Int)×List (List Int)×Nat)=>zb8.s20 m (natI (L.map Prod.fst)) s.1 s.2.1 s.2.2) (fun s=>s.2.2≤L.length∧s.1=(L.take s.2.2).map (fun x=>(List.range m.Inputs.toNat).map (F x))∧s.2.1=(L.take s.2.2).map (fun x=>(List.range m.Inputs.toNat).map (ot m x.1))) (fun s=>L.length-s.2.2) (fun s ⟨q1,q2,q3⟩=>by
   obtain ⟨p,q,i⟩:=s
   simp only at q1 q2 q3
   subst q2
   subst q3
   simp only [zb8.s20]
   by_cases g:i<L.length
   ·left
    have hx:=get_at g
    have ht:L.take (i+1)=L.take i++[L[i]]:=by rw [List.take_succ,hx];rfl
    refine ⟨((L.take (i+1)).map (fun x=>(List.range m.Inputs.toNat).map (F x)),(L.take (i+1)).map (fun x=>(List.range m.Inputs.toNat).map (ot m x.1)),i+1),?_,⟨g,rfl,rfl⟩,by simp only;omega⟩
    rw [zkB (by rw [zhc,zkK];omega),zkD,row1 i _ hx,zap]
    simp only [zb8.k19]
    rw [zar (by unfold za7;rw [zkK,List.length_take];omega),zar (by unfold za7;rw [zkK,List.length_take];omega),ht,List.map_append,List.map_append]
    rfl
   ·right
    have:i=L.length:=by omega
    subst this
    rw [zkA (by rw [zhc,zkK];omega),zkC,List.take_length]) (n:=fuel) ⟨Nat.zero_le _,by simp,by simp⟩
 rw [all,zap];simp only [zb8.k21];have hL0:0<L.length:=(zkI.1 hE.first).1
 have hnx:∀ (i:Nat) (x:Nat×List Int) (a:Nat),L[i]?=some x→a<m.Inputs.toNat→nx (⟨m.Inputs,0,L.map fun x=>(List.range m.Inputs.toNat).map (F x),L.map fun x=>(List.range m.Inputs.toNat).map (ot m x.1)⟩:zab) i a=(F x a).toNat∧ot (⟨m.Inputs,0,L.map fun x=>(List.range m.Inputs.toNat).map (F x),L.map fun x=>(List.range m.Inputs.toNat).map (ot m x.1)⟩:zab) i a=ot m x.1 a:=fun i x a hx ha=>by
  constructor
  ·unfold nx;simp only;rw [List.getElem?_map,hx];simp only [Option.map_some,Option.getD_some];rw [zrx _ ha,Option.getD_some]
  ·unfold ot;simp only;rw [List.getElem?_map,hx];simp only [Option.map_some,Option.getD_some];rw [zrx _ ha,Option.getD_some]
 refine ⟨_,L,rfl,hE,rfl,rfl,⟨hI1,hI,by simp only [zkK];omega,by simp only [zkK];omega,⟨Int.le_refl 0,by simp only [zkK];omega⟩,by simp only [zkK],fun i hi=>?_⟩,⟨by simp only [zkK],fun i x a hx ha=>?_⟩⟩
 ·simp only [zkK] at hi ⊢;have hx:=get_at (l:=L) (i:=i) (by omega);generalize L[i]=x at hx;have hxm:=zkH hx;have hxr:=(hLr x hxm).1;refine ⟨_,_,by rw [List.getElem?_map,hx];rfl,by rw [List.getElem?_map,hx];rfl,by rw [zkK,List.length_range];omega,by rw [zkK,List.length_range];omega,fun u hu=>?_,fun v hv=>?_⟩
  ·obtain ⟨a,ha,rfl⟩:=List.mem_map.1 hu;obtain ⟨j,y,z1,z2,z3⟩:=hF x a hxm (List.mem_range.1 ha);have:=(zkI.1 z1).1;rw [z3];omega
  ·obtain ⟨a,ha,rfl⟩:=List.mem_map.1 hv;obtain ⟨_,h2,h3,_⟩:=H.at hxr (List.mem_range.1 ha);exact ⟨h2,h3⟩
 ·obtain ⟨j,y,z1,z2,z3⟩:=hF x a (zkH hx) ha;obtain ⟨e1,e2⟩:=hnx i x a hx ha;exact ⟨y,by rw [e1,z3,Int.toNat_natCast];exact z1,z2,e2⟩
end
end
section
theorem L06_Great_any (m:zab):∃ b,zmg m=some b:=by
 unfold zmg;by_cases g1:40<(↑m.Next.length:Int)
 ·exact ⟨true,by rw [zkB g1];rfl⟩
 rw [zkA g1,zkC];by_cases g2:40<(↑m.Out.length:Int)
 ·exact ⟨true,by rw [zkB g2];rfl⟩
 rw [zkA g2,zkC,zap];exact ⟨_,rfl⟩
theorem R16_Proper_ok {t:zaa} {n:Int} (hP:zsi n t) (h1:SmW t.In) (h2:SmW t.Out):zfs t n=some 0:=by
 have hl:=hP.2.1;unfold SmW at h2;unfold zfs;rw [zm0 _ _ h1,zap,hP.1,zkA (by simp),zkC,zkA (by omega),zkC]
 rw [zcs (l:=t.Out) (fun _ _=>(none:Option Int)) (fun i y hy=>by
  have:=hP.2.2 y (zkH hy)
  simp only [zfs.s2]
  rw [zcb hy,zkD,zaq hy,zaq hy,zkA (by omega),zkC,zkA (by omega),zap,zkC]) (by
  simp only [zfs.s2]
  rw [zes]
  rfl) (by omega),zcd.2 fun _ _ _=>rfl]
 rfl
theorem R16_Differ_ok {a b:zaa} {n:Int} (ha:zsi n a) (hb:zsi n b) (h1:SmW a.In) (hag:Agree a b):zfr a b=some (-1):=by
 have h1':a.In.length≤2000000:=h1;have hc:=zlf a.In b.In;have la:=ha.2.1;have lb:=hb.2.1;unfold zfr;rw [zlj _ _ h1,zap]
 rw [zcw (step:=fun k=>zfr.s2 a b (↑(za3 a.In b.In):Int) k) (r:=.inl ()) (fun k=>k≤za3 a.In b.In) (fun k=>za3 a.In b.In-k) (fun k g1=>by
  simp only [zfr.s2]
  by_cases g3:k<za3 a.In b.In
  ·left
   have hx:=get_at (l:=a.Out) (i:=k) (by omega)
   have hy:=get_at (l:=b.Out) (i:=k) (by omega)
   have e:a.Out[k]'(by omega)=b.Out[k]'(by omega):=by
    have h2:=congrArg (fun l:List Int=>l[k]?) hag
    simp only [List.getElem?_take,g3,if_true] at h2
    rw [hx,hy] at h2
    injection h2
   refine ⟨k+1,?_,g3,by omega⟩
   rw [zkB (by omega),zkD,zaq hx,zaq hy,zkA (by simpa using e),zkC,zar (by unfold inR;omega)]
  ·right
   rw [zkA (by omega),zkC]) (Nat.zero_le _)]
 rfl
theorem R16_apart_ok {o:zad} (hv:zeg o) (ho:SmO o):zct o=some 0:=by
 obtain ⟨hl,hs⟩:=ho;unfold zct
 have inner:∀ (i:Nat) (a:zaa),o.Traces[i]?=some a→iter (fun (s:Bool×Bool×Nat)=>zct.s30 o i s.1 s.2.1 s.2.2) fuel (false,false,i+1)=some (false,false):=by
  intro i a ha;have hi:=(zkI.1 ha).1;have ham:=zkH ha
  exact zcw (step:=fun (s:Bool×Bool×Nat)=>zct.s30 o i s.1 s.2.1 s.2.2) (fun s=>i<s.2.2∧s.2.2≤o.Traces.length∧s.1=false∧s.2.1=false) (fun s=>o.Traces.length-s.2.2) (fun s ⟨g1,g2,g3,g5⟩=>by
   obtain ⟨p,c,k⟩:=s
   simp only at g1 g2 g3 g5
   subst g3
   subst g5
   simp only [zct.s30]
   by_cases g4:k<o.Traces.length
   ·left
    have hx:=get_at g4
    have hxm:=List.getElem_mem g4
    have sx:SmW o.Traces[k].In:=by have:=(hs _ hxm).1;unfold SmW;omega
    have sa:SmW a.In:=by have:=(hs _ ham).1;unfold SmW;omega
    obtain ⟨n1,n2⟩:=hv.apart i k a _ g1 ha hx
    have hc1:(cond false (some true) (idxn o.Traces k fun a2=>idxn o.Traces i fun a6=>(zgf a2.In a6.In).bind fun a7=>some a7):Option Bool)=some false:=by
     rw [zkC,zaq hx,zaq ha,zsh _ _ sx,zap,zkA n1]
    refine ⟨(false,false,k+1),?_,⟨by simp only;omega,by simp only;omega,rfl,rfl⟩,by simp only;omega⟩
    rw [zcb hx,zkD,hc1,zap,zkC,zaq ha,zaq hx,R16_Differ_ok (hv.prop a ham).1 (hv.prop _ hxm).1 sa n2,zap]
    rfl
   ·right
    rw [zkA (by omega),zkC]) (n:=fuel) ⟨by simp only;omega,by simp only;omega,rfl,rfl⟩
 rw [zcw (step:=fun i=>zct.s32 o i) (r:=.inl ()) (fun i=>i≤o.Traces.length) (fun i=>o.Traces.length-i) (fun i g1=>by
  simp only [zct.s32]
  by_cases g3:i<o.Traces.length
  ·left
   have hx:=get_at g3
   refine ⟨i+1,?_,g3,by omega⟩
   rw [zcb hx,zkD,inner i _ hx,zap]
   rfl
  ·right
   rw [zkA (by omega),zkC]) (Nat.zero_le _)]
 rfl
theorem R16_Valid_ok {o:zad} (hv:zeg o) (ho:SmO o):zgs o=some 0:=by
 have hl:=ho.1;have hin:=hv.inp;have hnum:=hv.num;unfold zgs;rw [zkA (by omega),zkC,zkA (by omega),zap,zkC,zkA (by omega),zkC]
 rw [zcs (l:=o.Traces) (fun _ _=>(none:Option Int)) (fun i t hx=>by
  have ht:=zkH hx
  have hi:=(zkI.1 hx).1
  obtain ⟨s1,s2⟩:=ho.2 t ht
  obtain ⟨hP,hne⟩:=hv.prop t ht
  have sx:SmW t.In:=by unfold SmW;omega
  simp only [zgs.s2]
  rw [zcb hx,zkD,zaq hx,zm0 _ _ sx,zap,hP.1,zkA (by simp),zkC,zkA (by have:=List.length_pos_iff.2 hne;omega),zkC,R16_Proper_ok hP sx s2,zap,zkA (by simp),zkC]
  by_cases g:0<i
  ·have hpv:=get_at (l:=o.Traces) (i:=i-1) (by omega)
   have sp:SmW (o.Traces[i-1]'(by omega)).In:=by have:=(ho.2 _ (List.getElem_mem (show i-1<o.Traces.length by omega))).1;unfold SmW;omega
   have hc:=hv.asc (i-1) i _ _ (by omega) hpv hx
   rw [zkB (by omega),zkD,zbd (i:=i-1) (by omega) hpv,zvo _ _ sp,zap,hc,zap]
   rfl
  ·rw [zkA (by omega),zkC,zap,zkC]) (by
  simp only [zgs.s2]
  rw [zes]
  rfl) (by omega),zcd.2 fun _ _ _=>rfl]
 simp only [zap,Sum.elim_inl];rw [R16_apart_ok hv ho,zap]
section
variable {m:zab} {t:zac} {o:zad}
theorem zof {m:zab} (H:zda m) (hv:zeg o) (ho:SmO o) (hin:o.Inputs=m.Inputs) (hE:∀ t∈o.Traces,Sym.outs m m.Start.toNat t.In=t.Out):zc5 m o=some true:=by
 have hl:=ho.1;have hst:=H.st;have hS:m.Start=(↑m.Start.toNat:Int):=by omega
 unfold zc5
 rw [zcs (l:=o.Traces) (fun _ _=>(none:Option Bool)) (fun i t hx=>by
  have ht:=zkH hx
  have hP:=(hv.prop t ht).1
  have hw:WOk m.Inputs t.In:=by
   rw [← hin]
   exact zdv hP.1
  have hlen:=zni hP.1
  have hO:=R06_Outs_eq H (s:=m.Start.toNat) (by omega) hw (by omega)
  rw [← hS] at hO
  simp only [zc5.s2]
  rw [zcb hx,zkD,zaq hx,hO,zap,zaq hx,zu4 _ _ (by rw [zii];omega),zap,zkB (hE t ht)]
  rfl) (by
  simp only [zc5.s2]
  rw [zes]
  rfl) (by omega),zcd.2 fun _ _ _=>rfl,zap]
 rfl
theorem zca.two (H:zca t o) (hc:∀ e∈t.Suffixes,e.drop 1∈t.Suffixes∨e.drop 1=[]) {s u:Nat} (hs:s<(hypT t o).M.Next.length) (hu:u<(hypT t o).M.Next.length) (hE:∀ w,WOk t.Inputs w→Sym.outs (hypT t o).M s w=Sym.outs (hypT t o).M u w):s=u:=by
 rw [H.nlen.1] at hs hu;obtain ⟨p,hp,p1,_⟩:=H.state hs;obtain ⟨q,hq,q1,_⟩:=H.state hu;subst p1;subst q1
 have hrow:rowG t o p=rowG t o q:=by
  have l1:=(zig H.hv (H.row hp)).1;have l2:=(zig H.hv (H.row hq)).1;apply List.ext_getElem?;intro i;rcases Nat.lt_or_ge i t.Suffixes.length with hi | hi
  ·have hg:=get_at hi;have he:=List.getElem_mem hi;rw [rowO_at (H.row hp) hg,rowO_at (H.row hq) hg,← H.along hc _ (Or.inl he) p hp,← H.along hc _ (Or.inl he) q hq,hE _ (H.sufs he)]
  ·rw [List.getElem?_eq_none (by omega),List.getElem?_eq_none (by omega)]
 unfold stt;rw [hrow]
theorem mEnd_all {M:zab} {s0:Nat} {L:List (Nat×List Int)} (hE:MEnd M s0 L):∀ (n:Nat) (w:List Int),w.length=n→WOk M.Inputs w→dest M s0 w∈L.map Prod.fst
 | 0,w,hn,_=>by
  rw [List.length_eq_zero_iff.1 hn];exact List.mem_map.2 ⟨_,zkH hE.first,rfl⟩
 | n+1,w,hn,hw=>by
  rcases List.eq_nil_or_concat w with h | ⟨v,x,h⟩
  ·rw [h] at hn;cases hn
  ·rw [List.concat_eq_append] at h;subst h;have hx:=hw x (by simp);obtain ⟨y,hy,e⟩:=List.mem_map.1 (mEnd_all hE n v (by simpa using hn) fun z hz=>hw z (List.mem_append_left _ hz));obtain ⟨i,hi⟩:=List.mem_iff_getElem?.1 hy;obtain ⟨j,z,h1,h2,_⟩:=hE.closed (a:=x.toNat) hi (by omega);rw [zea,← e];exact List.mem_map.2 ⟨z,zkH h1,h2⟩
theorem exact_true (hv:zgu m=0) (HO:zca t o) (hI:t.Inputs=m.Inputs) (hc:∀ e∈t.Suffixes,e.drop 1∈t.Suffixes∨e.drop 1=[]) (hall:∀ w,WOk m.Inputs w→Sym.outs (hypT t o).M 0 w=Sym.outs m m.Start.toNat w):zng (hypT t o).M m=some true:=by
 have hvh:zgu (hypT t o).M=0:=by
  have:=HO.valid6;rw [zf2] at this;injection this
 have HM:=zhp hvh;have hS:(hypT t o).M.Start.toNat=0:=rfl;have hMI:(hypT t o).M.Inputs=m.Inputs:=hI;have hn2:=HM.n2;obtain ⟨T,L,e1,TO⟩:=R06_Trim_eq hvh;obtain ⟨M,e2,S⟩:=R08_Min_sem hv;have hE:=TO.end_;rw [hS] at hE;obtain ⟨hLn,hLr⟩:=mEnd_rng HM HM.n1 hE;have hTI:T.Inputs=m.Inputs:=TO.inp.trans hMI;have hi1:=TO.ok.i1
 have S':MinSem m T:=by
  refine ⟨TO.ok,hTI,TO.start,fun w hw=>?_,fun i j hi hj h=>?_,?_⟩
  ·rw [hTI] at hw;rw [zp0 TO w 0 _ hE.first (by rw [hMI];exact hw)];exact hall w hw
  ·rw [TO.shape.len] at hi hj;have hx:=get_at hi;have hy:=get_at hj
   have:L[i].1=L[j].1:=HO.two hc (hLr _ (List.getElem_mem hi)).1 (hLr _ (List.getElem_mem hj)).1 fun w hw=>by
    have hw:WOk (hypT t o).M.Inputs w:=hw;rw [← zp0 TO w i _ hx hw,← zp0 TO w j _ hy hw];exact h w (by rw [TO.inp];exact hw)
   exact zs1 hE.nodup (x:=L[i].1) (by rw [List.getElem?_map,hx];rfl) (by rw [List.getElem?_map,hy,this];rfl)
  ·exact shape_can (s0:=0) (by rw [TO.inp];exact hE) TO.shape (by omega)
 have:=minsem_uniq S S';subst this
 have hlen:(hypT t o).M.Next.length≤L.length:=by
  have h1:=zio (l:=List.range (hypT t o).M.Next.length) (k:=L.map Prod.fst) List.nodup_range fun s hs=>by
   have hs:=List.mem_range.1 hs;have hs':=hs;rw [HO.nlen.1] at hs';obtain ⟨q,hq,q1,_⟩:=HO.state hs';have h2:=mEnd_all hE _ q rfl (zdv ((zdy (zcp HO.hz).1).1 q hq))
   rwa [(HO.walk _ q rfl hq).2,q1] at h2
  rwa [List.length_range,zkK] at h1
 have hnl:M.Next.length=(hypT t o).M.Next.length:=by rw [TO.shape.len];omega
 unfold zng;rw [e2,zap,e1,zap];simp only [decide_true,zkD];rw [zkB (by rw [hnl]),zkD,R06_Same_self TO.ok];rfl
theorem zq5 (m:zab) (prefixes:Bool):zf6 m prefixes=some true:=by
 unfold zf6
 have hsm:∃ b,zms m=some b∧(b=true→m.Next.length≤12∧m.Inputs≤4):=by
  unfold zms;by_cases h1:m.Next.length≤12
  ·rw [zkB (by omega),zkD];by_cases h2:m.Out.length≤12
   ·rw [zkB (by omega),zkD,zap];exact ⟨_,rfl,fun h=>⟨h1,of_decide_eq_true h⟩⟩
   ·rw [zkA (by omega),zkC,zap];exact ⟨_,rfl,fun h=>by cases h⟩
  ·rw [zkA (by omega),zkC,zap];exact ⟨_,rfl,fun h=>by cases h⟩
 obtain ⟨b,e,hb⟩:=hsm;obtain ⟨b2,eg⟩:=L06_Great_any m;rw [e,zap];cases b with
 | false=>rw [Bool.not_false,zkD,zap,zkD,zj7];rfl
 | true =>
  rw [Bool.not_true,zkC,eg,zap];cases b2 with
  | true=>rw [zkD,zap,zkD,zj7];rfl
  | false =>
   rw [zkC,zf2,zap,zap];by_cases hv:zgu m=0
   ·obtain ⟨hn,hi⟩:=hb rfl;have H:=zhp hv;rw [zkA (fun h=>h hv),zkC]
    have hm:∃ k:Nat,(cond prefixes (some 0) (some 1):Option Nat)=some k∧((↑k:Int)=0∨(↑k:Int)=1):=by
     cases prefixes with
     | true=>exact ⟨0,rfl,.inl rfl⟩
     | false=>exact ⟨1,rfl,.inr rfl⟩
    obtain ⟨k,ek,hk⟩:=hm;rw [ek,zap];obtain ⟨r,r1,t,o,c,x,HO,J,hall,hnl,rfl⟩:=learn_done hv hn hi hk;have hk2:=J.k2;rw [if_neg Bool.false_ne_true] at hk2;have hmac:=HO.mac;have hmi:(hypT t o).M.Inputs=m.Inputs:=J.inp;rw [r1,zap];simp only;rw [zkA (by simp),zkC,HO.valid22,zap,zkA (by simp),zkC,R16_Valid_ok J.told.ok J.told.smR,zap,zkA (by simp),zap,zkC];rw [exact_true hv HO J.inp J.suf hall,zap,zkD,zkB J.told.inp,zkD,zof H J.told.ok J.told.smR J.told.inp (fun t ht=>(J.told.ex t ht).symm),zap,zkD]
    rw [zof hmac J.told.ok J.told.smR (by rw [hmi];exact J.told.inp) (fun u hu=>by
     show Sym.outs (hypT t o).M 0 u.In=u.Out
     rw [hall u.In (by rw [← J.told.inp];exact zdv (J.told.ok.prop u hu).1.1)]
     exact (J.told.ex u hu).symm),zap,zkD,zkB (by omega),zkD,zkB (by rw [hnl];omega),zkD,zj7]
    rfl
   ·rw [zkB (by exact hv),zkD,zj7];rfl
end
end
theorem zoz (x0:zab) (x1:Bool) (_:zrw x0) (_:zrs x0≤1048576):zf6 x0 x1=some true :=
 zq5 x0 x1
theorem eI {σ:St} {src:List (Nat×Option Nat)} {γ:Nat→Nat} {t:Nat} {y b:IV} (h1:σ.av t=.im y) (h2:AV.im y=.im b):∃ x,σ.av t=x∧SubR σ src γ x (.im b):=⟨.im y,h1,.im (Sub.rfl' h2)⟩
theorem odt {p:Prop} [Decidable p] (h:decide p=true):p:=of_decide_eq_true h
theorem odf {p:Prop} [Decidable p] (h:decide p=false):¬ p:=of_decide_eq_false h
theorem ctd {α:Type} {p:Prop} [Decidable p] {x y z:α} (hb:decide p=true) (h:cond (decide p) x y=z):x=z∧p:=⟨cond_t hb h,odt hb⟩
theorem cfd {α:Type} {p:Prop} [Decidable p] {x y z:α} (hb:decide p=false) (h:cond (decide p) x y=z):y=z∧¬ p:=⟨cond_f hb h,odf hb⟩
theorem hT {σ:St}:Holds σ True:=Holds.true_ _
abbrev lZ {α:Type} (l:List α):Prop:=List.length l≤17592186044416
theorem eA {σ:St} {avs:List (Nat×AV)} {kds:List (Nat×Kd)} {cels:List (Nat×Nat×AV)} (src:List (Nat×Option Nat)) (hn:ndB (srcs src) []=true:=by exact rfl) (ha:SubL σ src (gnM kds) avs:=by repeat' (first | exact trivial | refine ⟨eI rfl rfl,?_⟩ | refine ⟨⟨.own _ _ _,rfl,.own rfl rfl rfl⟩,?_⟩ | refine ⟨⟨.osl _ _,rfl,.osl rfl rfl rfl⟩,?_⟩ | refine ⟨⟨.im (.val (.slice none 0 0)),rfl,.made rfl rfl⟩,?_⟩ | refine ⟨⟨.sub _ _ _,rfl,.sub rfl rfl⟩,?_⟩ | refine ⟨⟨.osv _ _ _ _,rfl,.osv rfl rfl rfl⟩,?_⟩ | refine ⟨⟨.agg [.osl _ _],rfl,.agg (.cons (.osl rfl rfl rfl) (.nil))⟩,?_⟩)) (hk:KdL σ src kds:=by repeat' (first | exact trivial | refine ⟨.inl ⟨_,rfl,rfl,trivial⟩,?_⟩ | refine ⟨.inl ⟨_,rfl,rfl,⟨rfl,rfl⟩⟩,?_⟩ | refine ⟨.inr ⟨rfl,rfl,.inl ⟨_,_,rfl,by decide⟩⟩,?_⟩ | refine ⟨.inr ⟨rfl,rfl,.inr (.inl ⟨_,_,_,rfl⟩)⟩,?_⟩)) (hc:CeL σ src (gnM kds) cels:=by repeat' (first | exact trivial | refine ⟨⟨_,.im _,rfl,rfl,.im (Sub.rfl' rfl)⟩,?_⟩ | refine ⟨⟨_,.own _ _ _,rfl,rfl,.own rfl rfl rfl⟩,?_⟩ | refine ⟨⟨_,.osl _ _,rfl,rfl,.osl rfl rfl rfl⟩,?_⟩ | refine ⟨⟨_,.im (.val (.slice none 0 0)),rfl,rfl,.made rfl rfl⟩,?_⟩)):Ent σ (mkSt avs kds cels):=Ent.mk src hn ha hk hc
theorem zzF {S R:Type} {step:S→Option (S⊕R)} {r:R} {k:Nat} {x:R} (h:Fin step r k (.inr x)):x=r:=h
theorem zzM {α:Type} {p:Prop} [Decidable p] {x y z:α} {A B:Prop} (h:cond (decide p) x y=z) (k:decide p=true→x=z→p→A) (l:decide p=false→y=z→¬p→B):Both (decide p) A B:=.mk (fun e=>k e (ctd e h).1 (ctd e h).2) fun e=>l e (cfd e h).1 (cfd e h).2
theorem zzN {α:Type} {p:Prop} [Decidable p] {x y z:α} {A B:Prop} (h:cond (decide p) x y=z) (k:decide p=true→x=z→p→A) (l:decide p=false→y=z→¬p→B):Both (decide p==true) A B:=.mk (fun e=>k (beq_tt e) (ctd (beq_tt e) h).1 (ctd (beq_tt e) h).2) fun e=>l (beq_tf e) (cfd (beq_tf e) h).1 (cfd (beq_tf e) h).2
theorem zzO {α:Type} {p:Prop} [Decidable p] {x y z:α} {A B:Prop} (h:cond (decide p) x y=z) (k:decide p=false→y=z→¬p→A) (l:decide p=true→x=z→p→B):Both (decide p==false) A B:=.mk (fun e=>k (beq_ff e) (cfd (beq_ff e) h).1 (cfd (beq_ff e) h).2) fun e=>l (beq_ft e) (ctd (beq_ft e) h).1 (ctd (beq_ft e) h).2
theorem zzP {α:Type} {b:Bool} {x y z:α} {A B:Prop} (h:cond b x y=z) (k:b=true→x=z→A) (l:b=false→y=z→B):Both b A B:=.mk (fun e=>k e (cond_t e h)) fun e=>l e (cond_f e h)
theorem zzQ {α:Type} {b:Bool} {x y z:α} {A B:Prop} (h:cond b x y=z) (k:b=true→x=z→A) (l:b=false→y=z→B):Both (b==true) A B:=.mk (fun e=>k (beq_tt e) (cond_t (beq_tt e) h)) fun e=>l (beq_tf e) (cond_f (beq_tf e) h)
theorem zzR {α:Type} {b:Bool} {x y z:α} {A B:Prop} (h:cond b x y=z) (k:b=false→y=z→A) (l:b=true→x=z→B):Both (b==false) A B:=.mk (fun e=>k (beq_ff e) (cond_f (beq_ff e) h)) fun e=>l (beq_ft e) (cond_t (beq_ft e) h)
theorem zzI {α β:Type} {l:List α} {c:α→List IV} {i:Nat} {F:α→Option β} {r:β} {Z:Option Nat} {K:List IV→Prop} (h:idxn l i F=some r) (k:∀x,l[i]?=some x→F x=some r→K (c x)) (hz:∀x,Z=some (c x).length:=by exact fun _=>rfl):∃ e,(0≤(↑i:Int)∧(l.map c)[(↑i:Int).toNat]?=some e∧Z=some e.length)∧K e:=by
 obtain ⟨x,hx,h⟩:=zdd h;exact ⟨c x,⟨by omega,zdq hx,hz x⟩,k x hx h⟩
theorem zzJ {α β:Type} {l:List α} {c:α→List IV} {i:Int} {F:α→Option β} {r:β} {Z:Option Nat} {K:List IV→Prop} (h:idx l i F=some r) (k:∀x,0≤i→l[i.toNat]?=some x→F x=some r→K (c x)) (hz:∀x,Z=some (c x).length:=by exact fun _=>rfl):∃ e,(0≤i∧(l.map c)[i.toNat]?=some e∧Z=some e.length)∧K e:=by
 obtain ⟨x,h0,hx,h⟩:=zfb h;exact ⟨c x,⟨h0,zdq hx,hz x⟩,k x h0 hx h⟩
theorem zzL {S R:Type} {step:S→Option (S⊕R)} {n:Nat} {s0:S} {r:R} (h:Sym.iter step n s0=some r) (st:S→St) (φ:S→Prop) {body:(Exit→St→Prop)→St→Prop} {K:Exit→St→Prop} {σ:St} (e0:Ent σ (st s0)) (hφ:∀ s,Holds (st s) (φ s))
 (hb:∀ k s o,φ s→step s=some o→Fin step r k o→body (fun e σ'=>match e with | .normal=>Nxt step r st k σ' | e=>K e σ') (st s)):ztc body K σ:=ztc.iter step st φ h e0 hφ hb
theorem zzS {P:Program} {f:FuncId} {fn:Func} {c:Code} {xs:List Arg} {r:Rs} (own:List Nat) (h:OkAs xs→frcW (entW xs) 0 sig0 fun _ σ=>zmn P (SpX P) fn.ntmps own c (retK P fn.results.toList xs r) σ) (hm:P.follows .mixedOrders=true:=by exact rfl) (hf:P.funcs[f]?=some fn:=by exact rfl) (hname:(fn.name=="runtime.NumGoroutine")=false:=by exact rfl) (hb:fn.body=some c:=by exact rfl)
 (hn:xs.length≤fn.ntmps:=by exact zkE rfl) (hok:entOk xs=true:=by exact rfl):Sp P f xs r:=sp_of hm own hf hname hb hn hok h
theorem zzV {φ:Prop} {Z:Type} (oc:Unit⊕Z) (st:St) {body:(St→Prop)→Prop} {rest:St→Prop} (hφ:Holds st φ) (h:body (zc0 oc fun _=>st)) (k:∀ y:Unit,oc=.inl y→φ→rest st):Cut body rest:=zlJ oc (fun _=>st) (fun _=>φ) (fun _=>hφ) h k
theorem zzR_ {x:Int} (h:-9223372036854775808≤x∧x≤9223372036854775807):inR x:=h
abbrev zvI (x:Int):AV:=.im (nI x)
abbrev zvN (x:Nat):AV:=.im (nI (↑x:Int))
abbrev zvB (x:Bool):AV:=.im (nB x)
abbrev zvR (x:List IV):AV:=.im (.ref x)
abbrev zvL {α:Type} (c:α→List IV) (l:List α):AV:=.im (nL c l)
def zid:List Nat→List (Nat×Option Nat)
 | []=>[]
 | a::l=>(a,some a)::zid l
def zod:List Nat→List (Nat×Option Nat)
 | a::b::l=>(a,some b)::zod l
 | _=>[]
def idk:List (Nat×Kd)→List (Nat×Option Nat)
 | []=>[]
 | a::l=>(a.1,some a.1)::idk l
theorem eZ {σ:St} {avs:List (Nat×AV)} {kds:List (Nat×Kd)} {cels:List (Nat×Nat×AV)} (hn:ndB (srcs (idk kds)) []=true:=by exact rfl) (ha:SubL σ (idk kds) (gnM kds) avs:=by repeat' (first | exact trivial | refine ⟨eI rfl rfl,?_⟩ | refine ⟨⟨.own _ _ _,rfl,.own rfl rfl rfl⟩,?_⟩ | refine ⟨⟨.osl _ _,rfl,.osl rfl rfl rfl⟩,?_⟩ | refine ⟨⟨.im (.val (.slice none 0 0)),rfl,.made rfl rfl⟩,?_⟩ | refine ⟨⟨.sub _ _ _,rfl,.sub rfl rfl⟩,?_⟩ | refine ⟨⟨.osv _ _ _ _,rfl,.osv rfl rfl rfl⟩,?_⟩ | refine ⟨⟨.agg [.osl _ _],rfl,.agg (.cons (.osl rfl rfl rfl) (.nil))⟩,?_⟩)) (hk:KdL σ (idk kds) kds:=by repeat' (first | exact trivial | refine ⟨.inl ⟨_,rfl,rfl,trivial⟩,?_⟩ | refine ⟨.inl ⟨_,rfl,rfl,⟨rfl,rfl⟩⟩,?_⟩)) (hc:CeL σ (idk kds) (gnM kds) cels:=by repeat' (first | exact trivial | refine ⟨⟨_,.im _,rfl,rfl,.im (Sub.rfl' rfl)⟩,?_⟩ | refine ⟨⟨_,.own _ _ _,rfl,rfl,.own rfl rfl rfl⟩,?_⟩ | refine ⟨⟨_,.osl _ _,rfl,rfl,.osl rfl rfl rfl⟩,?_⟩ | refine ⟨⟨_,.im (.val (.slice none 0 0)),rfl,rfl,.made rfl rfl⟩,?_⟩)):Ent σ (mkSt avs kds cels):=Ent.mk (idk kds) hn ha hk hc
theorem zzW {α β:Type} {X:Option α} {F:α→Option β} {r:β} {φ:α→Prop} (h:X.bind F=some r) (st:α→St) {body:(St→Prop)→Prop} {rest:St→Prop} (hφ:∀ y,Holds (st y) (φ y)) (k:∀ y,F y=some r→φ y→rest (st y)) (hb:∀ y,X=some y→body (Join (st y)):=by intro y h;repeat' ((try conv=>whnf);first | refine zlD (by assumption) ?_ | refine zlE (by assumption) ?_ | refine zlD (zbv (by assumption)) ?_ | refine zlE (zfv (by assumption)) ?_ | refine zlD (zbi (by assumption)) ?_ | refine zlE (zf8 (by assumption)) ?_ | refine zlD rfl ?_ | refine zlE rfl ?_ | refine zzM h (fun _ h _=>?_) fun _ h _=>?_ | refine zzO h (fun _ h _=>?_) fun _ h _=>?_ | refine zzN h (fun _ h _=>?_) fun _ h _=>?_ | refine zzP h (fun _ h=>?_) fun _ h=>?_ | refine zzR h (fun _ h=>?_) fun _ h=>?_ | refine zzQ h (fun _ h=>?_) fun _ h=>?_ | refine zzI h fun _ _ h=>?_ | refine zzJ h fun _ _ _ h=>?_ | refine zlF _ zal ?_ | refine zlB rfl ?_ | (cases h;exact zlG eZ))):Cut body rest:=by
 obtain ⟨y,hc,h⟩:=zlA h;exact Cut.mk (st y) (φ y) (hφ y) (hb y hc) (k y h)
theorem zzU {φ:Prop} (s:St) {body:(St→Prop)→Prop} {rest:St→Prop} (hφ:Holds s φ) (h:body (Join s)) (k:φ→rest s):Cut body rest:=Cut.mk s φ hφ h k
theorem sp_L24_Small (m_:zab) (r:Bool) (h:zms m_=some r):Sp Tryz.prog 4 [.im (.agg (zaf m_))] (.im (nB r)):=by
 refine zzS [700001] fun hk=>?_;have z1:lZ m_.Next:=zag (zlI hk.1 2 rfl);have z2:lZ m_.Out:=zag (zlI hk.1 3 rfl);unfold zms at h;refine zzW h (fun a2=>mkSt [(2,zvB a2)] [] []) (fun _=>hT) fun a2 h hp=>?_;cases h;exact ⟨rfl,rfl⟩
theorem sp_L06_Great (m_:zab) (r:Bool) (h:zmg m_=some r):Sp Tryz.prog 5 [.im (.agg (zaf m_))] (.im (nB r)):=by
 refine zzS [700001] fun hk=>?_;have z1:lZ m_.Next:=zag (zlI hk.1 2 rfl);have z2:lZ m_.Out:=zag (zlI hk.1 3 rfl);unfold zmg at h;refine zzW h (fun a2=>mkSt [(2,zvB a2)] [] []) (fun _=>hT) fun a2 h hp=>?_;cases h;exact ⟨rfl,rfl⟩
theorem sp_R06_row (m_:zab) (s_:Int) (r:Int) (h:zft m_ s_=some r):Sp Tryz.prog 13 [.im (.agg (zaf m_)),.im (nI s_)] (.im (nI r)):=by
 refine zzS [700002] fun hk=>?_;have z1:lZ m_.Next:=zag (zlI hk.1 2 rfl);have z2:lZ m_.Out:=zag (zlI hk.1 3 rfl);unfold zft at h;refine zzW h (fun b4=>mkSt [(1,zvI s_),(2,zvR (zaf m_)),(25,zvB b4)] [] []) (fun _=>hT) fun b4 h hp=>?_;refine zzP h (fun b5 h=>?_) fun b5 h=>?_;cases h;exact ⟨rfl,rfl⟩;obtain ⟨oc,h,hk61⟩:=zlA h;refine zzV oc (mkSt [] [] []) hT ?_ ?_;refine zzL h (fun a2=>mkSt [(1,zvI s_),(2,zvR (zaf m_)),(5,zvN a2)] [] []) (fun a2=>True) eZ (fun _=>hT) ?_;rintro k a2 o hp h ho203;unfold zft.s2 at h;refine zzM h (fun a8 h a6=>?_) fun a8 h a6=>?_;refine zzW h (fun a7=>mkSt [(1,zvI s_),(2,zvR (zaf m_)),(5,zvN a2),(76,zvB a7)] [] []) (fun _=>hT) fun a7 h hp=>?_;refine zzP h (fun b2 h=>?_) fun b2 h=>?_;cases h;cases zzF ho203;replace h:some _=some _:=hk61;cases h;exact ⟨rfl,rfl⟩;obtain ⟨b3,h⟩:=zan h;refine za8.mk b3 ?_;cases h;exact zlK _ ho203 eZ;cases h;cases zzF ho203;exact zc0.mk' _ rfl eZ;rintro ⟨⟩ rfl hp;replace h:=zbm hk61;cases h;exact ⟨rfl,rfl⟩
theorem zim (m_:zab) (r:Int) (h:zbx m_=some r):Sp Tryz.prog 6 [.im (.agg (zaf m_))] (.im (nI r)):=by
 refine zzS [700001] fun hk=>?_;have z1:lZ m_.Next:=zag (zlI hk.1 2 rfl);have z2:lZ m_.Out:=zag (zlI hk.1 3 rfl);unfold zbx at h;refine zzW h (fun b4=>mkSt [(1,zvR (zaf m_)),(12,zvB b4)] [] []) (fun _=>hT) fun b4 h hp=>?_;refine zzP h (fun b6 h=>?_) fun b6 h=>?_;cases h;exact ⟨rfl,rfl⟩;refine zlF m_.Next.length zal ?_;refine zzM h (fun b7 h a6=>?_) fun b7 h a6=>?_;cases h;exact ⟨rfl,rfl⟩;refine zlF m_.Next.length zal ?_;refine zzM h (fun b8 h a7=>?_) fun b8 h a7=>?_;cases h;exact ⟨rfl,rfl⟩;refine zzW h (fun b5=>mkSt [(1,zvR (zaf m_)),(31,zvB b5)] [] []) (fun _=>hT) fun b5 h hp=>?_;refine zzP h (fun b9 h=>?_) fun b9 h=>?_;cases h;exact ⟨rfl,rfl⟩;refine zlF m_.Out.length zal ?_;refine zlF m_.Next.length zal ?_;refine zzM h (fun c0 h a8=>?_) fun c0 h a8=>?_;cases h;exact ⟨rfl,rfl⟩;obtain ⟨oc,h,hk66⟩:=zlA h;refine zzV oc (mkSt [] [] []) hT ?_ ?_;refine zzL h (fun a2=>mkSt [(1,zvR (zaf m_)),(3,zvN a2)] [] []) (fun a2=>True) eZ (fun _=>hT) ?_;rintro k a2 o hp h ho85;unfold zbx.s2 at h;refine zlF m_.Next.length zal ?_;refine zzM h (fun c6 h b2=>?_) fun c6 h b2=>?_;obtain ⟨c7,hc87,h⟩:=zlA h;refine ⟨_,sp_R06_row m_ (↑a2:Int) c7 hc87,?_⟩;refine zzM h (fun c8 h b3=>?_) fun c8 h b3=>?_;cases h;cases zzF ho85;replace h:some _=some _:=hk66;cases h;exact ⟨rfl,rfl⟩;refine za8.mk (zzR_ (by omega)) ?_;cases h;exact zlK _ ho85 eZ;cases h;cases zzF ho85;exact zc0.mk' _ rfl eZ;rintro ⟨⟩ rfl hp;replace h:=zbm hk66;cases h;exact ⟨rfl,rfl⟩
theorem zi4 (s_:List Int) (f_:Int→Option Bool) (f1_:FuncId) (hf1:∀ x0 r,f_ x0=some r→Sp Tryz.prog f1_ [.im (nI x0)] (.im (nB r))) (r:Int) (h:zbe s_ f_=some r):Sp Tryz.prog 100 [.im (nL cI s_),.im (.fn f1_ [])] (.im (nI r)):=by
 refine zzS [] fun hk=>?_;have z1:lZ s_:=zag hk.1;unfold zbe at h;refine zlF s_.length zal ?_;obtain ⟨oc,h,hk51⟩:=zlA h;refine zzV oc (mkSt [] [] []) hT ?_ ?_;refine zzL h (fun a2=>mkSt [(0,zvL cI s_),(1,.im (.fn f1_ [])),(7,zvI (↑s_.length:Int)),(8,zvN a2)] [] []) (fun a2=>lZ s_∧True) eZ (fun a2=>((zlH 0 rfl).and hT)) ?_;rintro k a2 o hp h ho76;unfold zbe.s2 at h;obtain ⟨b4,_⟩:=hp;refine zzM h (fun a7 h a6=>?_) fun a7 h a6=>?_;refine zzI h fun a8 he78 h=>?_;obtain ⟨b2,hc79,h⟩:=zlA h;refine ⟨_,hf1 a8 b2 hc79,?_⟩;refine zzP h (fun b3 h=>?_) fun b3 h=>?_;cases h;cases zzF ho76;replace h:some _=some _:=hk51;cases h;exact ⟨rfl,rfl⟩;refine za8.mk (zzR_ (by omega)) ?_;cases h;exact zlK _ ho76 eZ;cases h;cases zzF ho76;exact zc0.mk' _ rfl eZ;rintro ⟨⟩ rfl hp;replace h:=zbm hk51;cases h;exact ⟨rfl,rfl⟩
theorem zh1 (s_:List Int) (f_:Int→Option Bool) (f1_:FuncId) (hf1:∀ x0 r,f_ x0=some r→Sp Tryz.prog f1_ [.im (nI x0)] (.im (nB r))) (r:Bool) (h:zb9 s_ f_=some r):Sp Tryz.prog 75 [.im (nL cI s_),.im (.fn f1_ [])] (.im (nB r)):=by
 refine zzS [] fun hk=>?_;have z1:lZ s_:=zag hk.1;unfold zb9 at h;obtain ⟨a2,hc51,h⟩:=zlA h;refine ⟨_,zi4 s_ f_ f1_ hf1 a2 hc51,?_⟩;cases h;exact ⟨rfl,rfl⟩
theorem zrb (inputs_:Int) (r:Bool) (h:zgp inputs_=some r):Sp Tryz.prog 74 [.im (nI inputs_)] (.im (nB r)):=by
 refine zzS [] fun hk=>?_;unfold zgp at h;refine zzW h (fun a2=>mkSt [(2,zvB a2)] [] []) (fun _=>hT) fun a2 h hp=>?_;cases h;exact ⟨rfl,rfl⟩
theorem ztq (a_:Int) (p1_:Int) (r:Bool) (h:zg7 a_ p1_=some r):Sp Tryz.prog 76 [.im (nI a_),.im (.ref (cI p1_))] (.im (nB r)):=by
 refine zzS [] fun hk=>?_;unfold zg7 at h;refine zzW h (fun a2=>mkSt [(3,zvB a2)] [] []) (fun _=>hT) fun a2 h hp=>?_;cases h;exact ⟨rfl,rfl⟩
theorem zh3 (s_:List Int) (f_:Int→Option Bool) (f1_:FuncId) (k1_0:IV) (hk1_0:nz k1_0=k1_0) (hf1:∀ x0 r,f_ x0=some r→Sp Tryz.prog f1_ [.im (nI x0),.im k1_0] (.im (nB r))) (r:Int) (h:za5 s_ f_=some r):Sp Tryz.prog 100 [.im (nL cI s_),.im (.fn f1_ [k1_0])] (.im (nI r)):=by
 refine zzS [] fun hk=>?_;have z1:lZ s_:=zag hk.1;unfold za5 at h;refine zlF s_.length zal ?_;obtain ⟨oc,h,hk51⟩:=zlA h;refine zzV oc (mkSt [] [] []) hT ?_ ?_;refine zzL h (fun a2=>mkSt [(0,zvL cI s_),(1,.im (.fn f1_ [k1_0])),(7,zvI (↑s_.length:Int)),(8,zvN a2)] [] []) (fun a2=>lZ s_∧True) eZ (fun a2=>((zlH 0 rfl).and hT)) ?_;rintro k a2 o hp h ho76;unfold za5.s2 at h;obtain ⟨b4,_⟩:=hp;refine zzM h (fun a7 h a6=>?_) fun a7 h a6=>?_;refine zzI h fun a8 he78 h=>?_;obtain ⟨b2,hc79,h⟩:=zlA h;refine ⟨_,Sp.args (hf1 a8 b2 hc79) (by rw [hk1_0];try rfl),?_⟩;refine zzP h (fun b3 h=>?_) fun b3 h=>?_;cases h;cases zzF ho76;replace h:some _=some _:=hk51;cases h;exact ⟨rfl,rfl⟩;refine za8.mk (zzR_ (by omega)) ?_;cases h;exact zlK _ ho76 eZ;cases h;cases zzF ho76;exact zc0.mk' _ rfl eZ;rintro ⟨⟩ rfl hp;replace h:=zbm hk51;cases h;exact ⟨rfl,rfl⟩
theorem zha (s_:List Int) (f_:Int→Option Bool) (f1_:FuncId) (k1_0:IV) (hk1_0:nz k1_0=k1_0) (hf1:∀ x0 r,f_ x0=some r→Sp Tryz.prog f1_ [.im (nI x0),.im k1_0] (.im (nB r))) (r:Bool) (h:zcl s_ f_=some r):Sp Tryz.prog 75 [.im (nL cI s_),.im (.fn f1_ [k1_0])] (.im (nB r)):=by
 refine zzS [] fun hk=>?_;have z1:lZ s_:=zag hk.1;unfold zcl at h;obtain ⟨a2,hc51,h⟩:=zlA h;refine ⟨_,zh3 s_ f_ f1_ k1_0 hk1_0 hf1 a2 hc51,?_⟩;cases h;exact ⟨rfl,rfl⟩
theorem zfg (w_:List Int) (inputs_:Int) (r:Int) (h:ze6 w_ inputs_=some r):Sp Tryz.prog 41 [.im (nL cI w_),.im (nI inputs_)] (.im (nI r)):=by
 refine zzS [700003] fun hk=>?_;have z1:lZ w_:=zag hk.1;unfold ze6 at h;obtain ⟨a6,hc51,h⟩:=zlA h;refine ⟨_,zrb inputs_ a6 hc51,?_⟩;refine zzP h (fun a7 h=>?_) fun a7 h=>?_;cases h;exact ⟨rfl,rfl⟩;refine zlF w_.length zal ?_;refine zzM h (fun a8 h a2=>?_) fun a8 h a2=>?_;cases h;exact ⟨rfl,rfl⟩;obtain ⟨b2,hc54,h⟩:=zlA h;refine ⟨_,zha w_ (fun u0=>zg7 u0 inputs_) 76 (.ref (cI inputs_)) rfl (fun u0 r h=>(ztq u0 inputs_ r h)) b2 hc54,?_⟩;refine zzP h (fun b3 h=>?_) fun b3 h=>?_;cases h;exact ⟨rfl,rfl⟩;cases h;exact ⟨rfl,rfl⟩
theorem zn5 (a_:List Int) (b_:List Int) (p2_:(List Int)→(List Int)→Option Int) (f2_:FuncId) (hf2:∀ x0 x1 r,p2_ x0 x1=some r→Sp Tryz.prog f2_ [.im (nL cI x0),.im (nL cI x1)] (.im (nI r))) (r:Bool) (h:zey a_ b_ p2_=some r):Sp Tryz.prog 104 [.im (nL cI a_),.im (nL cI b_),.im (.ref [.fn f2_ []])] (.im (nB r)):=by
 refine zzS [] fun hk=>?_;have z1:lZ a_:=zag hk.1;have z2:lZ b_:=zag hk.2.1;unfold zey at h;obtain ⟨a2,hc51,h⟩:=zlA h;refine ⟨_,hf2 a_ b_ a2 hc51,?_⟩;cases h;exact ⟨rfl,rfl⟩
theorem zg2 (s_:List (List Int)) (eq_:(List Int)→(List Int)→Option Bool) (f1_:FuncId) (k1_0:IV) (hk1_0:nz k1_0=k1_0) (hf1:∀ x0 x1 r,eq_ x0 x1=some r→Sp Tryz.prog f1_ [.im (nL cI x0),.im (nL cI x1),.im k1_0] (.im (nB r))) (r:List (List Int)) (h:OkL (List.map (cL cI) s_)→Ok (.fn f1_ [k1_0])→zaj s_ eq_=some r):Sp Tryz.prog 103 [.row 50 1 (List.map (cL cI) s_),.im (.fn f1_ [k1_0])] (.row 50 1 (List.map (cL cI) r)):=by
 refine zzS [] fun hk=>?_;replace h:=h hk.1 hk.2.1;have z1:lZ s_:=zqg hk.1;unfold zaj at h;refine zlB rfl ?_;refine zlF s_.length zal ?_;refine zzM h (fun d9 h b9=>?_) fun d9 h b9=>?_;cases h;exact zlB ⟨rfl,trivial⟩ ⟨rfl,rfl⟩;obtain ⟨oc,h,hk52⟩:=zlA h;refine zlJ oc (Y:=Unit) (fun (_:Unit)=>mkSt [(0,.osl 66 1)] [(66,.row 50 1 (List.map (cL cI) s_))] []) (fun (_:Unit)=>lZ s_∧True) (by rintro ⟨⟩;exact ((Holds.kdl 66 rfl).and hT)) ?_ ?_;refine zzL h (fun a2=>mkSt [(0,.osl 66 1),(1,.im (.fn f1_ [k1_0])),(5,zvN a2)] [(66,.row 50 1 (List.map (cL cI) s_))] []) (fun a2=>lZ s_∧True) (eA (zod [66,0])) (fun a2=>((Holds.kdl 66 rfl).and hT)) ?_;rintro k a2 o hp h ho432;unfold zaj.s20 at h;obtain ⟨e0,_⟩:=hp;refine zlB rfl ?_;refine zlF s_.length zal ?_;refine zzM h (fun c0 h b7=>?_) fun c0 h b7=>?_;obtain ⟨c6,he434,h⟩:=zdd h;refine zlB ⟨(by omega),rfl,zdr he434⟩ ?_;refine ⟨_,_,⟨rfl,zdq he434,rfl,rfl⟩,?_⟩;refine za8.mk (zzR_ (by omega)) ?_;obtain ⟨c7,he435z,he435,h⟩:=zfb h;refine zlB ⟨he435z,rfl,zdr he435⟩ ?_;refine ⟨_,_,⟨rfl,zdq he435,rfl,rfl⟩,?_⟩;obtain ⟨c8,hc436,h⟩:=zlA h;refine ⟨_,Sp.args (hf1 c6 c7 c8 hc436) (by rw [hk1_0];try rfl),?_⟩;refine zzP h (fun c9 h=>?_) fun c9 h=>?_;obtain ⟨b4,h⟩:=zan h;refine zlB ⟨rfl,b4.1,by have hh_:=b4;simp only [zkK];omega,by have hh_:=b4;simp only [zkK];omega⟩ ?_;obtain ⟨⟨b2,a8⟩,h,hk439⟩:=zlA h;refine zzU (mkSt [(0,.osl 66 1),(5,zvN a8)] [(66,.row 50 1 (List.map (cL cI) b2))] []) ((Holds.kdl 66 rfl).and hT) ?_ fun hp=>?_;refine zzL h (fun (a6,b3,a7)=>mkSt [(0,.osl 66 1),(1,.im (.fn f1_ [k1_0])),(5,zvN b3),(6,.osv 66 1 a2 1),(7,zvN a7)] [(66,.row 50 1 (List.map (cL cI) a6))] []) (fun (a6,b3,a7)=>lZ a6∧True) eZ (fun ⟨a6,b3,a7⟩=>((Holds.kdl 66 rfl).and hT)) ?_;rintro k ⟨a6,b3,a7⟩ o hp h ho493;change zaj.s18 eq_ a2 a6 b3 a7=_ at h;unfold zaj.s18 at h;obtain ⟨e1,_⟩:=hp;refine zlB rfl ?_;refine zlF (List.length a6-a2) len_own ?_;refine zzM h (fun d0 h b8=>?_) fun d0 h b8=>?_;obtain ⟨d1,he495,h⟩:=zdd h;refine zlB ⟨(by omega),rfl,zdr he495⟩ ?_;refine zlF (a2+a7) rfl ?_;refine ⟨_,_,⟨rfl,zdq he495,rfl,rfl⟩,?_⟩;refine za8.mk (zzR_ (by omega)) ?_;obtain ⟨d2,h⟩:=zan h;obtain ⟨d3,he496,h⟩:=zdd h;refine zlB ⟨d2,rfl,zdr he496⟩ ?_;refine zlF (a2+(Int.toNat ((↑a7:Int)-1))) rfl ?_;refine ⟨_,_,⟨rfl,zdq he496,rfl,rfl⟩,?_⟩;obtain ⟨d4,hc498,h⟩:=zlA h;refine ⟨_,Sp.args (hf1 d1 d3 d4 hc498) (by rw [hk1_0];try rfl),?_⟩;refine zzP h (fun d5 h=>?_) fun d5 h=>?_;obtain ⟨d6,he500,h⟩:=zdd h;refine zlB ⟨(by omega),rfl,zdr he500⟩ ?_;refine zlF (a2+a7) rfl ?_;refine ⟨_,_,⟨rfl,zdq he500,rfl,rfl⟩,?_⟩;obtain ⟨e2,he501,h⟩:=zdd h;refine zlB ⟨(by omega),rfl,zdr he501⟩ ?_;refine zlB ⟨rfl,trivial⟩ ?_;refine ⟨_,zdq he501,?_⟩;refine zlF (List.map (cL cI) (List.set a6 b3 d6)) (zq0 rfl) ?_;obtain ⟨d7,h⟩:=zan h;refine za8.mk d7 ?_;refine za8.mk (zzR_ (by omega)) ?_;cases h;exact zlK _ ho493 eZ;refine za8.mk (zzR_ (by omega)) ?_;cases h;exact zlK _ ho493 eZ;cases h;cases zzF ho493;exact zlG eZ;replace h:zaj.k19 b2 a8=some _:=hk439;unfold zaj.k19 at h;obtain ⟨e3,_⟩:=hp;obtain ⟨b5,h⟩:=zan h;refine zlB ⟨rfl,b5.1,by have hh_:=b5;simp only [zkK];omega,by have hh_:=b5;simp only [zkK];omega⟩ ?_;obtain ⟨d8,h⟩:=zan h;refine zlB ⟨rfl,by have hh_:=d8;simp only [zkK];omega⟩ ?_;refine zlF (List.map (cL cI) (List.take a8 b2++List.replicate (List.length b2-a8) [])) (clr_map (z:=[]) rfl) ?_;obtain ⟨b6,h⟩:=zan h;refine zlB ⟨rfl,b6.1,by have hh_:=b6;simp only [zkK];omega,by have hh_:=b6;simp only [zkK];omega⟩ ?_;refine zlF (List.map (cL cI) (List.take a8 (List.take a8 b2++List.replicate (List.length b2-a8) []))) cut_own ?_;cases h;cases zzF ho432;replace h:some _=some _:=hk52;cases h;exact zlB ⟨rfl,trivial⟩ ⟨rfl,rfl⟩;refine za8.mk (zzR_ (by omega)) ?_;cases h;exact zlK _ ho432 eZ;cases h;cases zzF ho432;exact zc0.mk' _ rfl eZ;rintro ⟨⟩ rfl hp;replace h:=zbm hk52;obtain ⟨e4,_⟩:=hp;cases h;exact zlB ⟨rfl,trivial⟩ ⟨rfl,rfl⟩
theorem zke (l_:List (List Int)) (order_:(List Int)→(List Int)→Option Int) (f1_:FuncId) (hf1:∀ x0 x1 r,order_ x0 x1=some r→Sp Tryz.prog f1_ [.im (nL cI x0),.im (nL cI x1)] (.im (nI r))) (hd1:CmpE Tryz.prog f1_ (fun x=>nL cI x) order_) (r:List (List Int)) (h:zcg l_ order_=some r):Sp Tryz.prog 77 [.im (nL (cL cI) l_),.im (.fn f1_ [])] (.row 50 1 (List.map (cL cI) r)):=by
 refine zzS [13000,16000,2013000] fun hk=>?_;have z1:lZ l_:=zag hk.1;unfold zcg at h;obtain ⟨b2,hc51,h⟩:=zlA h;refine ⟨_,zpr l_ b2 (hc51),?_⟩;refine zlB rfl ?_;refine zlB ⟨rfl,trivial⟩ ?_;obtain ⟨b3,hc52,h⟩:=zlA h;refine ⟨_,zmm b2 order_ f1_ hd1 b3 (hc52),?_⟩;refine zlB ⟨rfl,rfl,trivial⟩ ?_;obtain ⟨a7,hc53,h⟩:=zlA h;refine ⟨_,zg2 b3 (fun u0 u1=>zey u0 u1 order_) 104 (.ref [.fn f1_ []]) rfl (fun u0 u1 r h=>(zn5 u0 u1 order_ f1_ hf1 r h)) a7 (fun _ _=>hc53),?_⟩;refine zlB rfl ?_;refine zlF a7.length zal ?_;obtain ⟨b5,h,hk54⟩:=zlA h;refine zzU (mkSt [(5,.osl 64 1)] [(64,.row 50 1 (List.map (cL cI) b5))] []) ((Holds.kdl 64 rfl).and hT) ?_ fun hp=>?_;refine zzL h (fun (a2,a6)=>mkSt [(5,.osl 64 1),(16,.osl 64 1),(17,zvI (↑a7.length:Int)),(18,zvN a6)] [(64,.row 50 1 (List.map (cL cI) a2))] []) (fun (a2,a6)=>lZ a2∧True) (eA (zod [64,15])) (fun ⟨a2,a6⟩=>((Holds.kdl 64 rfl).and hT)) ?_;rintro k ⟨a2,a6⟩ o hp h ho85;change zcg.s2 a7 a2 a6=_ at h;unfold zcg.s2 at h;obtain ⟨b9,_⟩:=hp;refine zzM h (fun b6 h a8=>?_) fun b6 h a8=>?_;obtain ⟨b7,he87,h⟩:=zdd h;refine zlB ⟨(by omega),rfl,zdr he87⟩ ?_;refine ⟨_,_,⟨rfl,zdq he87,rfl,rfl⟩,?_⟩;obtain ⟨b4,hc88,h⟩:=zlA h;refine ⟨_,(zdu b7 b4 (hc88)).im,?_⟩;obtain ⟨c0,he89,h⟩:=zdd h;refine zlB ⟨(by omega),rfl,zdr he89⟩ ?_;refine zlB ⟨rfl,trivial⟩ ?_;refine ⟨_,zdq he89,?_⟩;refine zlF (List.map (cL cI) (List.set a2 a6 b4)) (zq0 rfl) ?_;obtain ⟨b8,h⟩:=zan h;refine za8.mk b8 ?_;cases h;exact zlK _ ho85 eZ;cases h;cases zzF ho85;exact zlG eZ;replace h:=hk54;obtain ⟨c6,_⟩:=hp;cases h;exact zlB ⟨rfl,trivial⟩ ⟨rfl,rfl⟩
theorem zl6 (x_:Int) (r:Bool) (h:cmp_isNaN_int x_=some r):Sp Tryz.prog 123 [.im (nI x_)] (.im (nB r)):=by
 refine zzS [] fun hk=>?_;unfold cmp_isNaN_int at h;cases h;exact ⟨rfl,rfl⟩
theorem zj2 (x_:Int) (y_:Int) (r:Int) (h:cmp_Compare_int x_ y_=some r):Sp Tryz.prog 106 [.im (nI x_),.im (nI y_)] (.im (nI r)):=by
 refine zzS [] fun hk=>?_;unfold cmp_Compare_int at h;obtain ⟨a7,hc51,h⟩:=zlA h;refine ⟨_,zl6 x_ a7 hc51,?_⟩;obtain ⟨a8,hc52,h⟩:=zlA h;refine ⟨_,zl6 y_ a8 hc52,?_⟩;refine zzP h (fun b2 h=>?_) fun b2 h=>?_;refine zzP h (fun b3 h=>?_) fun b3 h=>?_;cases h;exact ⟨rfl,rfl⟩;cases h;exact ⟨rfl,rfl⟩;refine zzP h (fun b4 h=>?_) fun b4 h=>?_;cases h;exact ⟨rfl,rfl⟩;refine zzM h (fun b5 h a2=>?_) fun b5 h a2=>?_;cases h;exact ⟨rfl,rfl⟩;refine zzM h (fun b6 h a6=>?_) fun b6 h a6=>?_;cases h;exact ⟨rfl,rfl⟩;cases h;exact ⟨rfl,rfl⟩
theorem zgi (s1_:List Int) (s2_:List Int) (r:Int) (h:zbg s1_ s2_=some r):Sp Tryz.prog 107 [.im (nL cI s1_),.im (nL cI s2_)] (.im (nI r)):=by
 refine zzS [] fun hk=>?_;have z1:lZ s1_:=zag hk.1;have z2:lZ s2_:=zag hk.2.1;unfold zbg at h;refine zlF s1_.length zal ?_;obtain ⟨oc,h,hk51⟩:=zlA h;refine zlJ oc (Y:=Unit) (fun (_:Unit)=>mkSt [(0,zvL cI s1_),(1,zvL cI s2_)] [] []) (fun (_:Unit)=>lZ s1_∧lZ s2_∧True) (by rintro ⟨⟩;exact ((zlH 0 rfl).and ((zlH 1 rfl).and hT))) ?_ ?_;refine zzL h (fun a2=>mkSt [(0,zvL cI s1_),(1,zvL cI s2_),(9,zvL cI s1_),(10,zvI (↑s1_.length:Int)),(11,zvN a2)] [] []) (fun a2=>lZ s1_∧lZ s2_∧True) eZ (fun a2=>((zlH 0 rfl).and ((zlH 1 rfl).and hT))) ?_;rintro k a2 o hp h ho87;unfold zbg.s2 at h;obtain ⟨c0,c6,_⟩:=hp;refine zzM h (fun b3 h a6=>?_) fun b3 h a6=>?_;refine zzI h fun b4 he89 h=>?_;refine zlF s2_.length zal ?_;refine zzM h (fun b5 h a7=>?_) fun b5 h a7=>?_;cases h;cases zzF ho87;replace h:some _=some _:=hk51;cases h;exact ⟨rfl,rfl⟩;refine zzI h fun b6 he91 h=>?_;obtain ⟨b7,hc92,h⟩:=zlA h;refine ⟨_,zj2 b4 b6 b7 hc92,?_⟩;refine zzM h (fun b8 h a8=>?_) fun b8 h a8=>?_;cases h;cases zzF ho87;replace h:some _=some _:=hk51;cases h;exact ⟨rfl,rfl⟩;refine za8.mk (zzR_ (by omega)) ?_;cases h;exact zlK _ ho87 eZ;cases h;cases zzF ho87;exact zc0.mk' _ rfl eZ;rintro ⟨⟩ rfl hp;replace h:=zbm hk51;obtain ⟨c7,c8,_⟩:=hp;refine zlF s1_.length zal ?_;refine zlF s2_.length zal ?_;refine zzM h (fun b9 h b2=>?_) fun b9 h b2=>?_;cases h;exact ⟨rfl,rfl⟩;cases h;exact ⟨rfl,rfl⟩
theorem sp_cmp_Or_int (vals_:List Int) (r:Int) (h:zeh vals_=some r):Sp Tryz.prog 105 [.im (nL cI vals_)] (.im (nI r)):=by
 refine zzS [] fun hk=>?_;have z1:lZ vals_:=zag hk.1;unfold zeh at h;refine zlF vals_.length zal ?_;obtain ⟨oc,h,hk51⟩:=zlA h;refine zzV oc (mkSt [(3,zvI 0)] [] []) hT ?_ ?_;refine zzL h (fun a2=>mkSt [(3,zvI 0),(6,zvL cI vals_),(7,zvI (↑vals_.length:Int)),(8,zvN a2)] [] []) (fun a2=>lZ vals_∧True) eZ (fun a2=>((zlH 6 rfl).and hT)) ?_;rintro k a2 o hp h ho71;unfold zeh.s2 at h;obtain ⟨b3,_⟩:=hp;refine zzM h (fun a8 h a6=>?_) fun a8 h a6=>?_;refine zzI h fun b4 he73 h=>?_;refine zzM h (fun b2 h a7=>?_) fun b2 h a7=>?_;cases h;cases zzF ho71;replace h:some _=some _:=hk51;cases h;exact ⟨rfl,rfl⟩;refine za8.mk (zzR_ (by omega)) ?_;cases h;exact zlK _ ho71 eZ;cases h;cases zzF ho71;exact zc0.mk' _ rfl eZ;rintro ⟨⟩ rfl hp;replace h:=zbm hk51;cases h;exact ⟨rfl,rfl⟩
theorem zjr (a_:List Int) (b_:List Int) (r:Int) (h:zd3 a_ b_=some r):Sp Tryz.prog 78 [.im (nL cI a_),.im (nL cI b_)] (.im (nI r)):=by
 refine zzS [] fun hk=>?_;have z1:lZ a_:=zag hk.1;have z2:lZ b_:=zag hk.2.1;unfold zd3 at h;refine zlF a_.length zal ?_;refine zlF b_.length zal ?_;obtain ⟨a2,hc51,h⟩:=zlA h;refine ⟨_,zj2 (↑a_.length:Int) (↑b_.length:Int) a2 hc51,?_⟩;obtain ⟨a6,hc52,h⟩:=zlA h;refine ⟨_,zgi a_ b_ a6 hc52,?_⟩;obtain ⟨a7,hc53,h⟩:=zlA h;refine ⟨_,(sp_cmp_Or_int [a2,a6] a7 hc53),?_⟩;cases h;exact ⟨rfl,rfl⟩
theorem zcx (l_:List (List Int)) (r:List (List Int)) (h:zcj l_=some r):Sp Tryz.prog 42 [.im (nL (cL cI) l_)] (.row 50 1 (List.map (cL cI) r)):=by
 refine zzS [] fun hk=>?_;have z1:lZ l_:=zag hk.1;unfold zcj at h;obtain ⟨a2,hc51,h⟩:=zlA h;refine ⟨_,zke l_ (fun u0 u1=>zd3 u0 u1) 78 (fun u0 u1 r h=>(zjr u0 u1 r h)) zq3 a2 hc51,?_⟩;cases h;exact zlB ⟨rfl,trivial⟩ ⟨rfl,rfl⟩
theorem zl7 (l_:List (List Int)) (part_:(List Int)→Int→Option (List Int)) (f1_:FuncId) (hf1:∀ x0 x1 r,part_ x0 x1=some r→Sp Tryz.prog f1_ [.im (nL cI x0),.im (nI x1)] (.im (nL cI r))) (r:List (List Int)) (h:zbp l_ part_=some r):Sp Tryz.prog 79 [.im (nL (cL cI) l_),.im (.fn f1_ [])] (.im (nL (cL cI) r)):=by
 refine zzS [] fun hk=>?_;have z1:lZ l_:=zag hk.1;unfold zbp at h;refine zlF l_.length zal ?_;obtain ⟨b4,h,hk51⟩:=zlA h;refine zzU (mkSt [(5,.osl 64 1)] [(64,.row 50 1 (List.map (cL cI) b4))] []) ((Holds.kdl 64 rfl).and hT) ?_ fun hp=>?_;refine zzL h (fun (a7,a6)=>mkSt [(1,.im (.fn f1_ [])),(5,.osl 64 1),(9,zvL (cL cI) l_),(10,zvI (↑l_.length:Int)),(11,zvN a6)] [(64,.row 50 1 (List.map (cL cI) a7))] []) (fun (a7,a6)=>lZ l_∧lZ a7∧True) (eA [(64,none)]) (fun ⟨a7,a6⟩=>((zlH 9 rfl).and ((Holds.kdl 64 rfl).and hT))) ?_;rintro k ⟨a7,a6⟩ o hp h ho261;change zbp.s14 l_ part_ a7 a6=_ at h;unfold zbp.s14 at h;obtain ⟨c9,d0,_⟩:=hp;refine zzM h (fun b7 h b5=>?_) fun b7 h b5=>?_;refine zzI h fun a8 he263 h=>?_;refine zlF a8.length zal ?_;obtain ⟨b8,h⟩:=zan h;refine za8.mk b8 ?_;obtain ⟨b9,h,hk265⟩:=zlA h;refine zzU (mkSt [(1,.im (.fn f1_ [])),(5,.osl 64 1),(9,zvL (cL cI) l_),(10,zvI (↑l_.length:Int)),(11,zvN a6)] [(64,.row 50 1 (List.map (cL cI) b9))] []) ((zlH 9 rfl).and ((Holds.kdl 64 rfl).and hT)) ?_ fun hp=>?_;refine zzL h (fun (a2,b2)=>mkSt [(1,.im (.fn f1_ [])),(5,.osl 64 1),(7,zvL cI a8),(9,zvL (cL cI) l_),(10,zvI (↑l_.length:Int)),(11,zvN a6),(17,zvI ((↑a8.length:Int)+1)),(18,zvN b2)] [(64,.row 50 1 (List.map (cL cI) a2))] []) (fun (a2,b2)=>lZ a8∧lZ l_∧lZ a2∧True) eZ (fun ⟨a2,b2⟩=>((zlH 7 rfl).and ((zlH 9 rfl).and ((Holds.kdl 64 rfl).and hT)))) ?_;rintro k ⟨a2,b2⟩ o hp h ho293;change zbp.s13 part_ a8 a2 b2=_ at h;unfold zbp.s13 at h;obtain ⟨d1,d2,d3,_⟩:=hp;refine zzM h (fun c0 h b6=>?_) fun c0 h b6=>?_;obtain ⟨b3,hc295,h⟩:=zlA h;refine ⟨_,hf1 a8 (↑b2:Int) b3 hc295,?_⟩;obtain ⟨c6,h⟩:=zan h;refine zlB ⟨rfl,zb4 (l:=[b3]) (c:=cL cI) fun _=>rfl,show za7 _ 24 by simpa only [zkK,zkL,List.length_nil,Nat.zero_add] using c6⟩ ?_;refine zlF (List.map (cL cI) (a2++[b3])) (zcq (l:=a2) (m:=[b3]) (c:=cL cI)) ?_;obtain ⟨c7,h⟩:=zan h;refine za8.mk c7 ?_;cases h;exact zlK _ ho293 eZ;cases h;cases zzF ho293;exact zlG eZ;replace h:=hk265;obtain ⟨d4,d5,_⟩:=hp;refine za8.mk (zzR_ (by omega)) ?_;cases h;exact zlK _ ho261 eZ;cases h;cases zzF ho261;exact zlG eZ;replace h:=hk51;obtain ⟨d6,_⟩:=hp;refine zlB ⟨rfl,trivial⟩ ?_;obtain ⟨c8,hc306,h⟩:=zlA h;refine ⟨_,(zcx b4 c8 hc306).im,?_⟩;cases h;exact ⟨rfl,rfl⟩
theorem zmj (w_:List Int) (i_:Int) (r:List Int) (h:zem w_ i_=some r):Sp Tryz.prog 98 [.im (nL cI w_),.im (nI i_)] (.im (nL cI r)):=by
 refine zzS [] fun hk=>?_;have z1:lZ w_:=zag hk.1;unfold zem at h;obtain ⟨a2,h⟩:=zan h;refine zlB (show (0:Int)≤(0:Int)∧(0:Int)≤i_∧i_≤(↑(List.length (List.map cI w_)):Int)∧(∀ e∈List.map cI w_,List.length e=1) from ⟨by omega,by first | omega | (simp only [zkK];omega),by first | omega | (simp only [zkK];omega),zb4 fun _=>rfl⟩) ?_
 refine zlF (List.map cI (List.take (Int.toNat i_) w_)) zp1 ?_;cases h;exact ⟨rfl,rfl⟩
theorem zo4 (l_:List (List Int)) (r:List (List Int)) (h:zfj l_=some r):Sp Tryz.prog 70 [.im (nL (cL cI) l_)] (.im (nL (cL cI) r)):=by
 refine zzS [] fun hk=>?_;have z1:lZ l_:=zag hk.1;unfold zfj at h;obtain ⟨a2,hc51,h⟩:=zlA h;refine ⟨_,zl7 l_ (fun u0 u1=>zem u0 u1) 98 (fun u0 u1 r h=>(zmj u0 u1 r h)) a2 hc51,?_⟩;cases h;exact ⟨rfl,rfl⟩
theorem zjx (slices_:List (List (List Int))) (r:List (List Int)) (h:zax slices_=some r):Sp Tryz.prog 97 [.im (nL (cL (cL cI)) slices_)] (.row 50 1 (List.map (cL cI) r)):=by
 refine zzS [4025000] fun hk=>?_;have z1:lZ slices_:=zag hk.1;unfold zax at h;refine zlF slices_.length zal ?_;obtain ⟨size68,h,hk51⟩:=zlA h;refine zzU (mkSt [(0,zvL (cL (cL cI)) slices_),(3,zvN size68)] [] []) ((zlH 0 rfl).and hT) ?_ fun hp=>?_;refine zzL h (fun (size73,a8)=>mkSt [(0,zvL (cL (cL cI)) slices_),(3,zvN size73),(9,zvL (cL (cL cI)) slices_),(10,zvI (↑slices_.length:Int)),(11,zvN a8)] [] []) (fun (size73,a8)=>lZ slices_∧True) eZ (fun ⟨size73,a8⟩=>((zlH 0 rfl).and hT)) ?_;rintro k ⟨size73,a8⟩ o hp h ho79;change zax.s2 slices_ size73 a8=_ at h;unfold zax.s2 at h;obtain ⟨d1,_⟩:=hp;refine zzM h (fun b8 h b3=>?_) fun b8 h b3=>?_;refine zzI h fun b9 he81 h=>?_;refine zlF b9.length zal ?_;obtain ⟨c0,h⟩:=zan h;refine za8.mk c0 ?_;refine zzM h (fun c6 h b4=>?_) fun c6 h b4=>?_;cases h;refine za8.mk (zzR_ (by omega)) ?_;cases h;exact zlK _ ho79 eZ;cases h;cases zzF ho79;exact zlG eZ;replace h:=hk51;obtain ⟨d2,_⟩:=hp;obtain ⟨c7,hc86,h⟩:=zlA h;refine ⟨_,zq9 (↑size68:Int) c7 (hc86),?_⟩;refine zlF slices_.length zal ?_;obtain ⟨b5,h,hk87⟩:=zlA h;refine zzU (mkSt [(6,.osl 64 1)] [(64,.row 50 1 (List.map (cL cI) b5))] []) ((Holds.kdl 64 rfl).and hT) ?_ fun hp=>?_;refine zzL h (fun (a2,a6)=>mkSt [(6,.osl 64 1),(25,zvL (cL (cL cI)) slices_),(26,zvI (↑slices_.length:Int)),(27,zvN a6)] [(64,.row 50 1 (List.map (cL cI) a2))] []) (fun (a2,a6)=>lZ slices_∧lZ a2∧True) (eA (zod [64,24])) (fun ⟨a2,a6⟩=>((zlH 25 rfl).and ((Holds.kdl 64 rfl).and hT))) ?_;rintro k ⟨a2,a6⟩ o hp h ho111;change zax.s4 slices_ a2 a6=_ at h;unfold zax.s4 at h;obtain ⟨c8,c9,_⟩:=hp;refine zzM h (fun b6 h b2=>?_) fun b6 h b2=>?_;refine zzI h fun a7 he113 h=>?_;obtain ⟨b7,h⟩:=zan h;refine zlB ⟨rfl,zb4 (l:=a7) (c:=cL cI) fun _=>rfl,show za7 _ 24 by simpa only [zkK,zkL,List.length_nil,Nat.zero_add] using b7⟩ ?_;refine zlF (List.map (cL cI) (a2++a7)) (zcq (l:=a2) (m:=a7) (c:=cL cI)) ?_;refine za8.mk (zzR_ (by omega)) ?_;cases h;exact zlK _ ho111 eZ;cases h;cases zzF ho111;exact zlG eZ;replace h:=hk87;obtain ⟨d0,_⟩:=hp;cases h;exact zlB ⟨rfl,trivial⟩ ⟨rfl,rfl⟩
theorem zl8 (lists_:List (List (List Int))) (r:List (List Int)) (h:zge lists_=some r):Sp Tryz.prog 69 [.im (nL (cL (cL cI)) lists_)] (.im (nL (cL cI) r)):=by
 refine zzS [] fun hk=>?_;have z1:lZ lists_:=zag hk.1;unfold zge at h;obtain ⟨a2,hc51,h⟩:=zlA h;refine ⟨_,(zjx lists_ a2 hc51).im,?_⟩;obtain ⟨a6,hc52,h⟩:=zlA h;refine ⟨_,(zcx a2 a6 hc52).im,?_⟩;cases h;exact ⟨rfl,rfl⟩
theorem ziw (l_:List (List Int)) (i_:Int) (r:Bool) (h:zfc l_ i_=some r):Sp Tryz.prog 72 [.im (nL (cL cI) l_),.im (nI i_)] (.im (nB r)):=by
 refine zzS [] fun hk=>?_;have z1:lZ l_:=zag hk.1;unfold zfc at h;obtain ⟨a7,h,hk52⟩:=zlA h;refine zzU (mkSt [(4,zvB a7)] [] []) hT ?_ fun hp=>?_;refine zzO h (fun a2 h a6=>?_) fun a2 h a6=>?_
 iterate 2 (refine zlD (zbv a2) ?_)
 obtain ⟨a8,h⟩:=zan h;refine za8.mk a8 ?_;refine zlD (zbv a2) ?_;refine zzJ h fun b2 he61z he61 h=>?_
 iterate 4 (refine zlD (zbv a2) ?_)
 refine zzJ h fun b3 he62z he62 h=>?_
 iterate 2 (refine zlD (zbv a2) ?_)
 obtain ⟨b4,hc63,h⟩:=zlA h;refine ⟨_,zjr b2 b3 b4 hc63,?_⟩;refine zlD (zbv a2) ?_;refine zlE a2 ?_;cases h;exact zlG eZ
 iterate 10 (refine zlE (zfv a2) ?_)
 refine zlD a2 ?_;cases h;exact zlG eZ;replace h:=hk52;cases h;exact ⟨rfl,rfl⟩
theorem zl4 (l_:List (List Int)) (r:Int) (h:zcn l_=some r):Sp Tryz.prog 73 [.im (nL (cL cI) l_)] (.im (nI r)):=by
 refine zzS [] fun hk=>?_;have z1:lZ l_:=zag hk.1;unfold zcn at h;refine zlF l_.length zal ?_;obtain ⟨a8,h,hk51⟩:=zlA h;refine zzU (mkSt [(3,zvI a8)] [] []) hT ?_ fun hp=>?_;refine zzL h (fun (a2,a6)=>mkSt [(3,zvI a2),(6,zvL (cL cI) l_),(7,zvI (↑l_.length:Int)),(8,zvN a6)] [] []) (fun (a2,a6)=>lZ l_∧True) eZ (fun ⟨a2,a6⟩=>((zlH 6 rfl).and hT)) ?_;rintro k ⟨a2,a6⟩ o hp h ho69;change zcn.s2 l_ a2 a6=_ at h;unfold zcn.s2 at h;obtain ⟨b4,_⟩:=hp;refine zzM h (fun b2 h a7=>?_) fun b2 h a7=>?_;refine zzI h fun b3 he71 h=>?_;refine zlF b3.length zal ?_;refine za8.mk (zzR_ (by omega)) ?_;cases h;exact zlK _ ho69 eZ;cases h;cases zzF ho69;exact zlG eZ;replace h:=hk51;cases h;exact ⟨rfl,rfl⟩
theorem zfo (t_:zac) (r:Int) (h:zbc t_=some r):Sp Tryz.prog 40 [.im (.agg (zas t_))] (.im (nI r)):=by
 refine zzS [700001] fun hk=>?_;have z1:lZ t_.Prefixes:=zag (zlI hk.1 1 rfl);have z2:lZ t_.Suffixes:=zag (zlI hk.1 2 rfl);unfold zbc at h;refine zlF t_.Prefixes.length zal ?_;refine zlF t_.Suffixes.length zal ?_;refine zzW h (fun g9=>mkSt [(1,zvR (zas t_)),(3,zvI (↑t_.Prefixes.length:Int)),(4,zvI (↑t_.Suffixes.length:Int)),(20,zvB g9)] [] []) (fun _=>hT) fun g9 h hp=>?_;refine zzP h (fun h5 h=>?_) fun h5 h=>?_;cases h;exact ⟨rfl,rfl⟩;refine zzM h (fun h6 h d7=>?_) fun h6 h d7=>?_;cases h;exact ⟨rfl,rfl⟩;obtain ⟨h7,h,hk59⟩:=zlA h;refine zzU (mkSt [(1,zvR (zas t_)),(4,zvI (↑t_.Suffixes.length:Int)),(32,zvB h7)] [] []) hT ?_ fun hp=>?_;refine zzO h (fun b6 h d8=>?_) fun b6 h d8=>?_;refine zlD (zbv b6) ?_;refine zlE b6 ?_;refine zzO h (fun b5 h d9=>?_) fun b5 h d9=>?_
 iterate 3 (refine zlD (zbv b5) ?_)
 obtain ⟨h8,h⟩:=zan h;refine za8.mk h8 ?_;refine zlD (zbv b5) ?_;obtain ⟨h9,h⟩:=zan h;refine za8.mk h9 ?_
 iterate 2 (refine zlD (zbv b5) ?_)
 obtain ⟨i3,h⟩:=zan h;refine za8.mk i3 ?_;refine zlD (zbv b5) ?_;refine zlE b5 ?_;cases h;exact zlG eZ
 iterate 7 (refine zlE (zfv b5) ?_)
 refine zlD b5 ?_;cases h;exact zlG eZ;refine zlE (zfv b6) ?_;refine zlD b6 ?_
 iterate 8 (refine zlE rfl ?_)
 refine zlD rfl ?_;cases h;exact zlG eZ;replace h:=hk59;refine zzP h (fun i4 h=>?_) fun i4 h=>?_;cases h;exact ⟨rfl,rfl⟩;refine zlF t_.Prefixes.length zal ?_;obtain ⟨b7,h,hk72⟩:=zlA h;refine zzU (mkSt [(1,zvR (zas t_)),(4,zvI (↑t_.Suffixes.length:Int)),(5,.osl 152 1)] [(152,.map (mapV wS wB b7))] []) hT ?_ fun hp=>?_;refine zzL h (fun (b8,b9)=>mkSt [(1,zvR (zas t_)),(4,zvI (↑t_.Suffixes.length:Int)),(5,.osl 152 1),(51,zvL (cL cI) t_.Prefixes),(52,zvI (↑t_.Prefixes.length:Int)),(53,zvN b9)] [(152,.map (mapV wS wB b8))] []) (fun (b8,b9)=>lZ t_.Prefixes∧True) (eA (zod [152,49])) (fun ⟨b8,b9⟩=>((zlH 51 rfl).and hT)) ?_;rintro k ⟨b8,b9⟩ o hp h ho95;change zbc.s2 t_ b8 b9=_ at h;unfold zbc.s2 at h;obtain ⟨j4,_⟩:=hp;refine zzM h (fun i5 h e0=>?_) fun i5 h e0=>?_;refine zzI h fun i6 he97 h=>?_;obtain ⟨i7,hc98,h⟩:=zlA h;refine ⟨_,zm5 i6 i7 (hc98),?_⟩;refine zlB rfl ?_;refine ⟨_,set_str _ true wB _,?_⟩;refine za8.mk (zzR_ (by omega)) ?_;cases h;exact zlK _ ho95 eZ;cases h;cases zzF ho95;exact zlG eZ;replace h:=hk72;refine zlF t_.Prefixes.length zal ?_;obtain ⟨oc,h,hk100⟩:=zlA h;refine zzV oc (mkSt [(1,zvR (zas t_)),(4,zvI (↑t_.Suffixes.length:Int))] [] []) hT ?_ ?_;refine zzL h (fun a7=>mkSt [(1,zvR (zas t_)),(4,zvI (↑t_.Suffixes.length:Int)),(5,.osl 152 1),(62,zvL (cL cI) t_.Prefixes),(63,zvI (↑t_.Prefixes.length:Int)),(64,zvN a7)] [(152,.map (mapV wS wB b7))] []) (fun a7=>lZ t_.Prefixes∧True) eZ (fun a7=>((zlH 62 rfl).and hT)) ?_;rintro k a7 o hp h ho250;unfold zbc.s4 at h;obtain ⟨i8,_⟩:=hp;refine zzM h (fun e1 h c0=>?_) fun e1 h c0=>?_;refine zzI h fun a2 he252 h=>?_;obtain ⟨e2,hc253,h⟩:=zlA h;refine ⟨_,zfg a2 t_.Inputs e2 hc253,?_⟩;refine zzM h (fun e3 h c6=>?_) fun e3 h c6=>?_;cases h;cases zzF ho250;replace h:some _=some _:=hk100;cases h;exact ⟨rfl,rfl⟩;obtain ⟨e4,h,hk256⟩:=zlA h;refine zzU (mkSt [(1,zvR (zas t_)),(4,zvI (↑t_.Suffixes.length:Int)),(5,.osl 152 1),(9,zvL cI a2),(62,zvL (cL cI) t_.Prefixes),(63,zvI (↑t_.Prefixes.length:Int)),(64,zvN a7),(89,zvB e4)] [(152,.map (mapV wS wB b7))] []) ((zlH 9 rfl).and ((zlH 62 rfl).and hT)) ?_ fun hp=>?_;refine zzN h (fun b2 h c7=>?_) fun b2 h c7=>?_;refine zlD (zbi b2) ?_;refine zlF a2.length zal ?_;refine zlD (zbi b2) ?_;refine zlD b2 ?_;refine zzO h (fun b3 h c8=>?_) fun b3 h c8=>?_
 iterate 3 (refine zlD (zbv b3) ?_)
 obtain ⟨e5,hc264,h⟩:=zlA h;refine ⟨_,ziw t_.Prefixes (↑a7:Int) e5 hc264,?_⟩;refine zlD (zbv b3) ?_;refine zlE b3 ?_;cases h;exact zlG eZ
 iterate 4 (refine zlE (zfv b3) ?_)
 refine zlD b3 ?_;cases h;exact zlG eZ
 iterate 2 (refine zlE (zf8 b2) ?_)
 refine zlE b2 ?_
 iterate 4 (refine zlD rfl ?_)
 obtain ⟨e6,hc265,h⟩:=zlA h;refine ⟨_,ziw t_.Prefixes (↑a7:Int) e6 hc265,?_⟩;refine zlD rfl ?_;refine zlE rfl ?_;cases h;exact zlG eZ;replace h:=hk256;obtain ⟨i9,j0,_⟩:=hp;refine zzP h (fun e7 h=>?_) fun e7 h=>?_;cases h;cases zzF ho250;replace h:some _=some _:=hk100;cases h;exact ⟨rfl,rfl⟩;obtain ⟨e8,h,hk270⟩:=zlA h;refine zzU (mkSt [(1,zvR (zas t_)),(4,zvI (↑t_.Suffixes.length:Int)),(5,.osl 152 1),(62,zvL (cL cI) t_.Prefixes),(63,zvI (↑t_.Prefixes.length:Int)),(64,zvN a7),(103,zvB e8)] [(152,.map (mapV wS wB b7))] []) ((zlH 62 rfl).and hT) ?_ fun hp=>?_;refine zlF a2.length zal ?_;refine zzN h (fun a6 h c9=>?_) fun a6 h c9=>?_
 iterate 3 (refine zlD (zbi a6) ?_)
 refine zlF a2.length zal ?_;refine zlD (zbi a6) ?_;refine za8.mk (zzR_ (by omega)) ?_;refine zlD (zbi a6) ?_;obtain ⟨j1,h⟩:=zan h;refine zlB (show (0:Int)≤(0:Int)∧(0:Int)≤((↑a2.length:Int)-1)∧((↑a2.length:Int)-1)≤(↑(List.length (List.map cI a2)):Int)∧(∀ e∈List.map cI a2,List.length e=1) from ⟨by omega,by first | omega | (simp only [zkK];omega),by first | omega | (simp only [zkK];omega),zb4 fun _=>rfl⟩) ?_
 refine zlF (List.map cI (List.take (Int.toNat ((↑a2.length:Int)-1)) a2)) zp1 ?_;refine zlD (zbi a6) ?_;obtain ⟨d0,hc277,h⟩:=zlA h;refine ⟨_,(zm5 (List.take (Int.toNat ((↑a2.length:Int)-1)) a2) d0 (hc277)),?_⟩;refine zlD (zbi a6) ?_;refine zlB rfl ?_;refine ⟨_,find_str _ wB _,?_⟩;refine zlF (wB ((mget d0 b7).getD false)) (getD_map rfl _) ?_;refine zlD (zbi a6) ?_;refine zlD a6 ?_;cases h;exact zlG eZ
 iterate 8 (refine zlE (zf8 a6) ?_)
 refine zlE a6 ?_;cases h;exact zlG eZ;replace h:=hk270;obtain ⟨j2,_⟩:=hp;refine zzP h (fun e9 h=>?_) fun e9 h=>?_;cases h;cases zzF ho250;replace h:some _=some _:=hk100;cases h;exact ⟨rfl,rfl⟩;refine za8.mk (zzR_ (by omega)) ?_;cases h;exact zlK _ ho250 eZ;cases h;cases zzF ho250;exact zc0.mk' _ rfl eZ;rintro ⟨⟩ rfl hp;replace h:=zbm hk100;refine zlF t_.Suffixes.length zal ?_;obtain ⟨oc,h,hk281⟩:=zlA h;refine zzV oc (mkSt [(1,zvR (zas t_)),(4,zvI (↑t_.Suffixes.length:Int))] [] []) hT ?_ ?_;refine zzL h (fun b4=>mkSt [(1,zvR (zas t_)),(4,zvI (↑t_.Suffixes.length:Int)),(106,zvL (cL cI) t_.Suffixes),(107,zvI (↑t_.Suffixes.length:Int)),(108,zvN b4)] [] []) (fun b4=>lZ t_.Suffixes∧True) eZ (fun b4=>((zlH 106 rfl).and hT)) ?_;rintro k b4 o hp h ho321;unfold zbc.s6 at h;obtain ⟨j3,_⟩:=hp;refine zzM h (fun f3 h d1=>?_) fun f3 h d1=>?_;refine zzI h fun d2 he323 h=>?_;obtain ⟨f4,hc324,h⟩:=zlA h;refine ⟨_,zfg d2 t_.Inputs f4 hc324,?_⟩;refine zzM h (fun f5 h d3=>?_) fun f5 h d3=>?_;cases h;cases zzF ho321;replace h:some _=some _:=hk281;cases h;exact ⟨rfl,rfl⟩;refine zlF d2.length zal ?_;refine zzM h (fun f7 h d4=>?_) fun f7 h d4=>?_;cases h;cases zzF ho321;replace h:some _=some _:=hk281;cases h;exact ⟨rfl,rfl⟩;obtain ⟨f8,hc327,h⟩:=zlA h;refine ⟨_,ziw t_.Suffixes (↑b4:Int) f8 hc327,?_⟩;refine zzP h (fun f9 h=>?_) fun f9 h=>?_;cases h;cases zzF ho321;replace h:some _=some _:=hk281;cases h;exact ⟨rfl,rfl⟩;refine za8.mk (zzR_ (by omega)) ?_;cases h;exact zlK _ ho321 eZ;cases h;cases zzF ho321;exact zc0.mk' _ rfl eZ;rintro ⟨⟩ rfl hp;replace h:=zbm hk281;obtain ⟨g1,h,hk331⟩:=zlA h;refine zzU (mkSt [(1,zvR (zas t_)),(143,zvB g1)] [] []) hT ?_ fun hp=>?_;refine zzO h (fun a8 h d5=>?_) fun a8 h d5=>?_
 iterate 4 (refine zlD (zbv a8) ?_)
 obtain ⟨g2,h⟩:=zan h;refine za8.mk g2 ?_;refine zlD (zbv a8) ?_;refine zzJ h fun g3 he338z he338 h=>?_
 iterate 2 (refine zlD (zbv a8) ?_)
 refine zlF g3.length zal ?_;refine zlD (zbv a8) ?_;refine zlE a8 ?_;cases h;exact zlG eZ
 iterate 8 (refine zlE (zfv a8) ?_)
 refine zlD a8 ?_;cases h;exact zlG eZ;replace h:=hk331;refine zzP h (fun g4 h=>?_) fun g4 h=>?_;cases h;exact ⟨rfl,rfl⟩;obtain ⟨g5,hc340,h⟩:=zlA h;refine ⟨_,zl4 t_.Prefixes g5 hc340,?_⟩;obtain ⟨g6,hc341,h⟩:=zlA h;refine ⟨_,zl4 t_.Suffixes g6 hc341,?_⟩;obtain ⟨g7,h⟩:=zan h;refine za8.mk g7 ?_;refine zzM h (fun g8 h d6=>?_) fun g8 h d6=>?_;cases h;exact ⟨rfl,rfl⟩;cases h;exact ⟨rfl,rfl⟩
theorem zl5 (t_:zac) (next_:zac) (r:zac×Int) (h:zga t_ next_=some r):Sp Tryz.prog 68 [.im (.agg (zas t_)),.im (.agg (zas next_))] (.tup [.agg (zas r.1),nI r.2]):=by
 refine zzS [700002,700003] fun hk=>?_;have z1:lZ t_.Prefixes:=zag (zlI hk.1 1 rfl);have z2:lZ t_.Suffixes:=zag (zlI hk.1 2 rfl);have z3:lZ next_.Prefixes:=zag (zlI hk.2.1 1 rfl);have z4:lZ next_.Suffixes:=zag (zlI hk.2.1 2 rfl);unfold zga at h;obtain ⟨a6,hc51,h⟩:=zlA h;refine ⟨_,zfo next_ a6 hc51,?_⟩;refine zzM h (fun a7 h a2=>?_) fun a7 h a2=>?_;refine zlB rfl ?_;cases h;refine zlB ⟨rfl,trivial⟩ ?_;exact ⟨rfl,rfl⟩;refine zlB rfl ?_;cases h;refine zlB ⟨rfl,trivial⟩ ?_;exact ⟨rfl,rfl⟩
theorem zmh (t_:zac) (w_:List Int) (r:zac×Int) (h:zg5 t_ w_=some r):Sp Tryz.prog 37 [.im (.agg (zas t_)),.im (nL cI w_)] (.tup [.agg (zas r.1),nI r.2]):=by
 refine zzS [700002] fun hk=>?_;have z1:lZ t_.Prefixes:=zag (zlI hk.1 1 rfl);have z2:lZ t_.Suffixes:=zag (zlI hk.1 2 rfl);have z3:lZ w_:=zag hk.2.1;unfold zg5 at h;obtain ⟨b3,hc51,h⟩:=zlA h;refine ⟨_,zfo t_ b3 hc51,?_⟩;refine zzM h (fun b4 h a2=>?_) fun b4 h a2=>?_;refine zlB rfl ?_;cases h;refine zlB ⟨rfl,trivial⟩ ?_;exact ⟨rfl,rfl⟩;obtain ⟨b5,hc53,h⟩:=zlA h;refine ⟨_,zfg w_ t_.Inputs b5 hc53,?_⟩;refine zzM h (fun b6 h a6=>?_) fun b6 h a6=>?_;refine zlB rfl ?_;cases h;refine zlB ⟨rfl,trivial⟩ ?_;exact ⟨rfl,rfl⟩;obtain ⟨a7,hc55,h⟩:=zlA h;refine ⟨_,(zo4 [w_] a7 hc55),?_⟩;obtain ⟨a8,hc56,h⟩:=zlA h;refine ⟨_,(zl8 [t_.Prefixes,a7] a8 hc56),?_⟩;obtain ⟨b2,hc57,h⟩:=zlA h;refine ⟨_,(zcx t_.Suffixes b2 hc57).im,?_⟩;obtain ⟨b7,hc58,h⟩:=zlA h;refine ⟨_,zl5 t_ (⟨t_.Inputs,a8,b2⟩:zac) b7 hc58,?_⟩;refine zlB rfl ?_;cases h;refine zlB ⟨rfl,trivial⟩ ?_;exact ⟨rfl,rfl⟩
theorem znc (w_:List Int) (i_:Int) (r:List Int) (h:zej w_ i_=some r):Sp Tryz.prog 80 [.im (nL cI w_),.im (nI i_)] (.im (nL cI r)):=by
 refine zzS [] fun hk=>?_;have z1:lZ w_:=zag hk.1;unfold zej at h;obtain ⟨a2,h⟩:=zan h;refine zlB (show (0:Int)≤i_∧i_≤(↑(List.length (List.map cI w_)):Int)∧(↑(List.length (List.map cI w_)):Int)≤(↑(List.length (List.map cI w_)):Int)∧(∀ e∈List.map cI w_,List.length e=1) from ⟨by omega,by first | omega | (simp only [zkK];omega),by first | omega | (simp only [zkK];omega),zb4 fun _=>rfl⟩) ?_
 refine zlF (List.map cI (List.drop (Int.toNat i_) w_)) drop_map ?_;cases h;exact ⟨rfl,rfl⟩
theorem zol (l_:List (List Int)) (r:List (List Int)) (h:zfl l_=some r):Sp Tryz.prog 43 [.im (nL (cL cI) l_)] (.im (nL (cL cI) r)):=by
 refine zzS [] fun hk=>?_;have z1:lZ l_:=zag hk.1;unfold zfl at h;obtain ⟨a2,hc51,h⟩:=zlA h;refine ⟨_,zl7 l_ (fun u0 u1=>zej u0 u1) 80 (fun u0 u1 r h=>(znc u0 u1 r h)) a2 hc51,?_⟩;cases h;exact ⟨rfl,rfl⟩
theorem zji (t_:zac) (w_:List Int) (mode_:Int) (r:zac×Int) (h:zcf t_ w_ mode_=some r):Sp Tryz.prog 17 [.im (.agg (zas t_)),.im (nL cI w_),.im (nI mode_)] (.tup [.agg (zas r.1),nI r.2]):=by
 refine zzS [500070,700003] fun hk=>?_;have z1:lZ t_.Prefixes:=zag (zlI hk.1 1 rfl);have z2:lZ t_.Suffixes:=zag (zlI hk.1 2 rfl);have z3:lZ w_:=zag hk.2.1;unfold zcf at h;obtain ⟨c9,hc51,h⟩:=zlA h;refine ⟨_,zfo t_ c9 hc51,?_⟩;refine zzM h (fun d0 h b5=>?_) fun d0 h b5=>?_;refine zlB rfl ?_;cases h;refine zlB ⟨rfl,trivial⟩ ?_;exact ⟨rfl,rfl⟩;obtain ⟨d1,hc53,h⟩:=zlA h;refine ⟨_,zfg w_ t_.Inputs d1 hc53,?_⟩;refine zzM h (fun d2 h b6=>?_) fun d2 h b6=>?_;refine zlB rfl ?_;cases h;refine zlB ⟨rfl,trivial⟩ ?_;exact ⟨rfl,rfl⟩;refine zzM h (fun d3 h b7=>?_) fun d3 h b7=>?_;obtain ⟨d4,hc56,h⟩:=zlA h;refine ⟨_,zmh t_ w_ d4 hc56,?_⟩;refine zlB rfl ?_;cases h;refine zlB ⟨rfl,trivial⟩ ?_;exact ⟨rfl,rfl⟩;refine zzM h (fun d5 h b8=>?_) fun d5 h b8=>?_;obtain ⟨a7,hc58,h⟩:=zlA h;refine ⟨_,(zcx t_.Prefixes a7 hc58).im,?_⟩;obtain ⟨d6,hc59,h⟩:=zlA h;refine ⟨_,zcx t_.Suffixes d6 hc59,?_⟩;refine zlB rfl ?_;obtain ⟨a6,hc60,h⟩:=zlA h;refine ⟨_,(zol [w_] a6 hc60),?_⟩;refine zlF a6.length zal ?_;obtain ⟨c8,h,hk61⟩:=zlA h;refine zzU (mkSt [(3,zvR (zas t_)),(6,.own 77 1 0),(10,.own 78 1 0)] [(77,.box 43 3),(78,.box 43 3),(79,.row 50 1 (List.map (cL cI) c8))] [(77,0,.im (nI 0)),(77,1,.im (.val (.slice none 0 0))),(77,2,.im (.val (.slice none 0 0))),(78,0,.im (nI t_.Inputs)),(78,1,.im (nL (cL cI) a7)),(78,2,.osl 79 1)]) ((Holds.cel 78 1 rfl (by decide) rfl).and ((Holds.kdl 79 rfl).and hT)) ?_ fun hp=>?_;refine zzL h (fun (a2,a8)=>mkSt [(3,zvR (zas t_)),(6,.own 77 1 0),(10,.own 78 1 0),(49,zvL (cL cI) a6),(50,zvI (↑a6.length:Int)),(51,zvN a8)] [(77,.box 43 3),(78,.box 43 3),(79,.row 50 1 (List.map (cL cI) a2))] [(77,0,.im (nI 0)),(77,1,.im (.val (.slice none 0 0))),(77,2,.im (.val (.slice none 0 0))),(78,0,.im (nI t_.Inputs)),(78,1,.im (nL (cL cI) a7)),(78,2,.osl 79 1)]) (fun (a2,a8)=>lZ a6∧lZ a7∧lZ a2∧True) (eA (zod [77,6,78,10,79,45])) (fun ⟨a2,a8⟩=>((zlH 49 rfl).and ((Holds.cel 78 1 rfl (by decide) rfl).and ((Holds.kdl 79 rfl).and hT)))) ?_;rintro k ⟨a2,a8⟩ o hp h ho91;change zcf.s2 a6 a2 a8=_ at h;unfold zcf.s2 at h;obtain ⟨e1,e2,e3,_⟩:=hp;refine zzM h (fun d7 h b9=>?_) fun d7 h b9=>?_;refine zzI h fun b4 he93 h=>?_;refine zlF b4.length zal ?_;refine zzM h (fun d8 h c0=>?_) fun d8 h c0=>?_;refine zlB rfl ?_;refine zlB rfl ?_;obtain ⟨d9,h⟩:=zan h;refine zlB ⟨rfl,zb4 (l:=[b4]) (c:=cL cI) fun _=>rfl,show za7 _ 24 by simpa only [zkK,zkL,List.length_nil,Nat.zero_add] using d9⟩ ?_;refine zlF (List.map (cL cI) (a2++[b4])) (zcq (l:=a2) (m:=[b4]) (c:=cL cI)) ?_;refine zlB rfl ?_;refine zlB rfl ?_;refine za8.mk (zzR_ (by omega)) ?_;cases h;exact zlK _ ho91 eZ;refine za8.mk (zzR_ (by omega)) ?_;cases h;exact zlK _ ho91 eZ;cases h;cases zzF ho91;exact zlG eZ;replace h:=hk61;obtain ⟨e4,e0,_⟩:=hp;refine zlB rfl ?_;refine zlB rfl ?_;refine zlB ⟨rfl,trivial⟩ ?_;obtain ⟨b2,hc101,h⟩:=zlA h;refine ⟨_,zcx c8 b2 hc101,?_⟩;refine zlB rfl ?_;refine zlB rfl ?_;refine zlB rfl ?_;refine zlB ⟨rfl,trivial⟩ ?_;obtain ⟨c6,hc102,h⟩:=zlA h;refine ⟨_,zfo (⟨t_.Inputs,a7,b2⟩:zac) c6 hc102,?_⟩;refine zlB flat_one ?_;refine zzM h (fun c7 h b3=>?_) fun c7 h b3=>?_;refine zlB rfl ?_;cases h;refine zlB ⟨rfl,trivial⟩ ?_;exact ⟨rfl,rfl⟩;refine zlB rfl ?_;refine zlB rfl ?_;cases h;refine zlB ⟨rfl,trivial⟩ ?_;exact zlB ⟨rfl,trivial⟩ ⟨rfl,rfl⟩;refine zlB rfl ?_;cases h;refine zlB ⟨rfl,trivial⟩ ?_;exact ⟨rfl,rfl⟩
theorem zi3 (a_:List Int) (b_:List Int) (r:Int) (h:zei a_ b_=some r):Sp Tryz.prog 81 [.im (nL cI a_),.im (nL cI b_)] (.im (nI r)):=by
 refine zzS [] fun hk=>?_;have z1:lZ a_:=zag hk.1;have z2:lZ b_:=zag hk.2.1;unfold zei at h;obtain ⟨a7,h,hk51⟩:=zlA h;refine zzU (mkSt [(5,zvN a7)] [] []) hT ?_ fun hp=>?_;refine zzL h (fun a2=>mkSt [(0,zvL cI a_),(1,zvL cI b_),(5,zvN a2)] [] []) (fun a2=>lZ a_∧lZ b_∧True) eZ (fun a2=>((zlH 0 rfl).and ((zlH 1 rfl).and hT))) ?_;rintro k a2 o hp h ho131;unfold zei.s2 at h;obtain ⟨b3,b4,_⟩:=hp;refine zzW h (fun a6=>mkSt [(0,zvL cI a_),(1,zvL cI b_),(5,zvN a2),(26,zvB a6)] [] []) (fun _=>((zlH 0 rfl).and ((zlH 1 rfl).and hT))) fun a6 h hp=>?_;obtain ⟨b5,b6,_⟩:=hp;refine zzP h (fun a8 h=>?_) fun a8 h=>?_;obtain ⟨b2,h⟩:=zan h;refine za8.mk b2 ?_;cases h;exact zlK _ ho131 eZ;cases h;cases zzF ho131;exact zlG eZ;replace h:=hk51;cases h;exact ⟨rfl,rfl⟩
theorem sp_R01_Same (a_:List Int) (b_:List Int) (r:Bool) (h:R01_Same a_ b_=some r):Sp Tryz.prog 44 [.im (nL cI a_),.im (nL cI b_)] (.im (nB r)):=by
 refine zzS [] fun hk=>?_;have z1:lZ a_:=zag hk.1;have z2:lZ b_:=zag hk.2.1;unfold R01_Same at h;obtain ⟨a7,h,hk52⟩:=zlA h;refine zzU (mkSt [(4,zvB a7)] [] []) hT ?_ fun hp=>?_;refine zlF a_.length zal ?_;refine zlF b_.length zal ?_;refine zzN h (fun a2 h a6=>?_) fun a2 h a6=>?_
 iterate 2 (refine zlD (zbi a2) ?_)
 obtain ⟨a8,hc57,h⟩:=zlA h;refine ⟨_,zi3 a_ b_ a8 hc57,?_⟩
 iterate 2 (refine zlD (zbi a2) ?_)
 refine zlF a_.length zal ?_;refine zlD (zbi a2) ?_;refine zlD a2 ?_;cases h;exact zlG eZ
 iterate 5 (refine zlE (zf8 a2) ?_)
 refine zlE a2 ?_;cases h;exact zlG eZ;replace h:=hk52;cases h;exact ⟨rfl,rfl⟩
theorem zis (a_:List (List Int)) (b_:List (List Int)) (r:Bool) (h:zeo a_ b_=some r):Sp Tryz.prog 18 [.im (nL (cL cI) a_),.im (nL (cL cI) b_)] (.im (nB r)):=by
 refine zzS [] fun hk=>?_;have z1:lZ a_:=zag hk.1;have z2:lZ b_:=zag hk.2.1;unfold zeo at h;refine zlF a_.length zal ?_;refine zlF b_.length zal ?_;refine zzM h (fun a8 h a6=>?_) fun a8 h a6=>?_;cases h;exact ⟨rfl,rfl⟩;obtain ⟨oc,h,hk52⟩:=zlA h;refine zzV oc (mkSt [] [] []) hT ?_ ?_;refine zzL h (fun a2=>mkSt [(0,zvL (cL cI) a_),(1,zvL (cL cI) b_),(5,zvN a2)] [] []) (fun a2=>lZ a_∧lZ b_∧True) eZ (fun a2=>((zlH 0 rfl).and ((zlH 1 rfl).and hT))) ?_;rintro k a2 o hp h ho83;unfold zeo.s2 at h;obtain ⟨b7,b8,_⟩:=hp;refine zlF a_.length zal ?_;refine zzM h (fun b2 h a7=>?_) fun b2 h a7=>?_;refine zzI h fun b3 he85 h=>?_;refine zzI h fun b4 he86 h=>?_;obtain ⟨b5,hc87,h⟩:=zlA h;refine ⟨_,sp_R01_Same b3 b4 b5 hc87,?_⟩;refine zzP h (fun b6 h=>?_) fun b6 h=>?_;cases h;cases zzF ho83;replace h:some _=some _:=hk52;cases h;exact ⟨rfl,rfl⟩;refine za8.mk (zzR_ (by omega)) ?_;cases h;exact zlK _ ho83 eZ;cases h;cases zzF ho83;exact zc0.mk' _ rfl eZ;rintro ⟨⟩ rfl hp;replace h:=zbm hk52;cases h;exact ⟨rfl,rfl⟩
theorem zj9 (r:zac) (h:zko=some r):Sp Tryz.prog 15 [] (.im (.agg (zas r))):=by
 refine zzS [] fun hk=>?_;unfold zko at h;refine zlB rfl ?_;cases h;refine zlB ⟨rfl,trivial⟩ ?_;exact ⟨rfl,rfl⟩
theorem sp_L23_Gate (r:zad) (h:L23_Gate=some r):Sp Tryz.prog 16 [] (.im (.agg (zbh r))):=by
 refine zzS [] fun hk=>?_;unfold L23_Gate at h;refine zlB rfl ?_;cases h;refine zlB ⟨rfl,trivial⟩ ?_;exact ⟨rfl,rfl⟩
theorem zuh (t_:zac) (w_:List Int) (r:zac×Int) (h:zip t_ w_=some r):Sp Tryz.prog 39 [.im (.agg (zas t_)),.im (nL cI w_)] (.tup [.agg (zas r.1),nI r.2]):=by
 refine zzS [700002] fun hk=>?_;have z1:lZ t_.Prefixes:=zag (zlI hk.1 1 rfl);have z2:lZ t_.Suffixes:=zag (zlI hk.1 2 rfl);have z3:lZ w_:=zag hk.2.1;unfold zip at h;obtain ⟨b3,hc51,h⟩:=zlA h;refine ⟨_,zfo t_ b3 hc51,?_⟩;refine zzM h (fun b4 h a2=>?_) fun b4 h a2=>?_;refine zlB rfl ?_;cases h;refine zlB ⟨rfl,trivial⟩ ?_;exact ⟨rfl,rfl⟩;refine zlF w_.length zal ?_;refine zzM h (fun b5 h a6=>?_) fun b5 h a6=>?_;refine zlB rfl ?_;cases h;refine zlB ⟨rfl,trivial⟩ ?_;exact ⟨rfl,rfl⟩;obtain ⟨b6,hc54,h⟩:=zlA h;refine ⟨_,zfg w_ t_.Inputs b6 hc54,?_⟩;refine zzM h (fun b7 h a7=>?_) fun b7 h a7=>?_;refine zlB rfl ?_;cases h;refine zlB ⟨rfl,trivial⟩ ?_;exact ⟨rfl,rfl⟩;obtain ⟨a8,hc56,h⟩:=zlA h;refine ⟨_,(zcx t_.Prefixes a8 hc56).im,?_⟩;obtain ⟨b2,hc57,h⟩:=zlA h;refine ⟨_,(zl8 [t_.Suffixes,[w_]] b2 hc57),?_⟩;obtain ⟨b8,hc58,h⟩:=zlA h;refine ⟨_,zl5 t_ (⟨t_.Inputs,a8,b2⟩:zac) b8 hc58,?_⟩;refine zlB rfl ?_;cases h;refine zlB ⟨rfl,trivial⟩ ?_;exact ⟨rfl,rfl⟩
theorem zkg (slices_:List (List Int)) (r:List Int) (h:za1 slices_=some r):Sp Tryz.prog 94 [.im (nL (cL cI) slices_)] (.row 3 1 (List.map cI r)):=by
 refine zzS [4025000] fun hk=>?_;have z1:lZ slices_:=zag hk.1;unfold za1 at h;refine zlF slices_.length zal ?_;obtain ⟨size68,h,hk51⟩:=zlA h;refine zzU (mkSt [(0,zvL (cL cI) slices_),(3,zvN size68)] [] []) ((zlH 0 rfl).and hT) ?_ fun hp=>?_;refine zzL h (fun (size73,a8)=>mkSt [(0,zvL (cL cI) slices_),(3,zvN size73),(9,zvL (cL cI) slices_),(10,zvI (↑slices_.length:Int)),(11,zvN a8)] [] []) (fun (size73,a8)=>lZ slices_∧True) eZ (fun ⟨size73,a8⟩=>((zlH 0 rfl).and hT)) ?_;rintro k ⟨size73,a8⟩ o hp h ho79;change za1.s2 slices_ size73 a8=_ at h;unfold za1.s2 at h;obtain ⟨d1,_⟩:=hp;refine zzM h (fun b8 h b3=>?_) fun b8 h b3=>?_;refine zzI h fun b9 he81 h=>?_;refine zlF b9.length zal ?_;obtain ⟨c0,h⟩:=zan h;refine za8.mk c0 ?_;refine zzM h (fun c6 h b4=>?_) fun c6 h b4=>?_;cases h;refine za8.mk (zzR_ (by omega)) ?_;cases h;exact zlK _ ho79 eZ;cases h;cases zzF ho79;exact zlG eZ;replace h:=hk51;obtain ⟨d2,_⟩:=hp;obtain ⟨c7,hc86,h⟩:=zlA h;refine ⟨_,zs5 (↑size68:Int) c7 (hc86),?_⟩;refine zlF slices_.length zal ?_;obtain ⟨b5,h,hk87⟩:=zlA h;refine zzU (mkSt [(6,.osl 64 1)] [(64,.row 3 1 (List.map cI b5))] []) ((Holds.kdl 64 rfl).and hT) ?_ fun hp=>?_;refine zzL h (fun (a2,a6)=>mkSt [(6,.osl 64 1),(25,zvL (cL cI) slices_),(26,zvI (↑slices_.length:Int)),(27,zvN a6)] [(64,.row 3 1 (List.map cI a2))] []) (fun (a2,a6)=>lZ slices_∧lZ a2∧True) (eA (zod [64,24])) (fun ⟨a2,a6⟩=>((zlH 25 rfl).and ((Holds.kdl 64 rfl).and hT))) ?_;rintro k ⟨a2,a6⟩ o hp h ho111;change za1.s4 slices_ a2 a6=_ at h;unfold za1.s4 at h;obtain ⟨c8,c9,_⟩:=hp;refine zzM h (fun b6 h b2=>?_) fun b6 h b2=>?_;refine zzI h fun a7 he113 h=>?_;obtain ⟨b7,h⟩:=zan h;refine zlB ⟨rfl,zb4 (l:=a7) (c:=cI) fun _=>rfl,show za7 _ 8 by simpa only [zkK,zkL,List.length_nil,Nat.zero_add] using b7⟩ ?_;refine zlF (List.map cI (a2++a7)) (zcq (l:=a2) (m:=a7) (c:=cI)) ?_;refine za8.mk (zzR_ (by omega)) ?_;cases h;exact zlK _ ho111 eZ;cases h;cases zzF ho111;exact zlG eZ;replace h:=hk87;obtain ⟨d0,_⟩:=hp;cases h;exact zlB ⟨rfl,trivial⟩ ⟨rfl,rfl⟩
theorem zg6 (parts_:List (List Int)) (r:List Int) (h:zfk parts_=some r):Sp Tryz.prog 64 [.im (nL (cL cI) parts_)] (.im (nL cI r)):=by
 refine zzS [] fun hk=>?_;have z1:lZ parts_:=zag hk.1;unfold zfk at h;obtain ⟨a2,hc51,h⟩:=zlA h;refine ⟨_,(zkg parts_ a2 hc51).im,?_⟩;cases h;exact ⟨rfl,rfl⟩
theorem zhu (w_:List Int) (a_:Int) (r:List Int) (h:zeq w_ a_=some r):Sp Tryz.prog 66 [.im (nL cI w_),.im (nI a_)] (.im (nL cI r)):=by
 refine zzS [] fun hk=>?_;have z1:lZ w_:=zag hk.1;unfold zeq at h;obtain ⟨a2,hc51,h⟩:=zlA h;refine ⟨_,(zg6 [w_,[a_]] a2 hc51),?_⟩;cases h;exact ⟨rfl,rfl⟩
theorem zkf (a_:List Int) (b_:List Int) (r:Int) (h:zdt a_ b_=some r):Sp Tryz.prog 119 [.im (nL cI a_),.im (nL cI b_)] (.im (nI r)):=by
 refine zzS [] fun hk=>?_;have z1:lZ a_:=zag hk.1;have z2:lZ b_:=zag hk.2.1;unfold zdt at h;refine zlF a_.length zal ?_;refine zlF b_.length zal ?_;obtain ⟨oc,h,hk51⟩:=zlA h;refine zlJ oc (Y:=Unit) (fun (_:Unit)=>mkSt [(0,zvL cI a_),(1,zvL cI b_)] [] []) (fun (_:Unit)=>lZ a_∧lZ b_∧True) (by rintro ⟨⟩;exact ((zlH 0 rfl).and ((zlH 1 rfl).and hT))) ?_ ?_;refine zzL h (fun a2=>mkSt [(0,zvL cI a_),(1,zvL cI b_),(10,zvI (min (↑a_.length:Int) (↑b_.length:Int))),(11,zvN a2)] [] []) (fun a2=>lZ a_∧lZ b_∧True) eZ (fun a2=>((zlH 0 rfl).and ((zlH 1 rfl).and hT))) ?_;rintro k a2 o hp h ho77;unfold zdt.s2 at h;obtain ⟨b3,b4,_⟩:=hp;refine zzM h (fun a8 h a6=>?_) fun a8 h a6=>?_;refine zzI h fun b5 he79 h=>?_;refine zzI h fun b6 he80 h=>?_;refine zzM h (fun b2 h a7=>?_) fun b2 h a7=>?_;cases h;cases zzF ho77;replace h:some _=some _:=hk51;cases h;exact ⟨rfl,rfl⟩;refine za8.mk (zzR_ (by omega)) ?_;cases h;exact zlK _ ho77 eZ;cases h;cases zzF ho77;exact zc0.mk' _ rfl eZ;rintro ⟨⟩ rfl hp;replace h:=zbm hk51;obtain ⟨b7,b8,_⟩:=hp;refine zlF a_.length zal ?_;refine zlF b_.length zal ?_;cases h;exact ⟨rfl,rfl⟩
theorem zf9 (w_:List Int) (p_:List Int) (r:Bool) (h:zdl w_ p_=some r):Sp Tryz.prog 96 [.im (nL cI w_),.im (nL cI p_)] (.im (nB r)):=by
 refine zzS [] fun hk=>?_;have z1:lZ w_:=zag hk.1;have z2:lZ p_:=zag hk.2.1;unfold zdl at h;obtain ⟨a2,hc51,h⟩:=zlA h;refine ⟨_,zkf w_ p_ a2 hc51,?_⟩;refine zlF p_.length zal ?_;cases h;exact ⟨rfl,rfl⟩
theorem ztm (a_:List Int) (b_:List Int) (r:Int) (h:zh9 a_ b_=some r):Sp Tryz.prog 93 [.im (nL cI a_),.im (nL cI b_)] (.im (nI r)):=by
 refine zzS [] fun hk=>?_;have z1:lZ a_:=zag hk.1;have z2:lZ b_:=zag hk.2.1;unfold zh9 at h;obtain ⟨a2,hc51,h⟩:=zlA h;refine ⟨_,zgi a_ b_ a2 hc51,?_⟩;cases h;exact ⟨rfl,rfl⟩
theorem zqf (l_:List (List Int)) (r:List (List Int)) (h:zcc l_=some r):Sp Tryz.prog 67 [.im (nL (cL cI) l_)] (.im (nL (cL cI) r)):=by
 refine zzS [] fun hk=>?_;have z1:lZ l_:=zag hk.1;unfold zcc at h;obtain ⟨a8,hc51,h⟩:=zlA h;refine ⟨_,(zke l_ (fun u0 u1=>zh9 u0 u1) 93 (fun u0 u1 r h=>(ztm u0 u1 r h)) cmpE_word_Lex a8 hc51).im,?_⟩;refine zlF a8.length zal ?_;obtain ⟨b3,h,hk52⟩:=zlA h;refine zzU (mkSt [(4,.osl 64 1)] [(64,.row 50 1 (List.map (cL cI) b3))] []) ((Holds.kdl 64 rfl).and hT) ?_ fun hp=>?_;refine zzL h (fun (a2,a7)=>mkSt [(3,zvL (cL cI) a8),(4,.osl 64 1),(9,zvL (cL cI) a8),(10,zvI (↑a8.length:Int)),(11,zvN a7)] [(64,.row 50 1 (List.map (cL cI) a2))] []) (fun (a2,a7)=>lZ a8∧lZ a2∧True) (eA [(64,none)]) (fun ⟨a2,a7⟩=>((zlH 3 rfl).and ((Holds.kdl 64 rfl).and hT))) ?_;rintro k ⟨a2,a7⟩ o hp h ho137;change zcc.s2 a8 a2 a7=_ at h;unfold zcc.s2 at h;obtain ⟨c8,c9,_⟩:=hp;refine zzM h (fun b6 h b4=>?_) fun b6 h b4=>?_;refine zzI h fun b2 he139 h=>?_;obtain ⟨b7,h,hk141⟩:=zlA h;refine zzU (mkSt [(3,zvL (cL cI) a8),(4,.osl 64 1),(6,zvL cI b2),(9,zvL (cL cI) a8),(10,zvI (↑a8.length:Int)),(11,zvN a7),(30,zvB b7)] [(64,.row 50 1 (List.map (cL cI) a2))] []) ((zlH 3 rfl).and ((zlH 6 rfl).and ((Holds.kdl 64 rfl).and hT))) ?_ fun hp=>?_;refine za8.mk (zzR_ (by omega)) ?_;refine zlF a8.length zal ?_;refine zzO h (fun a6 h b5=>?_) fun a6 h b5=>?_
 iterate 2 (refine zlD (zbv a6) ?_)
 refine za8.mk (zzR_ (by omega)) ?_;refine zlD (zbv a6) ?_;refine zzI h fun b8 he147 h=>?_
 iterate 3 (refine zlD (zbv a6) ?_)
 obtain ⟨b9,hc148,h⟩:=zlA h;refine ⟨_,zf9 b8 b2 b9 hc148,?_⟩;refine zlD (zbv a6) ?_;refine zlE a6 ?_;cases h;exact zlG eZ
 iterate 7 (refine zlE (zfv a6) ?_)
 refine zlD a6 ?_;cases h;exact zlG eZ;replace h:=hk141;obtain ⟨d0,d1,d2,_⟩:=hp;refine zzP h (fun c0 h=>?_) fun c0 h=>?_;obtain ⟨c6,h⟩:=zan h;refine zlB ⟨rfl,zb4 (l:=[b2]) (c:=cL cI) fun _=>rfl,show za7 _ 24 by simpa only [zkK,zkL,List.length_nil,Nat.zero_add] using c6⟩ ?_;refine zlF (List.map (cL cI) (a2++[b2])) (zcq (l:=a2) (m:=[b2]) (c:=cL cI)) ?_;refine za8.mk (zzR_ (by omega)) ?_;cases h;exact zlK _ ho137 eZ;refine za8.mk (zzR_ (by omega)) ?_;cases h;exact zlK _ ho137 eZ;cases h;cases zzF ho137;exact zlG eZ;replace h:=hk52;obtain ⟨d3,_⟩:=hp;refine zlB ⟨rfl,trivial⟩ ?_;obtain ⟨c7,hc157,h⟩:=zlA h;refine ⟨_,(zcx b3 c7 hc157).im,?_⟩;cases h;exact ⟨rfl,rfl⟩
theorem zob (t_:zac) (o_:zad) (r:Int) (h:zh0 t_ o_=some r):Sp Tryz.prog 61 [.im (.agg (zas t_)),.im (.agg (zbh o_))] (.im (nI r)):=by
 refine zzS [700002,700003] fun hk=>?_;have z1:lZ t_.Prefixes:=zag (zlI hk.1 1 rfl);have z2:lZ t_.Suffixes:=zag (zlI hk.1 2 rfl);have z3:lZ o_.Traces:=zag (zlI hk.2.1 1 rfl);unfold zh0 at h;obtain ⟨a7,hc51,h⟩:=zlA h;refine ⟨_,zfo t_ a7 hc51,?_⟩;refine zzM h (fun a8 h a2=>?_) fun a8 h a2=>?_;cases h;exact ⟨rfl,rfl⟩;refine zzM h (fun b2 h a6=>?_) fun b2 h a6=>?_;cases h;exact ⟨rfl,rfl⟩;cases h;exact ⟨rfl,rfl⟩
theorem zpm (o_:zad) (r:List zaa) (h:zje o_=some r):Sp Tryz.prog 62 [.im (.agg (zbh o_))] (.row 66 2 (List.map zae r)):=by
 refine zzS [9000,700001,2009000] fun hk=>?_;have z1:lZ o_.Traces:=zag (zlI hk.1 1 rfl);unfold zje at h;obtain ⟨a2,hc51,h⟩:=zlA h;refine ⟨_,zo7 o_.Traces a2 (hc51),?_⟩;refine zlB ⟨rfl,trivial⟩ ?_;obtain ⟨a6,hc52,h⟩:=zlA h;refine ⟨_,zme a2 (fun u0 u1=>zbs u0 u1) 92 zrg a6 (hc52),?_⟩;cases h;exact zlB ⟨rfl,trivial⟩ ⟨rfl,rfl⟩
theorem zdw (x_:List zaa) (target_:List Int) (cmp_:zaa→(List Int)→Option Int) (f2_:FuncId) (hf2:∀ x0 x1 r,cmp_ x0 x1=some r→Sp Tryz.prog f2_ [.im (.agg (zae x0)),.im (nL cI x1)] (.im (nI r))) (r:Int×Bool) (h:zam x_ target_ cmp_=some r):Sp Tryz.prog 117 [.im (nL zae x_),.im (nL cI target_),.im (.fn f2_ [])] (.tup [nI r.1,nB r.2]):=by
 refine zzS [] fun hk=>?_;have z1:lZ x_:=zag hk.1;have z2:lZ target_:=zag hk.2.1;unfold zam at h;refine zlF x_.length zal ?_;obtain ⟨d1,h,hk51⟩:=zlA h;refine zzU (mkSt [(0,zvL zae x_),(1,zvL cI target_),(2,.im (.fn f2_ [])),(8,zvI (↑x_.length:Int)),(9,zvI d1)] [] []) ((zlH 0 rfl).and ((zlH 1 rfl).and hT)) ?_ fun hp=>?_;refine zzL h (fun (a6,a7)=>mkSt [(0,zvL zae x_),(1,zvL cI target_),(2,.im (.fn f2_ [])),(8,zvI (↑x_.length:Int)),(9,zvI a6),(10,zvI a7)] [] []) (fun (a6,a7)=>lZ x_∧lZ target_∧True) eZ (fun ⟨a6,a7⟩=>((zlH 0 rfl).and ((zlH 1 rfl).and hT))) ?_;rintro k ⟨a6,a7⟩ o hp h ho101;change zam.s2 x_ target_ cmp_ a6 a7=_ at h;unfold zam.s2 at h;obtain ⟨d2,d3,_⟩:=hp;refine zzM h (fun b4 h a8=>?_) fun b4 h a8=>?_;obtain ⟨b5,h⟩:=zan h;refine za8.mk b5 ?_;obtain ⟨b6,h⟩:=zan h;refine zlB b6 ?_;obtain ⟨b7,h⟩:=zan h;refine zlB ⟨⟨by show (0:Int)≤(a6+a7) / 2^1;omega,by show (a6+a7) / 2^1≤(18446744073709551615:Int);omega⟩,b7.1,by decide,by decide⟩ ?_;obtain ⟨b8,h⟩:=zan h;refine zlB b8 ?_;refine zzJ h fun b9 he107z he107 h=>?_;obtain ⟨c0,hc108,h⟩:=zlA h;refine ⟨_,hf2 b9 target_ c0 hc108,?_⟩;refine zzM h (fun c6 h b2=>?_) fun c6 h b2=>?_;obtain ⟨c7,h⟩:=zan h;refine za8.mk c7 ?_;cases h;exact zlK _ ho101 eZ;cases h;exact zlK _ ho101 eZ;cases h;cases zzF ho101;exact zlG eZ;replace h:=hk51;obtain ⟨d4,d5,_⟩:=hp;obtain ⟨c8,h,hk116⟩:=zlA h;refine zzU (mkSt [(6,zvI d1),(7,zvB c8)] [] []) hT ?_ fun hp=>?_;refine zzN h (fun a2 h b3=>?_) fun a2 h b3=>?_
 iterate 3 (refine zlD (zbi a2) ?_)
 refine zzJ h fun c9 he122z he122 h=>?_
 iterate 3 (refine zlD (zbi a2) ?_)
 obtain ⟨d0,hc123,h⟩:=zlA h;refine ⟨_,hf2 c9 target_ d0 hc123,?_⟩;refine zlD (zbi a2) ?_;refine zlD a2 ?_;cases h;exact zlG eZ
 iterate 7 (refine zlE (zf8 a2) ?_)
 refine zlE a2 ?_;cases h;exact zlG eZ;replace h:=hk116;cases h;exact ⟨rfl,rfl⟩
theorem zks (t_:zaa) (w_:List Int) (r:Int) (h:zbu t_ w_=some r):Sp Tryz.prog 118 [.im (.agg (zae t_)),.im (nL cI w_)] (.im (nI r)):=by
 refine zzS [700002] fun hk=>?_;have z1:lZ t_.In:=zag (zlI hk.1 0 rfl);have z2:lZ t_.Out:=zag (zlI hk.1 1 rfl);have z3:lZ w_:=zag hk.2.1;unfold zbu at h;obtain ⟨a2,hc51,h⟩:=zlA h;refine ⟨_,ztm t_.In w_ a2 hc51,?_⟩;cases h;exact ⟨rfl,rfl⟩
theorem zht (f_:List zaa) (w_:List Int) (r:List Int×Bool) (h:zdh f_ w_=some r):Sp Tryz.prog 95 [.im (nL zae f_),.im (nL cI w_)] (.tup [nL cI r.1,nB r.2]):=by
 refine zzS [] fun hk=>?_;have z1:lZ f_:=zag hk.1;have z2:lZ w_:=zag hk.2.1;unfold zdh at h;refine zlF w_.length zal ?_;refine zzM h (fun b4 h a7=>?_) fun b4 h a7=>?_;cases h;exact ⟨rfl,rfl⟩;obtain ⟨b3,hc52,h⟩:=zlA h;refine ⟨_,zdw f_ w_ (fun u0 u1=>zbu u0 u1) 118 (fun u0 u1 r h=>(zks u0 u1 r h)) b3 hc52,?_⟩;obtain ⟨b5,h,hk54⟩:=zlA h;refine zzU (mkSt [(0,zvL zae f_),(1,zvL cI w_),(6,zvI b3.1),(41,zvB b5)] [] []) ((zlH 0 rfl).and ((zlH 1 rfl).and hT)) ?_ fun hp=>?_;refine zlF f_.length zal ?_;refine zzO h (fun a6 h a8=>?_) fun a6 h a8=>?_
 iterate 2 (refine zlD (zbv a6) ?_)
 refine zzJ h fun b6 he62z he62 h=>?_
 iterate 4 (refine zlD (zbv a6) ?_)
 obtain ⟨b7,hc63,h⟩:=zlA h;refine ⟨_,zf9 b6.In w_ b7 hc63,?_⟩;refine zlD (zbv a6) ?_;refine zlE a6 ?_;refine zzR h (fun a2 h=>?_) fun a2 h=>?_
 iterate 2 (refine zlD (zbv a2) ?_)
 refine zzJ h fun b8 he65z he65 h=>?_
 iterate 3 (refine zlD (zbv a2) ?_)
 refine zlF b8.Out.length zal ?_
 iterate 2 (refine zlD (zbv a2) ?_)
 refine zlF w_.length zal ?_;refine zlD (zbv a2) ?_;refine zlE a2 ?_;cases h;exact zlG eZ
 iterate 8 (refine zlE (zfv a2) ?_)
 refine zlD a2 ?_;cases h;exact zlG eZ
 iterate 7 (refine zlE (zfv a6) ?_)
 refine zlD a6 ?_
 iterate 9 (refine zlE rfl ?_)
 refine zlD rfl ?_;cases h;exact zlG eZ;replace h:=hk54;obtain ⟨z66,c0,_⟩:=hp;refine zzP h (fun b9 h=>?_) fun b9 h=>?_;cases h;exact ⟨rfl,rfl⟩;refine zzJ h fun b2 he69z he69 h=>?_;refine zlF w_.length zal ?_;obtain ⟨c6,h⟩:=zan h;refine zlB (show (0:Int)≤(0:Int)∧(0:Int)≤(↑w_.length:Int)∧(↑w_.length:Int)≤(↑(List.length (List.map cI b2.Out)):Int)∧(∀ e∈List.map cI b2.Out,List.length e=1) from ⟨by omega,by first | omega | (simp only [zkK];omega),by first | omega | (simp only [zkK];omega),zb4 fun _=>rfl⟩) ?_
 refine zlF (List.map cI (List.take w_.length b2.Out)) zp1 ?_;cases h;exact ⟨rfl,rfl⟩
theorem zmw (f_:List zaa) (w_:List Int) (r:Bool) (h:zek f_ w_=some r):Sp Tryz.prog 65 [.im (nL zae f_),.im (nL cI w_)] (.im (nB r)):=by
 refine zzS [] fun hk=>?_;have z1:lZ f_:=zag hk.1;have z2:lZ w_:=zag hk.2.1;unfold zek at h;obtain ⟨a2,hc51,h⟩:=zlA h;refine ⟨_,zht f_ w_ a2 hc51,?_⟩;cases h;exact ⟨rfl,rfl⟩
theorem zk0 (w_:List Int) (p1_:zac) (p2_:List zaa) (p3_:List (List Int)) (r:List (List Int)) (h:Ok (nL cI w_)→Ok (.ref (zas p1_))→Ok (.ref (cL zae p2_))→OkOcs [.ow (.row 50 1 (List.map (cL cI) p3_))]→zch w_ p1_ p2_ p3_=some r):Sp Tryz.prog 63 [.im (nL cI w_),.im (.ref (zas p1_)),.im (.ref (cL zae p2_)),.box 22 [.ow (.row 50 1 (List.map (cL cI) p3_))]] (.mk true [] [.box 22 [.ow (.row 50 1 (List.map (cL cI) r))]]):=by
 refine zzS [] fun hk=>?_;replace h:=h hk.1 hk.2.1 hk.2.2.1 hk.2.2.2.1;have z1:lZ w_:=zag hk.1;have z2:lZ p1_.Prefixes:=zag (Ok.ref_at hk.2.1 1 rfl);have z3:lZ p1_.Suffixes:=zag (Ok.ref_at hk.2.1 2 rfl);have z4:lZ p2_:=zag (Ok.ref_at hk.2.2.1 0 rfl);have z5:lZ p3_:=zqg hk.2.2.2.1.1;unfold zch at h;refine zlF p1_.Suffixes.length zal ?_;obtain ⟨b2,h,hk51⟩:=zlA h;refine zzU (mkSt [(3,.own 3 0 0)] [(3,.box 22 1),(65,.row 50 1 (List.map (cL cI) b2))] [(3,0,.osl 65 1)]) ((Holds.kdl 65 rfl).and hT) ?_ fun hp=>?_;refine zzL h (fun (a2,a6)=>mkSt [(0,zvL cI w_),(2,zvR (cL zae p2_)),(3,.own 3 0 0),(9,zvL (cL cI) p1_.Suffixes),(10,zvI (↑p1_.Suffixes.length:Int)),(11,zvN a6)] [(3,.box 22 1),(65,.row 50 1 (List.map (cL cI) a2))] [(3,0,.osl 65 1)]) (fun (a2,a6)=>lZ w_∧lZ p1_.Suffixes∧lZ a2∧True) (eA (zod [3,3,65,2192])) (fun ⟨a2,a6⟩=>((zlH 0 rfl).and ((zlH 9 rfl).and ((Holds.kdl 65 rfl).and hT)))) ?_;rintro k ⟨a2,a6⟩ o hp h ho91;change zch.s2 w_ p1_ p2_ a2 a6=_ at h;unfold zch.s2 at h;obtain ⟨c0,c6,b3,_⟩:=hp;refine zzM h (fun b4 h a8=>?_) fun b4 h a8=>?_;refine zzI h fun b5 he93 h=>?_;obtain ⟨a7,hc94,h⟩:=zlA h;refine ⟨_,(zg6 [w_,b5] a7 hc94),?_⟩;obtain ⟨b6,hc95,h⟩:=zlA h;refine ⟨_,zmw p2_ a7 b6 hc95,?_⟩;refine zzP h (fun b7 h=>?_) fun b7 h=>?_;refine zlB rfl ?_;obtain ⟨b8,h⟩:=zan h;refine zlB ⟨rfl,zb4 (l:=[a7]) (c:=cL cI) fun _=>rfl,show za7 _ 24 by simpa only [zkK,zkL,List.length_nil,Nat.zero_add] using b8⟩ ?_;refine zlF (List.map (cL cI) (a2++[a7])) (zcq (l:=a2) (m:=[a7]) (c:=cL cI)) ?_;refine zlB rfl ?_;refine za8.mk (zzR_ (by omega)) ?_;cases h;exact zlK _ ho91 eZ;refine za8.mk (zzR_ (by omega)) ?_;cases h;exact zlK _ ho91 eZ;cases h;cases zzF ho91;exact zlG eZ;replace h:=hk51;obtain ⟨b9,_⟩:=hp;cases h;exact zlB ⟨rfl,rfl,trivial⟩ ⟨rfl,rfl⟩
theorem ztk (t_:zac) (o_:zad) (r:List (List Int)×Int) (h:zb1 t_ o_=some r):Sp Tryz.prog 35 [.im (.agg (zas t_)),.im (.agg (zbh o_))] (.tup [nL (cL cI) r.1,nI r.2]):=by
 refine sp_of rfl [32003,42003,700002,700003,800007,31937*1000000000+50*100+1] rfl rfl rfl (zkE rfl) rfl fun hk=>?_;have z1:lZ t_.Prefixes:=zag (zlI hk.1 1 rfl);have z2:lZ t_.Suffixes:=zag (zlI hk.1 2 rfl);have z3:lZ o_.Traces:=zag (zlI hk.2.1 1 rfl);unfold zb1 at h;obtain ⟨d1,hc51,h⟩:=zlA h;refine ⟨_,zob t_ o_ d1 hc51,?_⟩;refine zzM h (fun d2 h b8=>?_) fun d2 h b8=>?_;cases h;exact ⟨rfl,rfl⟩;obtain ⟨b3,hc53,h⟩:=zlA h;refine ⟨_,(zpm o_ b3 hc53).im,?_⟩;refine zlB rfl ?_;refine zlB ⟨rfl,trivial⟩ ?_;refine zlF t_.Prefixes.length zal ?_;obtain ⟨b4,h,hk54⟩:=zlA h;refine zzU (mkSt [(8,.own 64 1 0)] [(64,.box 22 1),(65,.row 50 1 (List.map (cL cI) b4))] [(64,0,.osl 65 1)]) ((Holds.kdl 65 rfl).and hT) ?_ fun hp=>?_;refine zzL h (fun (a2,a6)=>mkSt [(2,zvR (zas t_)),(8,.own 64 1 0),(9,.fn 63 [.im (.ref (zas t_)),zvR (cL zae b3),.own 64 1 0]),(23,zvL (cL cI) t_.Prefixes),(24,zvI (↑t_.Prefixes.length:Int)),(25,zvN a6)] [(64,.box 22 1),(65,.row 50 1 (List.map (cL cI) a2))] [(64,0,.osl 65 1)]) (fun (a2,a6)=>lZ t_.Prefixes∧lZ a2∧True) (Ent.mk [(64,some 8),(65,none)] rfl ⟨eI rfl rfl,⟨.own 8 _ 0,rfl,.own rfl rfl rfl⟩,⟨.fn _ [.im _,.im _,.own 8 _ 0],rfl,.fn (.cons (.im (Sub.rfl' rfl)) (.cons (.im (Sub.rfl' rfl)) (.cons (.own rfl rfl rfl) (.nil))))⟩,eI rfl rfl,eI rfl rfl,eI rfl rfl,trivial⟩ ⟨.inl ⟨8,rfl,rfl,trivial⟩,.inr ⟨rfl,rfl,.inl ⟨_,_,rfl,by decide⟩⟩,trivial⟩ ⟨⟨8,.im (.val (.slice none 0 0)),rfl,rfl,.made rfl rfl⟩,trivial⟩) (fun ⟨a2,a6⟩=>((zlH 23 rfl).and ((Holds.kdl 65 rfl).and hT))) ?_;rintro k ⟨a2,a6⟩ o hp h ho268;change zb1.s14 t_ b3 a2 a6=_ at h;unfold zb1.s14 at h;obtain ⟨d3,d4,_⟩:=hp;refine zzM h (fun b9 h b5=>?_) fun b9 h b5=>?_;refine zzI h fun b2 he270 h=>?_;refine zlB ⟨rfl,rfl,trivial⟩ ?_;obtain ⟨c0,hc271,h⟩:=zlA h;refine ⟨_,zk0 b2 t_ b3 a2 c0 (fun _ _ _ _=>hc271),?_⟩;obtain ⟨c6,h,hk272⟩:=zlA h;refine zzU (mkSt [(2,zvR (zas t_)),(8,.own 64 1 0),(9,.fn 63 [.im (.ref (zas t_)),zvR (cL zae b3),.own 64 1 0]),(23,zvL (cL cI) t_.Prefixes),(24,zvI (↑t_.Prefixes.length:Int)),(25,zvN a6)] [(64,.box 22 1),(65,.row 50 1 (List.map (cL cI) c6))] [(64,0,.osl 65 1)]) ((zlH 23 rfl).and ((Holds.kdl 65 rfl).and hT)) ?_ fun hp=>?_;refine zzL h (fun (a7,a8)=>mkSt [(2,zvR (zas t_)),(8,.own 64 1 0),(9,.fn 63 [.im (.ref (zas t_)),zvR (cL zae b3),.own 64 1 0]),(11,zvL cI b2),(23,zvL (cL cI) t_.Prefixes),(24,zvI (↑t_.Prefixes.length:Int)),(25,zvN a6),(33,zvI t_.Inputs),(34,zvN a8)] [(64,.box 22 1),(65,.row 50 1 (List.map (cL cI) a7))] [(64,0,.osl 65 1)]) (fun (a7,a8)=>lZ b2∧lZ t_.Prefixes∧lZ a7∧True) (Ent.mk [(64,some 64),(65,some 65)] rfl ⟨eI rfl rfl,⟨.own 64 _ 0,rfl,.own rfl rfl rfl⟩,⟨.fn _ [.im _,.im _,.own 64 _ 0],rfl,.fn (.cons (.im (Sub.rfl' rfl)) (.cons (.im (Sub.rfl' rfl)) (.cons (.own rfl rfl rfl) (.nil))))⟩,eI rfl rfl,eI rfl rfl,eI rfl rfl,eI rfl rfl,eI rfl rfl,eI rfl rfl,trivial⟩ ⟨.inl ⟨64,rfl,rfl,trivial⟩,.inl ⟨65,rfl,rfl,trivial⟩,trivial⟩ ⟨⟨64,.osl 65 _,rfl,rfl,.osl rfl rfl rfl⟩,trivial⟩) (fun ⟨a7,a8⟩=>((zlH 11 rfl).and ((zlH 23 rfl).and ((Holds.kdl 65 rfl).and hT)))) ?_;rintro k ⟨a7,a8⟩ o hp h ho300;change zb1.s13 t_ b3 b2 a7 a8=_ at h;unfold zb1.s13 at h;obtain ⟨d5,d6,d7,_⟩:=hp;refine zzM h (fun c7 h b6=>?_) fun c7 h b6=>?_;obtain ⟨b7,hc302,h⟩:=zlA h;refine ⟨_,zhu b2 (↑a8:Int) b7 hc302,?_⟩;refine zlB ⟨rfl,rfl,trivial⟩ ?_;obtain ⟨c8,hc303,h⟩:=zlA h;refine ⟨_,zk0 b7 t_ b3 a7 c8 (fun _ _ _ _=>hc303),?_⟩;obtain ⟨c9,h⟩:=zan h;refine za8.mk c9 ?_;cases h;exact zlK _ ho300 (Ent.mk [(64,some 64),(65,some 65)] rfl ⟨eI rfl rfl,⟨.own 64 _ 0,rfl,.own rfl rfl rfl⟩,⟨.fn _ [.im _,.im _,.own 64 _ 0],rfl,.fn (.cons (.im (Sub.rfl' rfl)) (.cons (.im (Sub.rfl' rfl)) (.cons (.own rfl rfl rfl) (.nil))))⟩,eI rfl rfl,eI rfl rfl,eI rfl rfl,eI rfl rfl,eI rfl rfl,eI rfl rfl,trivial⟩ ⟨.inl ⟨64,rfl,rfl,trivial⟩,.inl ⟨65,rfl,rfl,trivial⟩,trivial⟩ ⟨⟨64,.osl 65 _,rfl,rfl,.osl rfl rfl rfl⟩,trivial⟩);cases h;cases zzF ho300;exact zlG (Ent.mk [(64,some 64),(65,some 65)] rfl ⟨eI rfl rfl,⟨.own 64 _ 0,rfl,.own rfl rfl rfl⟩,⟨.fn _ [.im _,.im _,.own 64 _ 0],rfl,.fn (.cons (.im (Sub.rfl' rfl)) (.cons (.im (Sub.rfl' rfl)) (.cons (.own rfl rfl rfl) (.nil))))⟩,eI rfl rfl,eI rfl rfl,eI rfl rfl,trivial⟩ ⟨.inl ⟨64,rfl,rfl,trivial⟩,.inl ⟨65,rfl,rfl,trivial⟩,trivial⟩ ⟨⟨64,.osl 65 _,rfl,rfl,.osl rfl rfl rfl⟩,trivial⟩);replace h:=hk272;obtain ⟨d8,d9,_⟩:=hp;refine za8.mk (zzR_ (by omega)) ?_;cases h;exact zlK _ ho268 (Ent.mk [(64,some 64),(65,some 65)] rfl ⟨eI rfl rfl,⟨.own 64 _ 0,rfl,.own rfl rfl rfl⟩,⟨.fn _ [.im _,.im _,.own 64 _ 0],rfl,.fn (.cons (.im (Sub.rfl' rfl)) (.cons (.im (Sub.rfl' rfl)) (.cons (.own rfl rfl rfl) (.nil))))⟩,eI rfl rfl,eI rfl rfl,eI rfl rfl,trivial⟩ ⟨.inl ⟨64,rfl,rfl,trivial⟩,.inl ⟨65,rfl,rfl,trivial⟩,trivial⟩ ⟨⟨64,.osl 65 _,rfl,rfl,.osl rfl rfl rfl⟩,trivial⟩);cases h;cases zzF ho268;exact zlG eZ;replace h:=hk54;obtain ⟨e0,_⟩:=hp;refine zlB rfl ?_;refine zlB ⟨rfl,trivial⟩ ?_;obtain ⟨d0,hc313,h⟩:=zlA h;refine ⟨_,zqf b4 d0 hc313,?_⟩;cases h;exact ⟨rfl,rfl⟩
theorem zjo (f_:List zaa) (t_:zac) (w_:List Int) (r:List (List Int)×Bool) (h:zbw f_ t_ w_=some r):Sp Tryz.prog 84 [.im (nL zae f_),.im (.agg (zas t_)),.im (nL cI w_)] (.tup [nL (cL cI) r.1,nB r.2]):=by
 refine zzS [700004] fun hk=>?_;have z1:lZ f_:=zag hk.1;have z2:lZ t_.Prefixes:=zag (zlI hk.2.1 1 rfl);have z3:lZ t_.Suffixes:=zag (zlI hk.2.1 2 rfl);have z4:lZ w_:=zag hk.2.2.1;unfold zbw at h;refine zlF t_.Suffixes.length zal ?_;obtain ⟨b9,h⟩:=zan h;refine zlB b9 ?_;refine zlF (List.map (cL cI) []) rfl ?_;refine zlF t_.Suffixes.length zal ?_;obtain ⟨oc,h,hk52⟩:=zlA h;refine zlJ oc (Y:=List (List Int)) (fun a8=>mkSt [(8,.osl 64 1)] [(64,.row 50 1 (List.map (cL cI) a8))] []) (fun a8=>lZ a8∧True) (by rintro a8;exact ((Holds.kdl 64 rfl).and hT)) ?_ ?_;refine zzL h (fun (a7,b2)=>mkSt [(0,zvL zae f_),(2,zvL cI w_),(8,.osl 64 1),(18,zvL (cL cI) t_.Suffixes),(19,zvI (↑t_.Suffixes.length:Int)),(20,zvN b2)] [(64,.row 50 1 (List.map (cL cI) a7))] []) (fun (a7,b2)=>lZ f_∧lZ w_∧lZ t_.Suffixes∧lZ a7∧True) (eA (zod [64,16])) (fun ⟨a7,b2⟩=>((zlH 0 rfl).and ((zlH 2 rfl).and ((zlH 18 rfl).and ((Holds.kdl 64 rfl).and hT))))) ?_;rintro k ⟨a7,b2⟩ o hp h ho103;change zbw.s2 f_ t_ w_ a7 b2=_ at h;unfold zbw.s2 at h;obtain ⟨c0,c6,c7,c8,_⟩:=hp;refine zzM h (fun b5 h b3=>?_) fun b5 h b3=>?_;refine zzI h fun b6 he105 h=>?_;obtain ⟨b4,hc106,h⟩:=zlA h;refine ⟨_,(zg6 [w_,b6] b4 hc106),?_⟩;obtain ⟨a2,hc107,h⟩:=zlA h;refine ⟨_,zht f_ b4 a2 hc107,?_⟩;refine zzP h (fun b7 h=>?_) fun b7 h=>?_;cases h;cases zzF ho103;replace h:some _=some _:=hk52;cases h;exact ⟨rfl,rfl⟩;refine zlF w_.length zal ?_;obtain ⟨c9,h⟩:=zan h;refine zlB (show (0:Int)≤(↑w_.length:Int)∧(↑w_.length:Int)≤(↑(List.length (List.map cI a2.1)):Int)∧(↑(List.length (List.map cI a2.1)):Int)≤(↑(List.length (List.map cI a2.1)):Int)∧(∀ e∈List.map cI a2.1,List.length e=1) from ⟨by omega,by first | omega | (simp only [zkK];omega),by first | omega | (simp only [zkK];omega),zb4 fun _=>rfl⟩) ?_
 refine zlF (List.map cI (List.drop w_.length a2.1)) drop_map ?_;obtain ⟨a6,hc110,h⟩:=zlA h;refine ⟨_,(zdu (List.drop w_.length a2.1) a6 (hc110)).im,?_⟩;obtain ⟨b8,h⟩:=zan h;refine zlB ⟨rfl,zb4 (l:=[a6]) (c:=cL cI) fun _=>rfl,show za7 _ 24 by simpa only [zkK,zkL,List.length_nil,Nat.zero_add] using b8⟩ ?_;refine zlF (List.map (cL cI) (a7++[a6])) (zcq (l:=a7) (m:=[a6]) (c:=cL cI)) ?_;refine za8.mk (zzR_ (by omega)) ?_;cases h;exact zlK _ ho103 eZ;cases h;cases zzF ho103;exact zc0.mk' _ rfl eZ;rintro a8 rfl hp;replace h:=zbm hk52;obtain ⟨d0,_⟩:=hp;cases h;exact zlB ⟨rfl,trivial⟩ ⟨rfl,rfl⟩
theorem zk4 (v_:zau) (row_:List (List Int)) (v0_1:Value) (v0_2:Value) (r:Int×zau) (h:OkOcs [.ow (.row 22 1 (List.map (cL (cL cI)) v_.rows)),.im (.ex v0_1),.im (.ex v0_2),.ow (.map (mapV wS wI v_.number))]→Ok (nL (cL cI) row_)→zbr v_ row_=some r):Sp Tryz.prog 85 [.box 84 [.ow (.row 22 1 (List.map (cL (cL cI)) v_.rows)),.im (.ex v0_1),.im (.ex v0_2),.ow (.map (mapV wS wI v_.number))],.im (nL (cL cI) row_)] (.mk false [.im (nI r.1)] [.box 84 [.ow (.row 22 1 (List.map (cL (cL cI)) r.2.rows)),.im (.ex v0_1),.im (.ex v0_2),.ow (.map (mapV wS wI r.2.number))]]):=by
 refine zzS [] fun hk=>?_;replace h:=h hk.1 hk.2.1;have z1:lZ v_.rows:=zqg hk.1.1;have z2:lZ row_:=zag hk.2.1;unfold zbr at h;refine zlF row_.length zal ?_;obtain ⟨b2,h,hk51⟩:=zlA h;refine zzU (mkSt [(0,.own 0 0 0),(1,zvL (cL cI) row_),(5,.im (nS b2))] [(0,.box 84 4),(65,.row 22 1 (List.map (cL (cL cI)) v_.rows)),(66,.map (mapV wS wI v_.number))] [(0,0,.osl 65 1),(0,1,.im (.ex v0_1)),(0,2,.im (.ex v0_2)),(0,3,.osl 66 1)]) ((zlH 1 rfl).and ((Holds.kdl 65 rfl).and hT)) ?_ fun hp=>?_;refine zzL h (fun (a2,a6)=>mkSt [(0,.own 0 0 0),(1,zvL (cL cI) row_),(5,.im (nS a2)),(10,zvL (cL cI) row_),(11,zvI (↑row_.length:Int)),(12,zvN a6)] [(0,.box 84 4),(65,.row 22 1 (List.map (cL (cL cI)) v_.rows)),(66,.map (mapV wS wI v_.number))] [(0,0,.osl 65 1),(0,1,.im (.ex v0_1)),(0,2,.im (.ex v0_2)),(0,3,.osl 66 1)]) (fun (a2,a6)=>lZ row_∧lZ v_.rows∧True) (eA (zod [0,0,65,2000,66,2003])) (fun ⟨a2,a6⟩=>((zlH 1 rfl).and ((Holds.kdl 65 rfl).and hT))) ?_;rintro k ⟨a2,a6⟩ o hp h ho85;change zbr.s2 row_ a2 a6=_ at h;unfold zbr.s2 at h;obtain ⟨c8,c9,_⟩:=hp;refine zzM h (fun b7 h b3=>?_) fun b7 h b3=>?_;refine zzI h fun b8 he87 h=>?_;obtain ⟨b9,hc88,h⟩:=zlA h;refine ⟨_,zm5 b8 b9 (hc88),?_⟩;obtain ⟨c0,h⟩:=zan h;refine zlB c0 ?_;obtain ⟨c6,h⟩:=zan h;refine zlB c6 ?_;refine za8.mk (zzR_ (by omega)) ?_;cases h;exact zlK _ ho85 eZ;cases h;cases zzF ho85;exact zlG eZ;replace h:=hk51;obtain ⟨d0,d1,_⟩:=hp;refine zlB rfl ?_;refine zlB rfl ?_;refine zlB rfl ?_;refine zlB rfl ?_;refine ⟨_,find_str _ wI _,?_⟩;refine zlF (wI ((mget b2 v_.number).getD 0)) (getD_map rfl _) ?_;refine zlF (mget b2 v_.number).isSome (isSome_map _) ?_;obtain ⟨⟨b6,a7,a8⟩,h,hk96⟩:=zlA h;refine zzU (mkSt [(0,.own 0 0 0),(8,zvI a8)] [(0,.box 84 4),(65,.row 22 1 (List.map (cL (cL cI)) b6)),(66,.map (mapV wS wI a7))] [(0,0,.osl 65 1),(0,1,.im (.ex v0_1)),(0,2,.im (.ex v0_2)),(0,3,.osl 66 1)]) ((Holds.kdl 65 rfl).and hT) ?_ fun hp=>?_;refine zzP h (fun b4 h=>?_) fun b4 h=>?_;refine zlB rfl ?_;refine zlB rfl ?_;refine zlB rfl ?_;refine zlB rfl ?_;refine zlF v_.rows.length zal ?_;refine zlB rfl ?_;refine zlB rfl ?_;refine zlB rfl ?_;refine zlB rfl ?_;refine ⟨_,set_str _ (↑v_.rows.length:Int) wI _,?_⟩;refine zlB rfl ?_;refine zlB rfl ?_;refine zlB rfl ?_;obtain ⟨b5,h⟩:=zan h;refine zlB ⟨rfl,zb4 (l:=[row_]) (c:=cL (cL cI)) fun _=>rfl,show za7 _ 24 by simpa only [zkK,zkL,List.length_nil,Nat.zero_add] using b5⟩ ?_;refine zlF (List.map (cL (cL cI)) (v_.rows++[row_])) (zcq (l:=v_.rows) (m:=[row_]) (c:=cL (cL cI))) ?_;refine zlB rfl ?_;refine zlB rfl ?_;refine zlB rfl ?_;cases h;exact zlG eZ;cases h;exact zlG eZ;replace h:zbr.k3 v_ b6 a7 a8=some _:=hk96;unfold zbr.k3 at h;obtain ⟨c7,_⟩:=hp;cases h;exact zlB ⟨rfl,rfl,rfl,trivial⟩ ⟨rfl,rfl⟩
theorem zlv (t_:zac) (o_:zad) (r:zau×Int) (h:za2 t_ o_=some r):Sp Tryz.prog 47 [.im (.agg (zas t_)),.im (.agg (zbh o_))] (.tup [.agg (zco r.1),nI r.2]):=by
 refine sp_of rfl [51000,82000,700002,700003,900050,900081,1000000000000051201,1000000000000051202,1000000000000082945,1000000000000082946,51201*1000000000+22*100+1] rfl rfl rfl (zkE rfl) rfl fun hk=>?_;have z1:lZ t_.Prefixes:=zag (zlI hk.1 1 rfl);have z2:lZ t_.Suffixes:=zag (zlI hk.1 2 rfl);have z3:lZ o_.Traces:=zag (zlI hk.2.1 1 rfl);unfold za2 at h;obtain ⟨f9,hc51,h⟩:=zlA h;refine ⟨_,zob t_ o_ f9 hc51,?_⟩;refine zzM h (fun g1 h e4=>?_) fun g1 h e4=>?_;refine zlB rfl ?_;cases h;refine zlB ⟨rfl,trivial⟩ ?_;exact ⟨rfl,rfl⟩;obtain ⟨a8,hc53,h⟩:=zlA h;refine ⟨_,(zpm o_ a8 hc53).im,?_⟩;refine zlB rfl ?_;refine zlF t_.Prefixes.length zal ?_;obtain ⟨oc,h,hk54⟩:=zlA h;refine zlJ oc (Y:=List (List (List Int))×List Int×(List (ByteArray×Int))) (fun (d4,a7,d6)=>mkSt [(2,zvR (zas t_)),(4,.own 93 1 0),(7,zvL zae a8),(8,.own 94 1 0)] [(93,.box 84 4),(94,.box 84 4),(95,.row 22 1 (List.map (cL (cL cI)) d4)),(96,.row 3 1 (List.map cI a7)),(97,.map (mapV wS wI d6))] [(93,0,.im (.val (.slice none 0 0))),(93,1,.im (.val (.slice none 0 0))),(93,2,.im (.val (.slice none 0 0))),(93,3,.im (.val (.map none))),(94,0,.osl 95 1),(94,1,.osl 96 1),(94,2,.im (.val (.slice none 0 0))),(94,3,.osl 97 1)]) (fun (d4,a7,d6)=>lZ a8∧lZ d4∧lZ a7∧True) (by rintro ⟨d4,a7,d6⟩;exact ((zlH 7 rfl).and ((Holds.kdl 95 rfl).and ((Holds.kdl 96 rfl).and hT)))) ?_ ?_;refine zzL h (fun (d3,d1,d5,d7)=>mkSt [(2,zvR (zas t_)),(4,.own 93 1 0),(7,zvL zae a8),(8,.own 94 1 0),(31,zvL (cL cI) t_.Prefixes),(32,zvI (↑t_.Prefixes.length:Int)),(33,zvN d7)] [(93,.box 84 4),(94,.box 84 4),(95,.row 22 1 (List.map (cL (cL cI)) d3)),(96,.row 3 1 (List.map cI d1)),(97,.map (mapV wS wI d5))] [(93,0,.im (.val (.slice none 0 0))),(93,1,.im (.val (.slice none 0 0))),(93,2,.im (.val (.slice none 0 0))),(93,3,.im (.val (.map none))),(94,0,.osl 95 1),(94,1,.osl 96 1),(94,2,.im (.val (.slice none 0 0))),(94,3,.osl 97 1)]) (fun (d3,d1,d5,d7)=>lZ a8∧lZ t_.Prefixes∧lZ d3∧lZ d1∧True) (eA [(93,some 4),(94,some 8),(95,none),(96,none),(97,some 28)]) (fun ⟨d3,d1,d5,d7⟩=>((zlH 7 rfl).and ((zlH 31 rfl).and ((Holds.kdl 95 rfl).and ((Holds.kdl 96 rfl).and hT))))) ?_;rintro k ⟨d3,d1,d5,d7⟩ o hp h ho99;change za2.s2 t_ a8 d3 d1 d5 d7=_ at h;unfold za2.s2 at h;obtain ⟨g2,g3,g4,g5,_⟩:=hp;refine zzM h (fun e5 h d8=>?_) fun e5 h d8=>?_;refine zzI h fun e6 he101 h=>?_;obtain ⟨d9,hc102,h⟩:=zlA h;refine ⟨_,zjo a8 t_ e6 d9 hc102,?_⟩;refine zzP h (fun e7 h=>?_) fun e7 h=>?_;refine zlB rfl ?_;cases h;cases zzF ho99;replace h:some _=some _:=hk54;cases h;refine zlB ⟨rfl,trivial⟩ ?_;exact ⟨rfl,rfl⟩;refine zlB rfl ?_;refine zlB rfl ?_;refine zlB ⟨rfl,rfl,rfl,trivial⟩ ?_;obtain ⟨b4,hc104,h⟩:=zlA h;refine ⟨false,[.im (nI b4.1)],[.box 84 [.ow (.row 22 1 (List.map (cL (cL cI)) b4.2.rows)),.im .any,.im .any,.ow (.map (mapV wS wI b4.2.number))]],fun V=>(zk4 (⟨d3,d1,[],d5⟩:zau) d9.1 (V 0 1) (V 0 2) b4 (fun _ _=>hc104)),?_⟩;obtain ⟨e8,h⟩:=zan h;refine zlB ⟨rfl,zb4 (l:=[b4.1]) (c:=cI) fun _=>rfl,show za7 _ 8 by simpa only [zkK,zkL,List.length_nil,Nat.zero_add] using e8⟩ ?_;refine zlF (List.map cI (d1++[b4.1])) (zcq (l:=d1) (m:=[b4.1]) (c:=cI)) ?_;refine zlB rfl ?_;refine zlB rfl ?_;refine za8.mk (zzR_ (by omega)) ?_;cases h;exact zlK _ ho99 eZ;cases h;cases zzF ho99;exact zc0.mk' _ rfl eZ;rintro ⟨d4,a7,d6⟩ rfl hp;have hx_:=zbm hk54;replace h:za2.k24 t_ a8 d4 a7 d6=some _:=hx_;clear hx_;unfold za2.k24 at h;obtain ⟨g6,g7,g8,_⟩:=hp;refine zlF t_.Prefixes.length zal ?_;obtain ⟨oc,h,hk113⟩:=zlA h;refine zlJ oc (Y:=List (List (List Int))×List (List Int)×(List (ByteArray×Int))) (fun (b7,b8,c8)=>mkSt [(4,.own 93 1 0),(8,.own 94 1 0)] [(93,.box 84 4),(94,.box 84 4),(95,.row 22 1 (List.map (cL (cL cI)) b7)),(96,.row 3 1 (List.map cI a7)),(97,.row 50 1 (List.map (cL cI) b8)),(98,.map (mapV wS wI c8))] [(93,0,.im (.val (.slice none 0 0))),(93,1,.im (.val (.slice none 0 0))),(93,2,.im (.val (.slice none 0 0))),(93,3,.im (.val (.map none))),(94,0,.osl 95 1),(94,1,.osl 96 1),(94,2,.osl 97 1),(94,3,.osl 98 1)]) (fun (b7,b8,c8)=>lZ b7∧lZ a7∧lZ b8∧True) (by rintro ⟨b7,b8,c8⟩;exact ((Holds.kdl 95 rfl).and ((Holds.kdl 96 rfl).and ((Holds.kdl 97 rfl).and hT)))) ?_ ?_;refine zzL h (fun (b9,a2,c9,b2)=>mkSt [(2,zvR (zas t_)),(4,.own 93 1 0),(7,zvL zae a8),(8,.own 94 1 0),(56,zvL (cL cI) t_.Prefixes),(57,zvI (↑t_.Prefixes.length:Int)),(58,zvN b2)] [(93,.box 84 4),(94,.box 84 4),(95,.row 22 1 (List.map (cL (cL cI)) b9)),(96,.row 3 1 (List.map cI a7)),(97,.row 50 1 (List.map (cL cI) a2)),(98,.map (mapV wS wI c9))] [(93,0,.im (.val (.slice none 0 0))),(93,1,.im (.val (.slice none 0 0))),(93,2,.im (.val (.slice none 0 0))),(93,3,.im (.val (.map none))),(94,0,.osl 95 1),(94,1,.osl 96 1),(94,2,.osl 97 1),(94,3,.osl 98 1)]) (fun (b9,a2,c9,b2)=>lZ a8∧lZ t_.Prefixes∧lZ b9∧lZ a7∧lZ a2∧True) (eA [(93,some 93),(94,some 94),(95,some 95),(96,some 96),(97,none),(98,some 97)]) (fun ⟨b9,a2,c9,b2⟩=>((zlH 7 rfl).and ((zlH 56 rfl).and ((Holds.kdl 95 rfl).and ((Holds.kdl 96 rfl).and ((Holds.kdl 97 rfl).and hT)))))) ?_;rintro k ⟨b9,a2,c9,b2⟩ o hp h ho498;change za2.s22 t_ a8 a7 b9 a2 c9 b2=_ at h;unfold za2.s22 at h;obtain ⟨g9,h5,h6,h7,h8,_⟩:=hp;refine zzM h (fun e9 h e0=>?_) fun e9 h e0=>?_;refine zzI h fun d2 he500 h=>?_;obtain ⟨oc,h,hk501⟩:=zlA h;refine zlJ oc (Y:=List (List (List Int))×(List (ByteArray×Int))×List Int) (fun (c0,d0,a6)=>mkSt [(2,zvR (zas t_)),(4,.own 93 1 0),(7,zvL zae a8),(8,.own 94 1 0),(15,.osl 99 1),(56,zvL (cL cI) t_.Prefixes),(57,zvI (↑t_.Prefixes.length:Int)),(58,zvN b2)] [(93,.box 84 4),(94,.box 84 4),(95,.row 22 1 (List.map (cL (cL cI)) c0)),(96,.row 3 1 (List.map cI a7)),(97,.row 50 1 (List.map (cL cI) a2)),(98,.map (mapV wS wI d0)),(99,.row 3 1 (List.map cI a6))] [(93,0,.im (.val (.slice none 0 0))),(93,1,.im (.val (.slice none 0 0))),(93,2,.im (.val (.slice none 0 0))),(93,3,.im (.val (.map none))),(94,0,.osl 95 1),(94,1,.osl 96 1),(94,2,.osl 97 1),(94,3,.osl 98 1)]) (fun (c0,d0,a6)=>lZ a8∧lZ t_.Prefixes∧lZ c0∧lZ a7∧lZ a2∧lZ a6∧True) (by rintro ⟨c0,d0,a6⟩;exact ((zlH 7 rfl).and ((zlH 56 rfl).and ((Holds.kdl 95 rfl).and ((Holds.kdl 96 rfl).and ((Holds.kdl 97 rfl).and ((Holds.kdl 99 rfl).and hT))))))) ?_ ?_;refine zzL h (fun (b5,c6,b3,c7)=>mkSt [(2,zvR (zas t_)),(4,.own 93 1 0),(7,zvL zae a8),(8,.own 94 1 0),(14,zvL cI d2),(15,.osl 99 1),(56,zvL (cL cI) t_.Prefixes),(57,zvI (↑t_.Prefixes.length:Int)),(58,zvN b2),(63,zvI t_.Inputs),(64,zvN c7)] [(93,.box 84 4),(94,.box 84 4),(95,.row 22 1 (List.map (cL (cL cI)) b5)),(96,.row 3 1 (List.map cI a7)),(97,.row 50 1 (List.map (cL cI) a2)),(98,.map (mapV wS wI c6)),(99,.row 3 1 (List.map cI b3))] [(93,0,.im (.val (.slice none 0 0))),(93,1,.im (.val (.slice none 0 0))),(93,2,.im (.val (.slice none 0 0))),(93,3,.im (.val (.map none))),(94,0,.osl 95 1),(94,1,.osl 96 1),(94,2,.osl 97 1),(94,3,.osl 98 1)]) (fun (b5,c6,b3,c7)=>lZ a8∧lZ d2∧lZ t_.Prefixes∧lZ b5∧lZ a7∧lZ a2∧lZ b3∧True) (eA [(93,some 93),(94,some 94),(95,some 95),(96,some 96),(97,some 97),(98,some 98),(99,none)]) (fun ⟨b5,c6,b3,c7⟩=>((zlH 7 rfl).and ((zlH 14 rfl).and ((zlH 56 rfl).and ((Holds.kdl 95 rfl).and ((Holds.kdl 96 rfl).and ((Holds.kdl 97 rfl).and ((Holds.kdl 99 rfl).and hT)))))))) ?_;rintro k ⟨b5,c6,b3,c7⟩ o hp h ho552;change za2.s20 t_ a8 a7 a2 d2 b5 c6 b3 c7=_ at h;unfold za2.s20 at h;obtain ⟨h9,i3,i4,i5,i6,i7,i8,_⟩:=hp;refine zzM h (fun f3 h e1=>?_) fun f3 h e1=>?_;obtain ⟨e2,hc554,h⟩:=zlA h;refine ⟨_,zhu d2 (↑c7:Int) e2 hc554,?_⟩;obtain ⟨e3,hc555,h⟩:=zlA h;refine ⟨_,zjo a8 t_ e2 e3 hc555,?_⟩;refine zzP h (fun f4 h=>?_) fun f4 h=>?_;refine zlB rfl ?_;cases h;cases zzF ho552;replace h:some _=some _:=hk501;cases h;cases zzF ho498;replace h:some _=some _:=hk113;cases h;refine zlB ⟨rfl,trivial⟩ ?_;exact ⟨rfl,rfl⟩;refine zlB ⟨rfl,rfl,rfl,trivial⟩ ?_;obtain ⟨b6,hc557,h⟩:=zlA h;refine ⟨false,[.im (nI b6.1)],[.box 84 [.ow (.row 22 1 (List.map (cL (cL cI)) b6.2.rows)),.im .any,.im .any,.ow (.map (mapV wS wI b6.2.number))]],fun V=>(zk4 (⟨b5,a7,a2,c6⟩:zau) e3.1 (V 0 1) (V 0 2) b6 (fun _ _=>hc557)),?_⟩;obtain ⟨f5,h⟩:=zan h;refine zlB ⟨rfl,zb4 (l:=[b6.1]) (c:=cI) fun _=>rfl,show za7 _ 8 by simpa only [zkK,zkL,List.length_nil,Nat.zero_add] using f5⟩ ?_;refine zlF (List.map cI (b3++[b6.1])) (zcq (l:=b3) (m:=[b6.1]) (c:=cI)) ?_;obtain ⟨f7,h⟩:=zan h;refine za8.mk f7 ?_;cases h;exact zlK _ ho552 eZ;cases h;cases zzF ho552;exact zc0.mk' _ rfl eZ;rintro ⟨c0,d0,a6⟩ rfl hp;have hx_:=zbm hk501;replace h:za2.k21 a2 b2 c0 d0 a6=some _:=hx_;clear hx_;unfold za2.k21 at h;obtain ⟨i9,j0,j1,j2,j3,j4,_⟩:=hp;refine zlB rfl ?_;refine zlB rfl ?_;refine zlB ⟨rfl,trivial⟩ ?_;obtain ⟨f8,h⟩:=zan h;refine zlB ⟨rfl,zb4 (l:=[a6]) (c:=cL cI) fun _=>rfl,show za7 _ 24 by simpa only [zkK,zkL,List.length_nil,Nat.zero_add] using f8⟩ ?_;refine zlF (List.map (cL cI) (a2++[a6])) (zcq (l:=a2) (m:=[a6]) (c:=cL cI)) ?_;refine zlB rfl ?_;refine zlB rfl ?_;refine za8.mk (zzR_ (by omega)) ?_;cases h;exact zlK _ ho498 eZ;cases h;cases zzF ho498;exact zc0.mk' _ rfl eZ;rintro ⟨b7,b8,c8⟩ rfl hp;have hx_:=zbm hk113;replace h:za2.k23 a7 b7 b8 c8=some _:=hx_;clear hx_;unfold za2.k23 at h;obtain ⟨j5,j6,j7,_⟩:=hp;refine zlB rfl ?_;refine zlB rfl ?_;cases h;refine zlB ⟨rfl,trivial⟩ ?_;exact zlB ⟨rfl,rfl,rfl,rfl,trivial⟩ ⟨rfl,rfl⟩
theorem zlb (s_:List Int) (v_:Int) (r:Int) (h:zbt s_ v_=some r):Sp Tryz.prog 112 [.im (nL cI s_),.im (nI v_)] (.im (nI r)):=by
 refine zzS [] fun hk=>?_;have z1:lZ s_:=zag hk.1;unfold zbt at h;refine zlF s_.length zal ?_;obtain ⟨oc,h,hk51⟩:=zlA h;refine zzV oc (mkSt [] [] []) hT ?_ ?_;refine zzL h (fun a2=>mkSt [(0,zvL cI s_),(1,zvI v_),(7,zvI (↑s_.length:Int)),(8,zvN a2)] [] []) (fun a2=>lZ s_∧True) eZ (fun a2=>((zlH 0 rfl).and hT)) ?_;rintro k a2 o hp h ho71;unfold zbt.s2 at h;obtain ⟨b3,_⟩:=hp;refine zzM h (fun a8 h a6=>?_) fun a8 h a6=>?_;refine zzI h fun b4 he73 h=>?_;refine zzM h (fun b2 h a7=>?_) fun b2 h a7=>?_;cases h;cases zzF ho71;replace h:some _=some _:=hk51;cases h;exact ⟨rfl,rfl⟩;refine za8.mk (zzR_ (by omega)) ?_;cases h;exact zlK _ ho71 eZ;cases h;cases zzF ho71;exact zc0.mk' _ rfl eZ;rintro ⟨⟩ rfl hp;replace h:=zbm hk51;cases h;exact ⟨rfl,rfl⟩
theorem zjf (s_:List Int) (v_:Int) (r:Bool) (h:zcy s_ v_=some r):Sp Tryz.prog 86 [.im (nL cI s_),.im (nI v_)] (.im (nB r)):=by
 refine zzS [] fun hk=>?_;have z1:lZ s_:=zag hk.1;unfold zcy at h;obtain ⟨a2,hc51,h⟩:=zlA h;refine ⟨_,zlb s_ v_ a2 hc51,?_⟩;cases h;exact ⟨rfl,rfl⟩
theorem zhs (v_:zau) (r:Int×Int×Bool) (h:za6 v_=some r):Sp Tryz.prog 48 [.im (.agg (zco v_))] (.tup [nI r.1,nI r.2.1,nB r.2.2]):=by
 refine zzS [700001] fun hk=>?_;have z1:lZ v_.rows:=zag (zlI hk.1 0 rfl);have z2:lZ v_.prefixes:=zag (zlI hk.1 1 rfl);have z3:lZ v_.next:=zag (zlI hk.1 2 rfl);unfold za6 at h;refine zlF v_.next.length zal ?_;obtain ⟨oc,h,hk51⟩:=zlA h;refine zzV oc (mkSt [] [] []) hT ?_ ?_;refine zzL h (fun a2=>mkSt [(1,zvR (zco v_)),(10,zvL (cL cI) v_.next),(11,zvI (↑v_.next.length:Int)),(12,zvN a2)] [] []) (fun a2=>lZ v_.next∧True) eZ (fun a2=>((zlH 10 rfl).and hT)) ?_;rintro k a2 o hp h ho236;unfold za6.s14 at h;obtain ⟨b8,_⟩:=hp;refine zzM h (fun b3 h a8=>?_) fun b3 h a8=>?_;refine zzI h fun a6 he238 h=>?_;refine zlF a6.length zal ?_;obtain ⟨oc,h,hk239⟩:=zlA h;refine zlJ oc (Y:=Unit) (fun (_:Unit)=>mkSt [(1,zvR (zco v_)),(10,zvL (cL cI) v_.next),(11,zvI (↑v_.next.length:Int)),(12,zvN a2)] [] []) (fun (_:Unit)=>lZ v_.next∧True) (by rintro ⟨⟩;exact ((zlH 10 rfl).and hT)) ?_ ?_;refine zzL h (fun a7=>mkSt [(1,zvR (zco v_)),(5,zvN a2),(10,zvL (cL cI) v_.next),(11,zvI (↑v_.next.length:Int)),(12,zvN a2),(17,zvL cI a6),(18,zvI (↑a6.length:Int)),(19,zvN a7)] [] []) (fun a7=>lZ v_.next∧lZ a6∧True) eZ (fun a7=>((zlH 10 rfl).and ((zlH 17 rfl).and hT))) ?_;rintro k a7 o hp h ho265;unfold za6.s13 at h;obtain ⟨b9,c0,_⟩:=hp;refine zzM h (fun b4 h b2=>?_) fun b4 h b2=>?_;refine zzI h fun b5 he267 h=>?_;obtain ⟨b6,hc268,h⟩:=zlA h;refine ⟨_,zjf v_.prefixes b5 b6 hc268,?_⟩;refine zzP h (fun b7 h=>?_) fun b7 h=>?_;cases h;cases zzF ho265;replace h:some _=some _:=hk239;cases h;cases zzF ho236;replace h:some _=some _:=hk51;cases h;exact ⟨rfl,rfl⟩;refine za8.mk (zzR_ (by omega)) ?_;cases h;exact zlK _ ho265 eZ;cases h;cases zzF ho265;exact zc0.mk' _ rfl eZ;rintro ⟨⟩ rfl hp;replace h:=zbm hk239;obtain ⟨c6,_⟩:=hp;refine za8.mk (zzR_ (by omega)) ?_;cases h;exact zlK _ ho236 eZ;cases h;cases zzF ho236;exact zc0.mk' _ rfl eZ;rintro ⟨⟩ rfl hp;replace h:=zbm hk51;cases h;exact ⟨rfl,rfl⟩
theorem zq7 (t_:zac) (o_:zad) (r:List Int×Bool×Int) (h:zgt t_ o_=some r):Sp Tryz.prog 36 [.im (.agg (zas t_)),.im (.agg (zbh o_))] (.tup [nL cI r.1,nB r.2.1,nI r.2.2]):=by
 refine zzS [700002,700003] fun hk=>?_;have z1:lZ t_.Prefixes:=zag (zlI hk.1 1 rfl);have z2:lZ t_.Suffixes:=zag (zlI hk.1 2 rfl);have z3:lZ o_.Traces:=zag (zlI hk.2.1 1 rfl);unfold zgt at h;obtain ⟨a6,hc51,h⟩:=zlA h;refine ⟨_,zlv t_ o_ a6 hc51,?_⟩;refine zlB rfl ?_;refine zzM h (fun a8 h a2=>?_) fun a8 h a2=>?_;cases h;exact ⟨rfl,rfl⟩;refine zlB rfl ?_;obtain ⟨a7,hc53,h⟩:=zlA h;refine ⟨_,zhs a6.1 a7 hc53,?_⟩;refine zzP h (fun b2 h=>?_) fun b2 h=>?_;cases h;exact ⟨rfl,rfl⟩;refine zzJ h fun b3 he55z he55 h=>?_;obtain ⟨b4,hc56,h⟩:=zlA h;refine ⟨_,zhu b3 a7.2.1 b4 hc56,?_⟩;cases h;exact ⟨rfl,rfl⟩
theorem zk9 (s1_:List Int) (s2_:List Int) (r:Bool) (h:zbn s1_ s2_=some r):Sp Tryz.prog 87 [.im (nL cI s1_),.im (nL cI s2_)] (.im (nB r)):=by
 refine zzS [] fun hk=>?_;have z1:lZ s1_:=zag hk.1;have z2:lZ s2_:=zag hk.2.1;unfold zbn at h;refine zlF s1_.length zal ?_;refine zlF s2_.length zal ?_;refine zzM h (fun b2 h a6=>?_) fun b2 h a6=>?_;cases h;exact ⟨rfl,rfl⟩;refine zlF s1_.length zal ?_;obtain ⟨oc,h,hk52⟩:=zlA h;refine zzV oc (mkSt [] [] []) hT ?_ ?_;refine zzL h (fun a2=>mkSt [(0,zvL cI s1_),(1,zvL cI s2_),(12,zvI (↑s1_.length:Int)),(13,zvN a2)] [] []) (fun a2=>lZ s1_∧lZ s2_∧True) eZ (fun a2=>((zlH 0 rfl).and ((zlH 1 rfl).and hT))) ?_;rintro k a2 o hp h ho78;unfold zbn.s2 at h;obtain ⟨b5,b6,_⟩:=hp;refine zzM h (fun b3 h a7=>?_) fun b3 h a7=>?_;refine zzI h fun b7 he80 h=>?_;refine zzI h fun b8 he81 h=>?_;refine zzM h (fun b4 h a8=>?_) fun b4 h a8=>?_;cases h;cases zzF ho78;replace h:some _=some _:=hk52;cases h;exact ⟨rfl,rfl⟩;refine za8.mk (zzR_ (by omega)) ?_;cases h;exact zlK _ ho78 eZ;cases h;cases zzF ho78;exact zc0.mk' _ rfl eZ;rintro ⟨⟩ rfl hp;replace h:=zbm hk52;cases h;exact ⟨rfl,rfl⟩
end Go.Proofs.YtbcommjbpmhdbaaGreatDoor.Sym

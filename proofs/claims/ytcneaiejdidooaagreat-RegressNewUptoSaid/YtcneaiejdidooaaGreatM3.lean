/-
 The plain reading at work: a function's contract out of its code; the steps of a walk; how values are written.
-/
import Derived.Test.YtcneaiejdidooaaGreatM2
import Derived.Test.YtcneaiejdidooaaGreatRows
import Derived.ProofKit
import Derived.OpenShut
import Derived.JoinedCond
import Derived.Deep.DeepHandedRow
import Derived.Deep.Slices
import Derived.WalkKit
import Derived.Deep.AppendLies
import Derived.Deep.Draws
import Derived.Maps.AppendAt
import Derived.Deep.QuietTactic
import Derived.BigQuiet
import Derived.WalkSpells
import Derived.Outline
import Derived.Lib.Hide
import Derived.Test.YtcneaiejdidooaaGreatProg
import Derived.Lib.AppendZeros
import Derived.Shelf.SlSortCmp.NoneTotal
import Derived.Lib.OwnBridge
import Derived.Laws.OwnMore
import Derived.Lib.BufferRead
import Derived.WalkSmall
import Derived.Shelf.SlSortCmp.Whole1
import Derived.Shelf.SlGeneric
import Derived.Ground.SlsfProg
set_option linter.all false
namespace Go.Proofs.YtcneaiejdidooaaGreat.Sym
open Go.RowKit
def OkOc:Oc→Prop
 | .im x=>Ok x
 | .ow (.row _ _ es)=>OkL es
 | .ow (.grid _ _ _ gs _)=>gs.length≤17592186044416
 | .ow _=>True
def OkOcs:List Oc→Prop
 | []=>True
 | c::l=>OkOc c∧OkOcs l
def OkA:Arg→Prop
 | .im x=>Ok x
 | .ow k=>OkOc (.ow k)
 | .box _ cs=>OkOcs cs
 | .lent k=>OkOc (.ow k)
def OkAs:List Arg→Prop
 | []=>True
 | x::l=>OkA x∧OkAs l
theorem okOc_of {w:World} {S:Nat→Prop} {u:Value}:∀ {c:Oc} {F:List Nat},OcOk w S u c F→OkOc c
 | .im x,_,h=>⟨w,S,u,h.1⟩
 | .ow (.row _ _ es),_,⟨_,_,⟨ws,h1,h2,h3,h4,h5,h6,h7⟩,_⟩=>⟨h3,ok_flat h5 h7⟩
 | .ow (.grid _ _ _ gs _),_,⟨_,_,⟨_,_,_,h,_⟩,_⟩=>h
 | .ow (.map _),_,_=>trivial
 | .ow .dead,_,_=>trivial
 | .ow (.box _ _),_,_=>trivial
theorem okOcs_of {w:World} {S:Nat→Prop}:∀ {us:List Value} {cs:List Oc} {F:List Nat},OcsOk w S us cs F→OkOcs cs
 | [],[],_,_=>trivial
 | _::_,_::_,_,⟨_,_,h1,h2,_⟩=>⟨okOc_of h1,okOcs_of h2⟩
 | [],_::_,_,h=>h.elim
 | _::_,[],_,h=>h.elim
theorem okA_of {w:World} {S:Nat→Prop} {u:Value}:∀ {x:Arg} {F:List Nat},ArgOk w S u x F→OkA x
 | .im x,_,h=>⟨w,S,u,h.1⟩
 | .ow k,_,h=>okOc_of (c:=.ow k) h
 | .box _ _,_,⟨_,_,_,_,_,_,h,_⟩=>okOcs_of h
 | .lent k,_,h=>okOc_of (c:=.ow k) h
theorem oks_of {w:World} {S:Nat→Prop}:∀ {us:List Value} {xs:List Arg} {F:List Nat},ArgsOk w S us xs F→OkAs xs
 | [],[],_,_=>trivial
 | _::_,_::_,_,⟨_,_,h1,h2,_⟩=>⟨okA_of h1,oks_of h2⟩
 | [],_::_,_,h=>h.elim
 | _::_,[],_,h=>h.elim
theorem sp_of {P:Program} {f:FuncId} {fn:Func} {c:Code} {xs:List Arg} {r:Rs} (hm:P.follows .mixedOrders=true) (own:List Nat) (hf:P.funcs[f]?=some fn) (hname:(fn.name=="runtime.NumGoroutine")=false) (hb:fn.body=some c)
  (hn:xs.length≤fn.ntmps) (hok:entOk xs=true) (h:OkAs xs→frcW (entW xs) 0 sig0 fun _ σ=>aCode P (SpX P) fn.ntmps own c (retK P fn.results.toList xs r) σ):Sp P f xs r :=
 sp_of_code hm (C:=SpX P) (fun _ _ _ h=>h) hf hname hb hn hok fun _ _ _ _ ha=>by
  have:=h (oks_of ha)
  rw [frcW_eq] at this
  exact this
theorem sp_ofA {P:Program} {f:FuncId} {fn:Func} {c:Code} {xs:List Arg} {r:Rs} (hm:P.follows .mixedOrders=true) (own:List Nat) (t:TypeId) (l:List Oc) (k:Nat) (hl:l.length+k=xs.length) (hf:P.funcs[f]?=some fn) (hname:(fn.name=="runtime.NumGoroutine")=false) (hb:fn.body=some c)
  (hn:xs.length≤fn.ntmps) (hn2:k+1≤fn.ntmps) (hok:entOk xs=true) (h:OkAs xs→frcW (entW xs) 0 sig0 fun m σ=>frcW (entA l.length k σ) m σ fun _ σ'=>aCode P (SpX P) fn.ntmps own c (retKA P t fn.results.toList xs r) σ'):SpX P f (.lent .dead::.box t l::xs) r :=
 sp_ofA_code hm (C:=SpX P) (fun _ _ _ h=>h) hf hname hb hl hn hn2 hok fun _ _ _ _ ha=>by
  have:=h (oks_of ha)
  rw [frcW_eq,frcW_eq] at this
  exact this
inductive FrzL:List Oc→List Oc→Prop
 | nil:FrzL [] []
 | keep (c:Oc) {l l':List Oc} (h:FrzL l l'):FrzL (c::l) (c::l')
 | row {e:TypeId} {k:Nat} {es:List (List IV)} {l l':List Oc} (h:FrzL l l'):FrzL (.ow (.row e k es)::l) (.im (.sl es)::l')
 | grid {e e':TypeId} {k:Nat} {gs:List (List IV)} {l l':List Oc} (h:FrzL l l'):FrzL (.ow (.grid e e' k gs none)::l) (.im (.sl gs)::l')
theorem RepI.up {w:World} {S S':Nat→Prop} (hS:∀ b,S b→S' b) {v:Value} {x:IV} (h:RepI w S v x):RepI w S' v x:=h.mono hS fun _ _ _ h=>h
theorem Sp.frz {P:Program} {g:FuncId} {xs:List Arg} {tp:Bool} {l l':List Oc} {ys:List Arg} (hl:FrzL l l') (h:Sp P g xs (.mk tp l ys)):Sp P g xs (.mk tp l' ys) :=
 ⟨h.1,fun w S vs F hS ha hn hF=>(h.2 w S vs F hS ha hn hF).mono fun e w' ⟨v,F',h1,h2,⟨us,F1,F2,h3,h4,h5,h6⟩,h7,h8⟩=>by
  subst h6
  rw [List.nodup_append] at h7
  -- the frozen blocks leave the footprint
  have hlt:∀ b∈F1,(w.heap.size≤b∨b∈F)∧b<w'.heap.size:=fun b hb=>h8 b (List.mem_append_left _ hb)
  have key:∀ (l l':List Oc),FrzL l l'→∀ (us:List Value) (F1:List Nat) (S:Nat→Prop),OcsOk w' S us l F1→F1.Nodup→∃ Fk,Fk.Sublist F1∧∀ (S':Nat→Prop),(∀ b,S b→S' b)→(∀ b∈F1,b∉Fk→S' b)→OcsOk w' S' us l' Fk:=by
   intro l l' hl
   induction hl with
   | nil =>
    intro us F1 S h _
    match us,h with
    | [],h=>exact ⟨[],List.nil_sublist _,fun _ _ _=>rfl⟩
   | keep c _ ih =>
    intro us F1 S h hnd
    match us,h with
    | u::us,⟨G1,G2,h1,h2,h3⟩ =>
     subst h3
     rw [List.nodup_append] at hnd
     obtain ⟨Fk,a1,a2⟩:=ih us G2 S h2 hnd.2.1
     exact ⟨G1++Fk,List.Sublist.append_left a1 _,fun S' hS hF=>⟨G1,Fk,h1.mono fun u x hr=>hr.up hS,a2 S' hS fun b hb hnb=>hF b (by simp [hb]) fun hm=>by
      rcases List.mem_append.1 hm with hm | hm
      ·exact hnd.2.2 b hm b hb rfl
      ·exact hnb hm,rfl⟩⟩
   | row _ ih =>
    intro us F1 S h hnd
    match us,h with
    | u::us,⟨G1,G2,⟨_,inn,h1,e1⟩,h2,h3⟩ =>
     subst h3
     rw [List.nodup_append] at hnd
     obtain ⟨Fk,a1,a2⟩:=ih us G2 S h2 hnd.2.1
     refine ⟨[]++Fk,(List.nil_append Fk).symm ▸ a1.trans (List.sublist_append_right _ _),fun S' hS hF=>⟨[],Fk,⟨RowOk.repI h1 (fun b hb=>?_) fun u x hr=>hr.up hS,rfl⟩,a2 S' hS fun b hb hnb=>hF b (by simp [hb]) (by simpa using hnb),rfl⟩⟩
     have hb1:b∈G1:=by rw [e1];simp [fpk,hb]
     exact ⟨hF b (by simp [hb1]) fun hm=>hnd.2.2 b hb1 b (a1.subset (by simpa using hm)) rfl,rfl⟩
   | grid _ ih =>
    intro us F1 S h hnd
    match us,h with
    | u::us,⟨G1,G2,⟨_,inn,h1,e1⟩,h2,h3⟩ =>
     subst h3
     rw [List.nodup_append] at hnd
     obtain ⟨Fk,a1,a2⟩:=ih us G2 S h2 hnd.2.1
     refine ⟨[]++Fk,(List.nil_append Fk).symm ▸ a1.trans (List.sublist_append_right _ _),fun S' hS hF=>⟨[],Fk,⟨GridOk.repI h1 (fun b hb=>?_) fun u x hr=>hr.up hS,rfl⟩,a2 S' hS fun b hb hnb=>hF b (by simp [hb]) (by simpa using hnb),rfl⟩⟩
     have hb1:b∈G1:=by rw [e1];exact hb
     exact ⟨hF b (by simp [hb1]) fun hm=>hnd.2.2 b hb1 b (a1.subset (by simpa using hm)) rfl,rfl⟩
  obtain ⟨Fk,a1,a2⟩:=key l l' hl us F1 _ h4 h7.1
  have hsub:∀ b,b∈Fk++F2→b∈F1++F2:=fun b hb=>by
   rcases List.mem_append.1 hb with hb | hb
   ·exact List.mem_append_left _ (a1.subset hb)
   ·exact List.mem_append_right _ hb
  have hup:∀ b,((S b∨w.heap.size≤b∨b∈F)∧b<w'.heap.size∧b∉F1++F2)→((S b∨w.heap.size≤b∨b∈F)∧b<w'.heap.size∧b∉Fk++F2):=fun b hb=>⟨hb.1,hb.2.1,fun hm=>hb.2.2 (hsub b hm)⟩
  refine ⟨v,Fk++F2,h1,h2,⟨us,Fk,F2,h3,a2 _ hup fun b hb hnb=>⟨.inr (hlt b hb).1,(hlt b hb).2,fun hm=>?_⟩,h5.mono fun u x hr=>hr.up hup,rfl⟩,?_,fun b hb=>h8 b (hsub b hb)⟩
  ·rcases List.mem_append.1 hm with hm | hm
   ·exact hnb hm
   ·exact h7.2.2 b hb b hm rfl
  ·rw [List.nodup_append]
   exact ⟨a1.nodup h7.1,h7.2.1,fun x hx y hy=>h7.2.2 x (a1.subset hx) y hy⟩⟩
theorem Sp.im {P:Program} {g:FuncId} {xs:List Arg} {e:TypeId} {k:Nat} {es:List (List IV)} (h:Sp P g xs (.row e k es)):Sp P g xs (.im (.sl es)):=Sp.frz (.row .nil) h
theorem Sp.args {P:Program} {g:FuncId} {xs ys:List Arg} {r:Rs} (h:Sp P g xs r) (e:ys=xs):Sp P g ys r:=e ▸ h
theorem Sp.rs {P:Program} {g:FuncId} {xs:List Arg} {r r':Rs} (h:Sp P g xs r) (e:r=r'):Sp P g xs r':=e ▸ h
abbrev cI (x:Int):List IV:=[.val (.int .i64 x)]
abbrev cB (x:Bool):List IV:=[.val (.bool x)]
abbrev cL {α:Type} (c:α→List IV) (l:List α):List IV:=[.sl (l.map c)]
abbrev nI (n:Int):IV:=.val (.int .i64 n)
abbrev nB (b:Bool):IV:=.val (.bool b)
abbrev nL {α:Type} (c:α→List IV) (l:List α):IV:=.sl (l.map c)
instance (n:Int):Decidable (inR n):=by unfold inR;infer_instance
instance (n b:Nat):Decidable (capOk n b):=by unfold capOk;infer_instance
def fuel:Nat:=1000000000000000000000
section
variable {α β:Type}
def chk (c:Prop) [Decidable c] (k:Option α):Option α:=if c then k else none
def idx (l:List α) (n:Int) (k:α→Option β):Option β:=if 0≤n then (match l[n.toNat]? with | some x=>k x | none=>none) else none
theorem chk_some {c:Prop} [Decidable c] {k:Option α} {r:α} (h:chk c k=some r):c∧k=some r:=by
 unfold chk at h
 split at h
 ·exact ⟨‹_›,h⟩
 ·cases h
theorem idx_some {l:List α} {n:Int} {k:α→Option β} {r:β} (h:idx l n k=some r):∃ x,0≤n∧l[n.toNat]?=some x∧k x=some r:=by
 unfold idx at h
 split at h
 ·split at h
  ·rename_i x hx
   exact ⟨x,‹_›,hx,h⟩
  ·cases h
 ·cases h
theorem bind_some {o:Option α} {f:α→Option β} {r:β} (h:o.bind f=some r):∃ x,o=some x∧f x=some r:=by
 cases o with
 | none=>cases h
 | some x=>exact ⟨x,rfl,h⟩
theorem sum_inl {Y Z R:Type} {f:Y→Option R} {g:Z→Option R} {y:Y} {r:R} (h:Sum.elim f g (.inl y)=some r):f y=some r:=h
theorem cond_t {b:Bool} {x y z:α} (hb:b=true) (h:cond b x y=z):x=z:=by rw [hb] at h;exact h
theorem cond_f {b:Bool} {x y z:α} (hb:b=false) (h:cond b x y=z):y=z:=by rw [hb] at h;exact h
def idxn (l:List α) (n:Nat) (k:α→Option β):Option β:=match l[n]? with | some x=>k x | none=>none
theorem zac {l:List α} {n:Nat} {k:α→Option β} {r:β} (h:idxn l n k=some r):∃ x,l[n]?=some x∧k x=some r:=by
 unfold idxn at h
 split at h
 ·rename_i x hx
  exact ⟨x,hx,h⟩
 ·cases h
theorem beq_tt {b:Bool} (h:(b==true)=true):b=true:=by cases b<;>simp_all
theorem beq_tf {b:Bool} (h:(b==true)=false):b=false:=by cases b<;>simp_all
theorem beq_ff {b:Bool} (h:(b==false)=true):b=false:=by cases b<;>simp_all
theorem beq_ft {b:Bool} (h:(b==false)=false):b=true:=by cases b<;>simp_all
theorem tt_beq {b:Bool} (h:b=true):(b==true)=true:=by rw [h];rfl
theorem ff_beq {b:Bool} (h:b=false):(b==false)=true:=by rw [h];rfl
theorem tf_beq {b:Bool} (h:b=true):(b==false)=false:=by rw [h];rfl
theorem ft_beq {b:Bool} (h:b=false):(b==true)=false:=by rw [h];rfl
theorem map_at {l:List α} {c:α→β} {i:Nat} {x:α} (h:l[i]?=some x):(l.map c)[i]?=some (c x):=by rw [List.getElem?_map,h];rfl
theorem map_lt {l:List α} {c:α→β} {i:Nat} {x:α} (h:l[i]?=some x):i<(l.map c).length:=by
 rw [List.length_map]
 exact (List.getElem?_eq_some_iff.1 h).1
theorem map_len {l:List α} {c:α→List β} {k:Nat} (h:∀ x,(c x).length=k):∀ e∈l.map c,e.length=k:=fun e he=>by
 obtain ⟨x,_,rfl⟩:=List.mem_map.1 he
 exact h x
theorem len_map {l:List α} {c:α→β}:l.length=(l.map c).length:=(List.length_map _).symm
theorem app_map {l m:List α} {c:α→β}:(l++m).map c=l.map c++m.map c:=List.map_append
theorem take_map {l:List α} {c:α→β} {n:Nat}:(l.take n).map c=((l.map c).take n).drop 0:=by rw [List.map_take];rfl
theorem set_map {l:List α} {c:α→List β} {i:Nat} {x y:α} {j:Nat} {xs:List β} (h:c y=splice (c x) j xs):(l.set i y).map c=(l.map c).set i (splice (c x) j xs):=by rw [List.map_set,h]
end
abbrev wI (n:Int):Value:=.int .i64 n
section
variable {κ ν:Type}
def mapV (f:κ→Value) (g:ν→Value) (m:List (κ×ν)):List (Value×Value):=m.map fun p=>(f p.1,g p.2)
def mget [BEq κ] (k:κ):List (κ×ν)→Option ν
 | []=>none
 | p::m=>match k==p.1 with | true=>some p.2 | false=>mget k m
def mset [BEq κ] (k:κ) (v:ν):List (κ×ν)→List (κ×ν)
 | []=>[(k,v)]
 | p::m=>match k==p.1 with | true=>(k,v)::m | false=>p::mset k v m
theorem get_arr (ks:List Int) (g:ν→Value):∀ m:List (List Int×ν),getA ks (m.map fun p=>(p.1,g p.2))=(mget ks m).map g
 | []=>rfl
 | p::m=>by
  rw [List.map_cons]
  unfold getA mget
  rw [show (ks==p.1)=decide (ks=p.1) from by rw [Bool.eq_iff_iff];simp]
  simp only
  cases decide (ks=p.1) with
  | true=>rfl
  | false=>exact get_arr ks g m
theorem set_arr (ks:List Int) (v:ν) (g:ν→Value):∀ m:List (List Int×ν),setA ks (g v) (m.map fun p=>(p.1,g p.2))=(mset ks v m).map fun p=>(p.1,g p.2)
 | []=>rfl
 | p::m=>by
  rw [List.map_cons]
  unfold setA mset
  rw [show (ks==p.1)=decide (ks=p.1) from by rw [Bool.eq_iff_iff];simp]
  simp only
  cases decide (ks=p.1) with
  | true=>rfl
  | false=>simp only [set_arr ks v g m];rfl
def cA (l:List Int):List IV:=l.map fun c=>.val (.int .i64 c)
theorem flat_cA {l:List Int}:cA l=(l.map cI).flatten:=by
 induction l with
 | nil=>rfl
 | cons c l ih=>rw [List.map_cons,List.flatten_cons,← ih];rfl
theorem len_mapV {κ ν:Type} {f:κ→Value} {g:ν→Value} {m:List (κ×ν)}:m.length=(mapV f g m).length:=(List.length_map _).symm
theorem keys_arr {n:Nat} {cs:List IV} {ks:List Int} {g:ν→Value} {m:List (List Int×ν)} (hc:cs=ks.map fun c=>.val (.int .i64 c)) (hn:ks.length=n∧∀ p∈m,p.1.length=n):KeysA n cs (mapV wA g m) ks (m.map fun p=>(p.1,g p.2)) :=
 ⟨hc,hn.1,by unfold mapV;rw [List.map_map];rfl,fun p hp=>by obtain ⟨q,hq,rfl⟩:=List.mem_map.1 hp;exact hn.2 q hq⟩
theorem mapA_set (g:ν→Value) (m:List (List Int×ν)):mapV wA g m=(m.map fun p=>(p.1,g p.2)).map fun p=>(wA p.1,p.2):=by unfold mapV;rw [List.map_map];rfl
theorem getD_map {g:ν→Value} {d:ν} {z:Value} (h:g d=z) (o:Option ν):g (o.getD d)=(o.map g).getD z:=by cases o<;>simp [h]
theorem isSome_map {g:ν→Value} (o:Option ν):o.isSome=(o.map g).isSome:=by cases o<;>rfl
theorem clr_map {α β:Type} {c:α→β} {z:α} {e:β} {l:List α} {k:Nat} (hc:c z=e):(l.take k++List.replicate (l.length-k) z).map c=(l.map c).take k++List.replicate ((l.map c).length-k) e:=by rw [List.map_append,List.map_take,List.map_replicate,List.length_map,hc]
theorem cpy_map {α β:Type} {c:α→β} {l m:List α}:(l.take m.length++m.drop l.length).map c=(l.map c).take (m.map c).length++(m.map c).drop (l.map c).length:=by rw [List.map_append,List.map_take,List.map_drop,List.length_map,List.length_map]
theorem cut_own {α β:Type} {c:α→β} {l:List α} {k:Nat}:(l.take k).map c=(l.map c).take k:=List.map_take
theorem len_own {α β:Type} {c:α→β} {l:List α} {k:Nat}:l.length-k=(l.map c).length-k:=by rw [List.length_map]
theorem rep_map {α β:Type} {c:α→β} {z:α} {e:β} {n m:Nat} (h:n=m) (hc:c z=e):(List.replicate n z).map c=List.replicate m e:=by rw [List.map_replicate,h,hc]
end
theorem flat_one {v:Value}:flatRs (.mk false [.im (.val v)] []):=⟨fun c hc=>by rcases List.mem_singleton.1 hc with rfl;exact ⟨v,rfl⟩,fun y hy=>by cases hy⟩
theorem ok_len {α:Type} {c:α→List IV} {l:List α} (h:Ok (.sl (l.map c))):l.length≤17592186044416:=by have:=h.sl.1;rwa [List.length_map] at this
theorem okl_len {α:Type} {c:α→List IV} {l:List α} (h:OkL (l.map c)):l.length≤17592186044416:=by have:=h.1;rwa [List.length_map] at this
theorem Holds.avl {σ:St} {α:Type} {c:α→List IV} {l:List α} (t:Nat) (h:σ.av t=.im (.sl (l.map c))):Holds σ (l.length≤17592186044416):=(Holds.av t h).mono ok_len
theorem Holds.cel {σ:St} {α:Type} {c:α→List IV} {l:List α} (o i:Nat) {t:TypeId} {m:Nat} (hk:σ.kd o=.box t m) (hi:i<m) (h:σ.ce o i=.im (.sl (l.map c))):Holds σ (l.length≤17592186044416):=(Holds.ce o i hk hi h).mono ok_len
theorem zjo {α:Type} {c:α→List IV} {g:List (List α)} {i:Nat} {r:List α}:(g.set i r).map (cL c)=(g.map (cL c)).set i [.sl (r.map c)]:=by rw [List.map_set]
theorem set_grid2 {α:Type} {c:α→List IV} {g:List (List α)} {i j k:Nat} {ev:List α} {x y:α} {xs:List IV} (h:c y=splice (c x) k xs):(g.set i (ev.set j y)).map (cL c)=(g.map (cL c)).set i [.sl ((ev.map c).set j (splice (c x) k xs))]:=by
 rw [← h,List.map_set]
 show (g.map (cL c)).set i [.sl ((ev.set j y).map c)]=_
 rw [List.map_set]
theorem Holds.kdg {σ:St} {α:Type} {c:α→List IV} {l:List α} (o:Nat) {e e':TypeId} {k:Nat} {q:Option Nat} (hk:σ.kd o=.grid e e' k (l.map c) q):Holds σ (l.length≤17592186044416):=fun B a w ⟨ρ,hs⟩=>by
 have ho:=hs.obs o
 rw [hk] at ho
 obtain ⟨_,_,us,h,_⟩:=ho
 simpa using h
theorem Holds.kdl {σ:St} {α:Type} {c:α→List IV} {l:List α} (o:Nat) {t:TypeId} {k:Nat} (hk:σ.kd o=.row t k (l.map c)):Holds σ (l.length≤17592186044416):=(Holds.kd o hk).mono okl_len
def JoinS {Y Z:Type} (oc:Y⊕Z) (st:Y→St) (σ':St):Prop:=∃ y,oc=.inl y∧Ent σ' (st y)
theorem Cut.mkS {Y Z:Type} (oc:Y⊕Z) (st:Y→St) (φ:Y→Prop) {body:(St→Prop)→Prop} {rest:St→Prop} (hφ:∀ y,Holds (st y) (φ y)) (h:body (JoinS oc st)) (k:∀ y,oc=.inl y→φ y→rest (st y)):Cut body rest:=by
 unfold Cut
 have e:JoinS oc st=fun σ'=>∃ σ1,Ent σ' σ1∧∃ y,oc=.inl y∧σ1=st y:=funext fun σ'=>propext ⟨fun ⟨y,h1,h2⟩=>⟨_,h2,y,h1,rfl⟩,fun ⟨σ1,h1,y,h2,h3⟩=>⟨y,h2,h3 ▸ h1⟩⟩
 rw [e] at h
 refine ⟨fun σ1=>∃ y,oc=.inl y∧σ1=st y,h,?_⟩
 rintro σ ⟨y,h1,rfl⟩
 exact ⟨φ y,hφ y,k y h1⟩
attribute [irreducible] JoinS
theorem JoinS.mk' {Y Z:Type} {oc:Y⊕Z} {st:Y→St} {σ':St} (y:Y) (h:oc=.inl y) (e:Ent σ' (st y)):JoinS oc st σ':=by unfold JoinS;exact ⟨y,h,e⟩
end Go.Proofs.YtcneaiejdidooaaGreat.Sym

namespace Go.Proofs.YtcneaiejdidooaaGreat.Sym
open Go.RowKit
set_option maxRecDepth 100000
set_option linter.unusedVariables false
set_option maxHeartbeats 4000000
structure zaa where
 Inputs:Int
 Start:Int
 Next:List (List Int)
 Out:List (List Int)
 deriving DecidableEq
def zab (s:zaa):List IV:=[nI s.Inputs,nI s.Start,nL (cL cI) s.Next,nL (cL cI) s.Out]
structure zhf where
 Step:List Int
 Reset:Int
 deriving DecidableEq
structure zej where
 Lost:Int
 Wrong:Int
 Crash:Int
 deriving DecidableEq
structure za7 where
 M:zaa
 State:Int
 Ready:Bool
 Latency:zhf
 Faults:zej
 Seed:Int
 Steps:Int
 Resets:Int
 Time:Int
 deriving DecidableEq
structure zad where
 In:List Int
 Out:List Int
 deriving DecidableEq
def zak (s:zad):List IV:=[nL cI s.In,nL cI s.Out]
structure zbv where
 Inputs:Int
 Traces:List zad
 deriving DecidableEq
structure zb6 where
 Device:za7
 Obs:zbv
 Votes:Int
 Tries:Int
 Asked:Int
 Hits:Int
 deriving DecidableEq
structure T_api_Table where
 Inputs:Int
 Prefixes:List (List Int)
 Suffixes:List (List Int)
 deriving DecidableEq
structure zbh where
 M:zaa
 Words:List (List Int)
 deriving DecidableEq
def zgq (s:zbh):List IV:=[nI s.M.Inputs,nI s.M.Start,nL (cL cI) s.M.Next,nL (cL cI) s.M.Out,nL (cL cI) s.Words]
structure zaf where
 Run:Int
 Changes:List zad
 deriving DecidableEq
def zca (s:zaf):List IV:=[nI s.Run,nL zak s.Changes]
structure zir where
 Inputs:Int
 Abstract:Int
 Start:Int
 Next:List (List Int)
 Sym:List (List Int)
 deriving DecidableEq
structure T_api_Clash where
 Word:List Int
 First:Int
 Second:Int
 deriving DecidableEq
structure T_api_Hyp where
 M:zaa
 Access:List (List Int)
 deriving DecidableEq
structure T_api_Part where
 Inputs:Int
 Start:Int
 Next:List (List Int)
 Out:List (List Int)
 deriving DecidableEq
structure zls where
 Inputs:Int
 Short:List (List Int)
 Suffixes:List (List Int)
 deriving DecidableEq
structure T_api_Split where
 Prefix:List Int
 Symbol:Int
 Suffix:List Int
 deriving DecidableEq
structure T_learnerlaw28_Case where
 M:zaa
 O:zbv
 L:zls
 S:T_api_Split
 deriving DecidableEq
structure T_learnerlaw35_Parts where
 P:T_api_Part
 W:List Int
 S:Int
 T:Int
 Out:Int
 deriving DecidableEq
structure zbt where
 Mealy:zaa
 deriving DecidableEq
def zfr (s:zbt):List IV:=[nI s.Mealy.Inputs,nI s.Mealy.Start,nL (cL cI) s.Mealy.Next,nL (cL cI) s.Mealy.Out]
structure zbj where
 machine:zbt
 at_:Int
 deriving DecidableEq
structure T_api_Mutation where
 Kind:Int
 State:Int
 Input:Int
 Value:Int
 Value2:Int
 deriving DecidableEq
structure zay where
 m:zaa
 report:zaf
 deriving DecidableEq
structure T_table_view where
 rows:List (List (List Int))
 prefixes:List Int
 next:List (List Int)
 number:List (ByteArray×Int)
 deriving DecidableEq
structure T_refine_reached where
 m:zaa
 states:List Int
 words:List (List Int)
 class_:List Int
 deriving DecidableEq
structure T_mapper_set where
 list:List Int
 word:List Int
 deriving DecidableEq
structure T_mapper_builder where
 m:zaa
 p:zir
 sets:List T_mapper_set
 of:List (ByteArray×Int)
 deriving DecidableEq
structure T_evidence_candidate where
 score:Int
 blue:Int
 red:Int
 deriving DecidableEq
structure T_lazy_reader where
 l:zls
 o:zbv
 missing:List (List Int)
 long:Bool
 deriving DecidableEq
structure T_nondet_group where
 word:List Int
 before:List Int
 least:List Int
 deriving DecidableEq
structure T_device_unit where
 Device:za7
 deriving DecidableEq
structure zbu where
 s:Int
 t:Int
 deriving DecidableEq
def zeg (s:zbu):List IV:=[nI s.s,nI s.t]
structure T_mapper_runner where
 Mapper:zir
 state:Int
 deriving DecidableEq
structure zap where
 state:Int
 word:List Int
 deriving DecidableEq
def zb4 (s:zap):List IV:=[nI s.state,nL cI s.word]
structure T_A2 where
 f0:Int
 f1:Int
 deriving DecidableEq
structure T_merge_blocks_int_ where
 up:List (Int×Int)
 deriving DecidableEq
structure zar where
 at_:zbu
 word:List Int
 deriving DecidableEq
def zci (s:zar):List IV:=[nI s.at_.s,nI s.at_.t,nL cI s.word]
structure T_A2_api_Mealy where
 f0:zaa
 f1:zaa
 deriving DecidableEq
structure zai where
 S:Int
 T:Int
 Word:List Int
 deriving DecidableEq
def zbm (s:zai):List IV:=[nI s.S,nI s.T,nL cI s.Word]
structure T_api_DNode where
 Leaf:Bool
 Access:List Int
 Suffix:List Int
 Outs:List (List Int)
 Kids:List Int
 deriving DecidableEq
structure T_api_DTree where
 Nodes:List T_api_DNode
 deriving DecidableEq
structure zjk where
 Inputs:Int
 Tree:T_api_DTree
 deriving DecidableEq
structure T_treelearn_learner where
 TreeState:zjk
 o:zbv
 deriving DecidableEq
structure T_analyze_subject where
 h:T_api_Hyp
 o:zbv
 w:List Int
 states:List Int
 outs:List Int
 deriving DecidableEq
structure T_treelearn_extension where
 w:List Int
 node:Int
 deriving DecidableEq
end Go.Proofs.YtcneaiejdidooaaGreat.Sym

/-
 Of a seat without tables: what the rows ask of the program as a whole.
-/
namespace Go.Proofs.YtcneaiejdidooaaGreat
open Go.ChangeShapes Go.WideShapes Go.ChangeAt Go.RowKit
theorem Tryz.own:ownKnob Tryz.prog.godebug=none:=by kernel_rfl
theorem Tryz.laidOut:laidOutB Tryz.prog=true:=by kernel_rfl
end Go.Proofs.YtcneaiejdidooaaGreat

/-
 What the arguments read as in plain words, with the bound of the second form. No walk.
-/
namespace Go.Proofs.YtcneaiejdidooaaGreat.Sym
open Go.ChangeShapes Go.WideShapes Go.ChangeAt Go.RowKit Go.Deep
set_option maxRecDepth 100000
section
variable {H:Type} {enc:TypeId×Value→H} {W:World} {α β:Type}
theorem bulk_pos (d:DataW H):1≤Rows.uptoBulk d:=by
 cases d with
 | lit l=>cases l<;>simp [Rows.uptoBulk]
 | nil=>simp [Rows.uptoBulk]
 | ptr d=>simp [Rows.uptoBulk]
 | slice elems spare=>simp [Rows.uptoBulk]
 | agg parts=>simp [Rows.uptoBulk]
 | iface t d=>simp [Rows.uptoBulk]
 | map entries=>simp [Rows.uptoBulk]
 | held h=>simp [Rows.uptoBulk]
theorem bulk_mem {d:DataW H} {l:List (DataW H)} (h:d∈l):Rows.uptoBulk d≤Rows.uptoBulkAll l:=by
 induction l with
 | nil=>cases h
 | cons x r ih =>
  simp only [Rows.uptoBulkAll]
  rcases List.mem_cons.1 h with e | e
  ·subst e;omega
  ·have:=ih e;omega
theorem zky (l r:List (DataW H)):Rows.uptoBulkAll (l++r)=Rows.uptoBulkAll l+Rows.uptoBulkAll r:=by
 induction l with
 | nil=>simp [Rows.uptoBulkAll]
 | cons x l ih=>simp only [List.cons_append,Rows.uptoBulkAll,ih];omega
theorem bulk_length (l:List (DataW H)):l.length≤Rows.uptoBulkAll l:=by
 induction l with
 | nil=>simp [Rows.uptoBulkAll]
 | cons x r ih=>have:=bulk_pos x;simp only [Rows.uptoBulkAll,List.length_cons];omega
theorem bulk_small {l:List (DataW H)} (hk:Rows.uptoSmall H l=true):Rows.uptoBulkAll l≤1048576:=by
 simpa [Rows.uptoSmall] using hk
def lowS (W:World):Nat→Prop:=fun b=>b<W.heap.size
def Opn (W:World) (enc:TypeId×Value→H) (t:TypeId) (c:α→List IV) (sz:α→Nat) (ok:α→Prop):Prop :=
 ∀ (fuel:Nat) (cs:List Value) (d:DataW H) (ps:List MemPlace),DataW.trod enc Tryz.prog W 0 (fun _=>true) true fuel t cs=some (d,ps)→Rows.uptoBulk d≤1048576 →
  ∃ x,RepIs W (lowS W) cs (c x)∧(∀ u∈cs,u.oneCell'=true)∧sz x≤Rows.uptoBulk d∧ok x
def sz1 {α:Type} (_:α):Nat:=1
def szL (sz:α→Nat) (l:List α):Nat:=(l.map sz).sum+1
def okL (ok:α→Prop) (l:List α):Prop:=∀ x∈l,ok x
def okT {α:Type} (_:α):Prop:=True
theorem opn_int:Opn W enc 3 cI sz1 inR:=by
 intro fuel cs d ps h hd
 cases fuel with
 | zero=>simp [DataW.trod] at h
 | succ f =>
  unfold DataW.trod at h
  rw [Tryz.underlying3] at h
  split at h<;>try (cases h;done)
  all_goals (try (rename_i e;cases e;done))
  rename_i k k' n e
  injection e with e
  injection e with e
  subst e
  split at h
  ·rename_i hw
   injection h with h
   injection h with h1 h2
   subst h1
   obtain ⟨rfl,hw⟩:=hw
   refine ⟨n,⟨rfl,fun i u x hu hx=>?_⟩,fun u hu=>?_,by simp [sz1,Rows.uptoBulk],?_⟩
   ·match i,hu,hx with
    | 0,hu,hx =>
     simp at hu hx
     subst hu hx
     exact .val _
   ·rcases List.mem_singleton.1 hu with rfl
    rfl
   ·simp [Lit.wf,IntKind.min,IntKind.max,IntKind.wrap,IntKind.bits,IntKind.signed] at hw
    unfold inR
    omega
  ·cases h
theorem opn_elems {t:TypeId} {c:α→List IV} {sz:α→Nat} {ok:α→Prop} {k b o:Nat} (hc:∀ x,(c x).length=k) (D:Nat→DataW H):∀ (n:Nat),
  (∀ i,i<n→∃ (x:α) (cs:List Value),(∀ j,j<k→W.cell? ⟨b,o+(i*k+j),none⟩=cs[j]?)∧RepIs W (lowS W) cs (c x)∧(∀ u∈cs,u.oneCell'=true)∧sz x≤Rows.uptoBulk (D i)∧ok x) →
  ∃ (xs:List α) (us:List Value),xs.length=n∧us.length=n*k∧(∀ (i:Nat) u,us[i]?=some u→W.cell? ⟨b,o+i,none⟩=some u)∧RepIs W (lowS W) us (xs.map c).flatten∧(∀ u∈us,u.oneCell'=true) ∧
   (xs.map sz).sum≤Rows.uptoBulkAll ((List.range n).map D)∧∀ x∈xs,ok x
 | 0,_=>⟨[],[],rfl,by simp,by simp,⟨rfl,by simp⟩,by simp,by simp,by simp⟩
 | n+1,h=>by
  obtain ⟨xs,us,h1,h2,h3,h4,h5,h6,h7⟩:=opn_elems (t:=t) hc D n fun i hi=>h i (by omega)
  obtain ⟨x,cs,g1,g2,g3,g4,g5⟩:=h n (by omega)
  have hcl:cs.length=k:=by rw [g2.1,hc]
  have hfl:(xs.map c).flatten.length=n*k:=by rw [← h4.1,h2]
  refine ⟨xs++[x],us++cs,by simp [h1],by rw [List.length_append,h2,hcl,Nat.add_mul];omega,fun i u hu=>?_,⟨?_,fun i u y hu hy=>?_⟩,fun u hu=>?_,?_,fun y hy=>?_⟩
  ·rw [List.getElem?_append] at hu
   split at hu
   ·exact h3 i u hu
   ·rename_i hlt
    have hj:=(List.getElem?_eq_some_iff.1 hu).1
    have:=g1 (i-us.length) (by omega)
    rw [hu,show o+(n*k+(i-us.length))=o+i by omega] at this
    exact this
  ·rw [List.map_append,List.flatten_append,List.length_append,List.length_append,h4.1]
   simp [g2.1]
  ·rw [List.map_append,List.flatten_append,List.getElem?_append] at hy
   rw [List.getElem?_append] at hu
   by_cases hlt:i<us.length
   ·rw [if_pos hlt] at hu
    rw [if_pos (by rw [hfl,← h2];exact hlt)] at hy
    exact h4.2 i u y hu hy
   ·rw [if_neg hlt] at hu
    rw [if_neg (by rw [hfl,← h2];exact hlt),hfl,← h2] at hy
    simp only [List.map_cons,List.map_nil,List.flatten_cons,List.flatten_nil,List.append_nil] at hy
    exact g2.2 _ u y hu hy
  ·rcases List.mem_append.1 hu with hu | hu
   ·exact h5 u hu
   ·exact g3 u hu
  ·rw [List.range_succ,List.map_append,List.map_append,List.sum_append,zky]
   simp only [List.map_cons,List.map_nil,List.sum_cons,List.sum_nil,Rows.uptoBulkAll]
   omega
  ·rcases List.mem_append.1 hy with hy | hy
   ·exact h7 y hy
   ·rcases List.mem_singleton.1 hy with rfl
    exact g5
theorem opn_slice {t e:TypeId} {c:α→List IV} {sz:α→Nat} {ok:α→Prop} {k:Nat} (ht:Tryz.prog.underlying t=some (.slice e)) (hk:Tryz.prog.cellsOf e=k) (hk0:0<k) (hc:∀ x,(c x).length=k) (O:Opn W enc e c sz ok) :
  Opn W enc t (cL c) (szL sz) (okL ok):=by
 intro fuel cs d ps h hd
 rcases open_slice ht h with ⟨rfl,hx⟩ | ⟨a,len,cap,m,n,D,Pl,rfl,_,hl,_,hm,hx,hel⟩
 ·injection hx with hx1 hx2
  subst hx1
  refine ⟨[],⟨rfl,fun i u x hu hx=>?_⟩,fun u hu=>?_,by simp [szL,Rows.uptoBulk],fun x hx=>by cases hx⟩
  ·match i,hu,hx with
   | 0,hu,hx =>
    simp at hu hx
    subst hu hx
    exact .emp _ _
  ·rcases List.mem_singleton.1 hu with rfl
   rfl
 ·injection hx with hx1 hx2
  subst hx1
  simp only [if_true] at hm
  subst hm
  have hbulk:Rows.uptoBulkAll ((List.range len).map D)+1≤Rows.uptoBulk (.slice ((List.range len).map D) ((List.range (m-len)).map fun j=>D (len+j))):=by
   simp only [Rows.uptoBulk];omega
  have hlen:len≤1048576:=by
   have:=bulk_length ((List.range len).map D)
   simp at this
   omega
  by_cases h0:len=0
  ·subst h0
   refine ⟨[],⟨rfl,fun i u x hu hx=>?_⟩,fun u hu=>?_,by simp [szL,Rows.uptoBulk],fun x hx=>by cases hx⟩
   ·match i,hu,hx with
    | 0,hu,hx =>
     simp at hu hx
     subst hu hx
     exact .emp _ _
   ·rcases List.mem_singleton.1 hu with rfl
    rfl
  ·obtain ⟨ab,ao,asp⟩:=a
   rw [hk] at hel
   have hsp:asp=none:=by
    obtain ⟨cs',h1,_⟩:=hel 0 (by omega)
    obtain ⟨_,hl',hcell⟩:=World.cells?_some h1
    have h2:=hcell 0 hk0
    rw [List.getElem?_eq_getElem (by omega)] at h2
    unfold World.cell? Addr.add at h2
    simp only [Nat.zero_mul,if_true] at h2
    cases asp with
    | none=>rfl
    | some q =>
     simp at h2
     split at h2<;>simp at h2
   subst hsp
   obtain ⟨xs,us,h1,h2,h3,h4,h5,h6,h7⟩:=opn_elems (W:=W) (t:=e) (sz:=sz) (ok:=ok) (b:=ab) (o:=ao) hc D len fun i hi=>by
    obtain ⟨cs',e1,e2⟩:=hel i (by omega)
    obtain ⟨_,hl',hcell⟩:=World.cells?_some e1
    obtain ⟨x,r1,r2,r3,r4⟩:=O _ _ _ _ e2 (Nat.le_trans (bulk_mem (List.mem_map.2 ⟨i,List.mem_range.2 hi,rfl⟩)) (by omega))
    refine ⟨x,cs',fun j hj=>?_,r1,r2,r3,r4⟩
    have:=hcell j hj
    rw [addr_add,addr_add,Nat.add_assoc] at this
    exact this
   have hblk:ab<W.heap.size:=by
    have hu0:0<us.length:=by rw [h2];exact Nat.mul_pos (by omega) hk0
    exact World.block_lt_of_cell? W _ (h3 0 _ (List.getElem?_eq_getElem hu0))
   refine ⟨xs,⟨rfl,fun i u x hu hx=>?_⟩,fun u hu=>?_,?_,h7⟩
   ·match i,hu,hx with
    | 0,hu,hx =>
     simp at hu hx
     subst hu hx
     refine .sl ab ao m k len (xs.map c) us (by simp [h1]) (fun e he=>by obtain ⟨y,_,rfl⟩:=List.mem_map.1 he;exact hc y) hl (by omega) hblk h4.1 h5 h3 h4.2
   ·rcases List.mem_singleton.1 hu with rfl
    rfl
   ·show (xs.map sz).sum+1≤_
    omega
def OpnFs (W:World) (enc:TypeId×Value→H) (fs:List Field) (off len:Nat) (c:α→List IV) (sz:α→Nat) (ok:α→Prop):Prop :=
 ∀ (n:Nat) (cs:List Value) (xs:List (DataW H×List MemPlace)),xs.length=fs.length →
  (∀ (i:Nat) f,fs[i]?=some f→DataW.trod enc Tryz.prog W 0 (fun _=>true) true n f.type ((cs.drop f.offset).take (Tryz.prog.cellsOf f.type))=xs[i]?)→Rows.uptoBulkAll (xs.map (·.1))≤1048576 →
  ∃ x,RepIs W (lowS W) ((cs.drop off).take len) (c x)∧(∀ u∈(cs.drop off).take len,u.oneCell'=true)∧sz x≤Rows.uptoBulkAll (xs.map (·.1))∧ok x
theorem opnFs_nil {off:Nat}:OpnFs W enc [] off 0 (fun _:Unit=>[]) (fun _=>0) okT:=by
 intro n cs xs hx h hb
 exact ⟨(),⟨by simp,by simp⟩,by simp,Nat.zero_le _,trivial⟩
theorem zgk {f:Field} {fs:List Field} {off k len:Nat} {c1:α→List IV} {c2:β→List IV} {s1:α→Nat} {s2:β→Nat} {ok1:α→Prop} {ok2:β→Prop} (ho:f.offset=off) (hk:Tryz.prog.cellsOf f.type=k)
  (O:Opn W enc f.type c1 s1 ok1) (hc:∀ x,(c1 x).length=k) (R:OpnFs W enc fs (off+k) len c2 s2 ok2) :
  OpnFs W enc (f::fs) off (k+len) (fun p:α×β=>c1 p.1++c2 p.2) (fun p=>s1 p.1+s2 p.2) (fun p=>ok1 p.1∧ok2 p.2):=by
 intro n cs xs hx h hb
 match xs,hx with
 | x::xs,hx =>
  have e0:=h 0 f rfl
  rw [ho,hk] at e0
  simp only [List.map_cons,Rows.uptoBulkAll] at hb
  obtain ⟨a,r1,r2,r3,r4⟩:=O n _ x.1 x.2 e0 (by omega)
  obtain ⟨b,q1,q2,q3,q4⟩:=R n cs xs (by simpa using hx) (fun i g hg=>by
   have:=h (i+1) g (by simpa using hg)
   simpa using this) (by omega)
  have hsplit:(cs.drop off).take (k+len)=(cs.drop off).take k++(cs.drop (off+k)).take len:=by
   rw [List.take_add,List.drop_drop]
  have hl1:((cs.drop off).take k).length=(c1 a).length:=r1.1
  refine ⟨(a,b),?_,fun u hu=>?_,by simp only [List.map_cons,Rows.uptoBulkAll];omega,r4,q4⟩
  ·rw [hsplit]
   refine ⟨by rw [List.length_append,List.length_append,r1.1,q1.1],fun i u y hu hy=>?_⟩
   rw [List.getElem?_append,hl1] at hu
   rw [List.getElem?_append] at hy
   split at hu
   ·rename_i hlt
    rw [if_pos hlt] at hy
    exact r1.2 i u y hu hy
   ·rename_i hlt
    rw [if_neg hlt] at hy
    exact q1.2 _ u y hu hy
  ·rw [hsplit] at hu
   rcases List.mem_append.1 hu with hu | hu
   ·exact r2 u hu
   ·exact q2 u hu
theorem opn_struct {t:TypeId} {fs:Array Field} {len:Nat} {c:α→List IV} {sz:α→Nat} {ok:α→Prop} {c':β→List IV} {sz':β→Nat} {ok':β→Prop} (ht:Tryz.prog.underlying t=some (.struct fs)) (hl:Tryz.prog.cellsOf t=len)
  (R:OpnFs W enc fs.toList 0 len c sz ok) (conv:α→β) (hc:∀ p,c' (conv p)=c p) (hs:∀ p,sz' (conv p)=sz p+1) (ho:∀ p,ok p→ok' (conv p)):Opn W enc t c' sz' ok':=by
 intro fuel cs d ps h hd
 obtain ⟨xs,n,rfl,hx,hcl,hxl,hf⟩:=DataW.trod_struct ht h
 injection hx with hx1 hx2
 subst hx1
 simp only [Rows.uptoBulk] at hd
 obtain ⟨x,r1,r2,r3,r4⟩:=R n cs xs (by rw [hxl];simp) (fun i f hi=>hf i f (by simpa using hi)) (by omega)
 rw [hl] at hcl
 have e:(cs.drop 0).take len=cs:=by rw [List.drop_zero,← hcl,List.take_length]
 rw [e] at r1 r2
 refine ⟨conv x,by rw [hc];exact r1,r2,?_,ho x r4⟩
 rw [hs]
 simp only [Rows.uptoBulk]
 omega
theorem zlx {t:TypeId} {fs:Array Field} {v:Value} {d:DataW H} {p:List MemPlace} {base:Nat} {c:α→List IV} {sz:α→Nat} {ok:α→Prop} (ht:Tryz.prog.underlying t=some (.struct fs)) (hv:Value.okWide Tryz.prog W .any base t v)
  (h:DataW.Trod enc Tryz.prog W 0 (fun _=>true) true t v d p) (O:Opn W enc t c sz ok) (hb:Rows.uptoBulk d≤1048576):∃ x,RepI W (lowS W) v (.agg (c x))∧sz x≤Rows.uptoBulk d∧ok x:=by
 obtain ⟨cs,rfl,_⟩:=okWide_struct ht hv
 obtain ⟨fuel,hf⟩:=h
 obtain ⟨x,r1,r2,r3,r4⟩:=O fuel cs.toList d p (by simpa [Value.cells] using hf) hb
 refine ⟨x,?_,r3,r4⟩
 have:=RepI.agg (w:=W) (S:=lowS W) cs.toList (c x) r1.1 r2 r1.2
 simpa using this
theorem arg_int {v:Value} {d:DataW H} {p:List MemPlace} {base:Nat} (hv:Value.okWide Tryz.prog W .any base 3 v) (h:DataW.Trod enc Tryz.prog W 0 (fun _=>true) true 3 v d p):∃ x,RepI W (lowS W) v (nI x)∧inR x:=by
 obtain ⟨z,rfl,rfl,rfl,wz⟩:=open_int Tryz.underlying3 hv h
 refine ⟨z,.val _,?_⟩
 simp [Lit.wf,IntKind.min,IntKind.max,IntKind.wrap,IntKind.bits,IntKind.signed] at wz
 unfold inR
 omega
theorem sp_law {f:FuncId} {W:World} {vs:List Value} {xs:List Arg} (h:Sp Tryz.prog f xs (.im (nB true))) (ha:ArgsOk W (lowS W) vs xs []) :
  Calls Tryz.prog f vs.toArray W fun e W'=>e=.returned (.bool true)∧Below W.heap.size W W':=by
 refine (h.2 W (lowS W) vs [] (fun b hb=>hb) ha List.nodup_nil (fun b hb=>by cases hb)).mono ?_
 rintro e W' ⟨v,F',rfl,hb,⟨us,F1,F2,e1,ho,_,_⟩,_,_⟩
 have e1:us=[v]:=e1
 subst e1
 refine ⟨?_,hb.below fun b hb=>by cases hb⟩
 obtain ⟨F3,F4,⟨hr,_⟩,_⟩:=ho
 cases hr
 rfl
end
end Go.Proofs.YtcneaiejdidooaaGreat.Sym

namespace Go.Proofs.YtcneaiejdidooaaGreat.Sym
open Go.RowKit
set_option maxRecDepth 100000
section
variable {H:Type} {enc:TypeId×Value→H} {W:World}
theorem opn_0:Opn W enc 47 (cL cI) (szL sz1) (okL inR):=opn_slice (k:=1) Tryz.underlying47 (by kernel_rfl) (by decide) (fun _=>rfl) opn_int
theorem opn_1:Opn W enc 22 (cL (cL cI)) (szL (szL sz1)) (okL (okL inR)):=opn_slice (k:=1) Tryz.underlying22 (by kernel_rfl) (by decide) (fun _=>rfl) opn_0
def zgc (x:zaa):Nat:=(sz1 x.Inputs+(sz1 x.Start+((szL (szL sz1)) x.Next+((szL (szL sz1)) x.Out+0))))+1
def zgb (x:zaa):Prop:=inR x.Inputs∧inR x.Start∧(okL (okL inR)) x.Next∧(okL (okL inR)) x.Out
theorem zhd:Opn W enc 24 zab zgc zgb :=
 opn_struct (len:=4) Tryz.underlying24 (by kernel_rfl) (zgk (k:=1) rfl (by kernel_rfl) opn_int (fun _=>rfl) (zgk (k:=1) rfl (by kernel_rfl) opn_int (fun _=>rfl) (zgk (k:=1) rfl (by kernel_rfl) opn_1 (fun _=>rfl) (zgk (k:=1) rfl (by kernel_rfl) opn_1 (fun _=>rfl) opnFs_nil)))) (fun p=>⟨p.1,p.2.1,p.2.2.1,p.2.2.2.1⟩) (fun _=>rfl) (fun _=>rfl) (fun p h=>⟨h.1,h.2.1,h.2.2.1,h.2.2.2.1⟩)
end
end Go.Proofs.YtcneaiejdidooaaGreat.Sym

/-
 Plain functions on words (lists of integers) and lists of words, and their laws: no program in sight.
-/
namespace Go.Proofs.YtcneaiejdidooaaGreat
def common:List Int→List Int→Nat
 | x::xs,y::ys=>if x=y then common xs ys+1 else 0
 | _,_=>0
theorem zf5:∀ xs ys:List Int,common xs ys≤xs.length∧common xs ys≤ys.length
 | [],_=>by simp [common]
 | _::_,[]=>by simp [common]
 | x::xs,y::ys=>by
  have h:=zf5 xs ys
  simp only [common]
  split<;>simp<;>omega
theorem zic {xs ys:List Int} {k:Nat} (h:xs.length≤k∨ys.length≤k):common (xs.drop k) (ys.drop k)=0:=by
 rcases h with h | h
 ·rw [List.drop_eq_nil_of_le h];simp [common]
 ·rw [List.drop_eq_nil_of_le h];cases xs.drop k<;>simp [common]
theorem ze9:∀ xs:List Int,common xs xs=xs.length
 | []=>rfl
 | x::xs=>by simp [common,ze9 xs]
theorem zku:∀ xs ys:List Int,common xs ys=xs.length→common xs ys=ys.length→xs=ys
 | [],[],_,_=>rfl
 | [],y::ys,_,h=>by simp [common] at h
 | x::xs,[],h,_=>by simp [common] at h
 | x::xs,y::ys,h1,h2=>by
  simp only [common] at h1 h2
  split at h1
  ·rename_i he
   subst he
   simp at h1 h2
   rw [zku xs ys h1 h2]
  ·simp at h1
theorem same_iff (xs ys:List Int):(xs.length=ys.length∧common xs ys=xs.length)↔xs=ys:=by
 constructor
 ·rintro ⟨h1,h2⟩
  exact zku xs ys h2 (by omega)
 ·rintro rfl
  exact ⟨rfl,ze9 xs⟩
theorem zh6:∀ w p:List Int,common w p=p.length↔p <+: w
 | [],[]=>by simp [common]
 | [],y::ys=>by simp [common]
 | x::xs,[]=>by simp [common]
 | x::xs,y::ys=>by
  simp only [common,List.length_cons,List.cons_prefix_cons]
  by_cases h:x=y
  ·subst h
   simp [zh6 xs ys]
  ·rw [if_neg h]
   constructor
   ·intro h';omega
   ·rintro ⟨rfl,_⟩;exact absurd rfl h
def lexI:List Int→List Int→Int
 | [],[]=>0
 | [],_::_=>-1
 | _::_,[]=>1
 | x::xs,y::ys=>if x<y then -1 else if y<x then 1 else lexI xs ys
def cmpW (a b:List Int):Int:=if a.length<b.length then -1 else if b.length<a.length then 1 else lexI a b
theorem zii:∀ a b:List Int,lexI a b=-1∨lexI a b=0∨lexI a b=1
 | [],[]=>by simp [lexI]
 | [],_::_=>by simp [lexI]
 | _::_,[]=>by simp [lexI]
 | x::xs,y::ys=>by
  simp only [lexI]
  split
  ·simp
  ·split
   ·simp
   ·exact zii xs ys
theorem zhi:∀ a b:List Int,lexI a b=0↔a=b
 | [],[]=>by simp [lexI]
 | [],_::_=>by simp [lexI]
 | _::_,[]=>by simp [lexI]
 | x::xs,y::ys=>by
  simp only [lexI,List.cons.injEq]
  by_cases h1:x<y
  ·rw [if_pos h1];constructor
   ·intro h;omega
   ·rintro ⟨rfl,_⟩;omega
  ·rw [if_neg h1]
   by_cases h2:y<x
   ·rw [if_pos h2];constructor
    ·intro h;omega
    ·rintro ⟨rfl,_⟩;omega
   ·rw [if_neg h2,zhi xs ys]
    constructor
    ·intro h;exact ⟨by omega,h⟩
    ·rintro ⟨_,h⟩;exact h
theorem lexI_refl (a:List Int):lexI a a=0:=(zhi a a).2 rfl
theorem zha:∀ a b:List Int,lexI b a=- lexI a b
 | [],[]=>by simp [lexI]
 | [],_::_=>by simp [lexI]
 | _::_,[]=>by simp [lexI]
 | x::xs,y::ys=>by
  simp only [lexI]
  by_cases h1:x<y
  ·rw [if_neg (show ¬ y<x by omega),if_pos h1,if_pos h1];simp
  ·by_cases h2:y<x
   ·rw [if_pos h2,if_neg h1,if_pos h2]
   ·rw [if_neg h2,if_neg h1,if_neg h1,if_neg h2];exact zha xs ys
theorem zig:∀ a b c:List Int,lexI a b=-1→lexI b c=-1→lexI a c=-1
 | [],[],_,h,_=>by simp [lexI] at h
 | [],_::_,[],_,h=>by simp [lexI] at h
 | [],_::_,_::_,_,_=>by simp [lexI]
 | _::_,[],_,h,_=>by simp [lexI] at h
 | _::_,_::_,[],_,h=>by simp [lexI] at h
 | x::xs,y::ys,z::zs,h1,h2=>by
  simp only [lexI] at h1 h2 ⊢
  by_cases p:x<y
  ·by_cases q:y<z
   ·rw [if_pos (by omega)]
   ·rw [if_neg q] at h2
    by_cases r:z<y
    ·rw [if_pos r] at h2;omega
    ·rw [if_pos (by omega)]
  ·rw [if_neg p] at h1
   by_cases p':y<x
   ·rw [if_pos p'] at h1;omega
   ·rw [if_neg p'] at h1
    by_cases q:y<z
    ·rw [if_pos (by omega)]
    ·rw [if_neg q] at h2
     by_cases r:z<y
     ·rw [if_pos r] at h2;omega
     ·rw [if_neg r] at h2
      rw [if_neg (by omega),if_neg (by omega)]
      exact zig xs ys zs h1 h2
theorem zjj:∀ a b:List Int,lexI a b =
  if common a b=a.length∧common a b=b.length then 0 else
  if common a b=a.length∨(common a b<b.length∧a.getD (common a b) 0<b.getD (common a b) 0) then -1 else 1
 | [],[]=>by simp [lexI,common]
 | [],_::_=>by simp [lexI,common]
 | _::_,[]=>by simp [lexI,common]
 | x::xs,y::ys=>by
  have ih:=zjj xs ys
  simp only [lexI,common]
  by_cases h:x=y
  ·subst h
   rw [if_neg (by omega),if_neg (by omega),ih]
   simp
  ·by_cases h1:x<y
   ·simp [h,h1]
   ·have h2:y<x:=by omega
    simp [h,h1,h2]
theorem zie (a b:List Int):cmpW a b=-1∨cmpW a b=0∨cmpW a b=1:=by
 unfold cmpW
 split
 ·simp
 ·split
  ·simp
  ·exact zii a b
theorem zj2 (a b:List Int):cmpW a b=0↔a=b:=by
 unfold cmpW
 by_cases h1:a.length<b.length
 ·rw [if_pos h1];constructor
  ·intro h;omega
  ·rintro rfl;omega
 ·rw [if_neg h1]
  by_cases h2:b.length<a.length
  ·rw [if_pos h2];constructor
   ·intro h;omega
   ·rintro rfl;omega
  ·rw [if_neg h2,zhi]
theorem zhy (a:List Int):cmpW a a=0:=(zj2 a a).2 rfl
theorem zjd (a b:List Int):cmpW b a=- cmpW a b:=by
 unfold cmpW
 by_cases h1:a.length<b.length
 ·rw [if_neg (by omega),if_pos h1,if_pos h1];simp
 ·by_cases h2:b.length<a.length
  ·rw [if_pos h2,if_neg h1,if_pos h2]
  ·rw [if_neg h2,if_neg h1,if_neg h1,if_neg h2];exact zha a b
theorem zgi (a b c:List Int) (h1:cmpW a b=-1) (h2:cmpW b c=-1):cmpW a c=-1:=by
 unfold cmpW at *
 by_cases p:a.length<b.length
 ·by_cases q:b.length<c.length
  ·rw [if_pos (by omega)]
  ·rw [if_neg q] at h2
   by_cases r:c.length<b.length
   ·rw [if_pos r] at h2;omega
   ·rw [if_pos (by omega)]
 ·rw [if_neg p] at h1
  by_cases p':b.length<a.length
  ·rw [if_pos p'] at h1;omega
  ·rw [if_neg p'] at h1
   by_cases q:b.length<c.length
   ·rw [if_pos (by omega)]
   ·rw [if_neg q] at h2
    by_cases r:c.length<b.length
    ·rw [if_pos r] at h2;omega
    ·rw [if_neg r] at h2
     rw [if_neg (by omega),if_neg (by omega)]
     exact zig a b c h1 h2
def Asc (l:List (List Int)):Prop:=l.Pairwise fun a b=>cmpW a b=-1
def placeL (l:List (List Int)) (w:List Int):Nat:=(l.takeWhile fun x=>cmpW x w==-1).length
theorem placeL_le (l:List (List Int)) (w:List Int):placeL l w≤l.length:=by
 unfold placeL
 exact (List.takeWhile_sublist _).length_le
def checkI (xs:List Int) (inputs:Int):Int :=
 if 1≤inputs∧inputs≤1024 then if 1024<xs.length then 3 else if xs.all fun a=>decide (0≤a∧a<inputs) then 0 else 1 else 2
theorem Asc.get {l:List (List Int)} (h:Asc l) {i j:Nat} {x y:List Int} (hij:i<j) (hx:l[i]?=some x) (hy:l[j]?=some y):cmpW x y=-1:=by
 have hj:j<l.length:=(List.getElem?_eq_some_iff.1 hy).1
 have h1:=List.pairwise_iff_getElem.1 h i j (by omega) hj hij
 rw [List.getElem?_eq_getElem (by omega)] at hx
 rw [List.getElem?_eq_getElem hj] at hy
 injection hx with hx
 injection hy with hy
 rw [← hx,← hy]
 exact h1
def insW (l:List (List Int)) (x:List Int):List (List Int):=if x∈l then l else l.take (placeL l x)++x::l.drop (placeL l x)
theorem zfc:∀ (l:List (List Int)) (w:List Int),(∀ i x,i<placeL l w→l[i]?=some x→cmpW x w=-1)∧(∀ x,l[placeL l w]?=some x→cmpW x w≠-1)
 | [],w=>by simp [placeL]
 | y::l,w=>by
  have ih:=zfc l w
  by_cases hy:cmpW y w=-1
  ·have e:placeL (y::l) w=placeL l w+1:=by simp [placeL,hy]
   rw [e]
   refine ⟨fun i x hi hx=>?_,fun x hx=>ih.2 x (by simpa using hx)⟩
   cases i with
   | zero=>simp at hx;rw [← hx];exact hy
   | succ i=>exact ih.1 i x (by omega) (by simpa using hx)
  ·have e:placeL (y::l) w=0:=by simp [placeL,hy]
   rw [e]
   refine ⟨fun i x hi=>absurd hi (by omega),fun x hx=>?_⟩
   simp at hx
   rw [← hx]
   exact hy
theorem Asc.mem_place {l:List (List Int)} (h:Asc l) (w:List Int):w∈l↔l[placeL l w]?=some w:=by
 constructor
 ·intro hm
  obtain ⟨i,hi⟩:=List.getElem?_of_mem hm
  have hs:=zfc l w
  have h1:¬ i<placeL l w:=fun hlt=>by
   have:=hs.1 i w hlt hi
   rw [zhy] at this
   omega
  by_cases h2:i=placeL l w
  ·rw [← h2];exact hi
  ·have hlen:i<l.length:=(List.getElem?_eq_some_iff.1 hi).1
   have hg:l[placeL l w]?=some l[placeL l w]:=List.getElem?_eq_getElem (by omega)
   have:=h.get (by omega) hg hi
   exact absurd this (hs.2 _ hg)
 ·intro h2
  exact List.mem_of_getElem? h2
theorem mem_insW (l:List (List Int)) (x y:List Int):y∈insW l x↔y∈l∨y=x:=by
 unfold insW
 split
 ·rename_i h
  constructor
  ·exact Or.inl
  ·rintro (h' | rfl)
   ·exact h'
   ·exact h
 ·have e:y∈l↔y∈l.take (placeL l x)∨y∈l.drop (placeL l x):=by
   rw [← List.mem_append,List.take_append_drop]
  rw [List.mem_append,List.mem_cons,e]
  constructor
  ·rintro (h | h | h)
   ·exact Or.inl (Or.inl h)
   ·exact Or.inr h
   ·exact Or.inl (Or.inr h)
  ·rintro ((h | h) | h)
   ·exact Or.inl h
   ·exact Or.inr (Or.inr h)
   ·exact Or.inr (Or.inl h)
theorem Asc.insW {l:List (List Int)} (h:Asc l) (x:List Int):Asc (insW l x):=by
 unfold Go.Proofs.YtcneaiejdidooaaGreat.insW
 split
 ·exact h
 ·rename_i hm
  have hs:=zfc l x
  have hlo:∀ a∈l.take (placeL l x),cmpW a x=-1:=fun a ha=>by
   obtain ⟨i,hi⟩:=List.getElem?_of_mem ha
   rw [List.getElem?_take] at hi
   split at hi
   ·rename_i hlt;exact hs.1 i a hlt hi
   ·cases hi
  have hhi:∀ b∈l.drop (placeL l x),cmpW x b=-1:=fun b hb=>by
   obtain ⟨i,hi⟩:=List.getElem?_of_mem hb
   rw [List.getElem?_drop] at hi
   have hlen:placeL l x+i<l.length:=(List.getElem?_eq_some_iff.1 hi).1
   have hg:l[placeL l x]?=some l[placeL l x]:=List.getElem?_eq_getElem (by omega)
   have h0:=hs.2 _ hg
   have hne:cmpW l[placeL l x] x≠0:=fun e=>hm (by rw [← (zj2 _ _).1 e];exact List.getElem_mem _)
   have hr:=zie l[placeL l x] x
   have h1:cmpW x l[placeL l x]=-1:=by rw [zjd];omega
   by_cases hi0:i=0
   ·subst hi0
    rw [Nat.add_zero,hg] at hi
    injection hi with hi
    rw [← hi];exact h1
   ·exact zgi _ _ _ h1 (h.get (by omega) hg hi)
  unfold Asc
  rw [List.pairwise_append,List.pairwise_cons]
  refine ⟨List.Pairwise.sublist (List.take_sublist _ _) h,⟨hhi,List.Pairwise.sublist (List.drop_sublist _ _) h⟩,fun a ha b hb=>?_⟩
  rcases List.mem_cons.1 hb with rfl | hb
  ·exact hlo a ha
  ·exact zgi _ _ _ (hlo a ha) (hhi b hb)
theorem insW_length (l:List (List Int)) (x:List Int):(insW l x).length≤l.length+1:=by
 unfold insW
 split
 ·omega
 ·simp;omega
theorem asc_nil:Asc []:=List.Pairwise.nil
theorem asc_ext:∀ {l m:List (List Int)},Asc l→Asc m→(∀ x,x∈l↔x∈m)→l=m
 | [],[],_,_,_=>rfl
 | [],y::m,_,_,h=>absurd ((h y).2 (by simp)) (by simp)
 | x::l,[],_,_,h=>absurd ((h x).1 (by simp)) (by simp)
 | x::l,y::m,hl,hm,h=>by
  have h1:=List.pairwise_cons.1 hl
  have h2:=List.pairwise_cons.1 hm
  have hxy:x=y:=by
   rcases List.mem_cons.1 ((h x).1 (by simp)) with e | hx
   ·exact e
   ·rcases List.mem_cons.1 ((h y).2 (by simp)) with e | hy
    ·exact e.symm
    ·have a:=h2.1 x hx
     have b:=h1.1 y hy
     rw [zjd] at a
     omega
  subst hxy
  have hirr:∀ {k:List (List Int)},(∀ b∈k,cmpW x b=-1)→x∉k:=fun hk hx=>by
   have:=hk x hx
   rw [zhy] at this
   omega
  rw [asc_ext h1.2 h2.2 fun z=>?_]
  have:=h z
  simp only [List.mem_cons] at this
  constructor
  ·intro hz
   rcases this.1 (Or.inr hz) with rfl | h'
   ·exact absurd hz (hirr h1.1)
   ·exact h'
  ·intro hz
   rcases this.2 (Or.inr hz) with rfl | h'
   ·exact absurd hz (hirr h2.1)
   ·exact h'
def sortW (l:List (List Int)):List (List Int):=l.foldl insW []
theorem sortW_snoc (l:List (List Int)) (x:List Int):sortW (l++[x])=insW (sortW l) x:=by simp [sortW]
theorem zgj:∀ (l a:List (List Int)),Asc a→Asc (l.foldl insW a)∧(∀ x,x∈l.foldl insW a↔x∈a∨x∈l)∧(l.foldl insW a).length≤a.length+l.length
 | [],a,h=>⟨h,fun x=>by simp,by simp⟩
 | y::l,a,h=>by
  obtain ⟨h1,h2,h3⟩:=zgj l (insW a y) (h.insW y)
  refine ⟨h1,fun x=>?_,?_⟩
  ·rw [List.foldl_cons,h2,mem_insW,List.mem_cons,or_assoc]
  ·have:=insW_length a y
   rw [List.foldl_cons,List.length_cons]
   omega
theorem zfo (l:List (List Int)):Asc (sortW l):=(zgj l [] asc_nil).1
theorem zdq (l:List (List Int)) (x:List Int):x∈sortW l↔x∈l:=by
 rw [sortW,(zgj l [] asc_nil).2.1 x];simp
theorem zf6 (l:List (List Int)):(sortW l).length≤l.length:=by
 have:=(zgj l [] asc_nil).2.2
 simpa [sortW] using this
def stage {α:Type} (us:List α) (z:α) (i:Nat):List α:=us.take i++z::us.drop i
theorem stage_end {α:Type} (us:List α) (z:α):stage us z us.length=us++[z]:=by simp [stage]
theorem stage_at {α:Type} {us:List α} {z:α} {i:Nat} (h:i≤us.length):(stage us z i)[i]?=some z:=by
 simp [stage,List.getElem?_append,Nat.min_eq_left h]
theorem stage_before {α:Type} {us:List α} {z:α} {i j:Nat} (h:j<i) (h2:i≤us.length):(stage us z i)[j]?=us[j]?:=by
 rw [stage,List.getElem?_append,if_pos (by simp;omega),List.getElem?_take,if_pos h]
theorem stage_set {α:Type} {us:List α} {z u:α} {i:Nat} (h:i≤us.length):(stage us z i).set i u=stage us u i:=by
 rw [stage,List.set_append,if_neg (by simp;omega)]
 have:i-(us.take i).length=0:=by simp;omega
 rw [this]
 rfl
theorem stage_down {α:Type} {us:List α} {u:α} {j:Nat} (h:us[j]?=some u):stage us u (j+1)=stage us u j:=by
 obtain ⟨hj,e⟩:=List.getElem?_eq_some_iff.1 h
 unfold stage
 rw [List.take_add_one,h,List.drop_eq_getElem_cons hj,e]
 simp
end Go.Proofs.YtcneaiejdidooaaGreat

/-
 How slices of integers, of words and of lists of words read in a world, and what keeps them so. No function of the program in sight.
-/
namespace Go.Proofs.YtcneaiejdidooaaGreat
open Go.RowKit
def Keeps (w w':World):Prop:=∀ p u,w.cell? p=some u→w'.cell? p=some u
theorem Keeps.refl (w:World):Keeps w w:=fun _ _ h=>h
theorem Keeps.trans {a b c:World} (h:Keeps a b) (k:Keeps b c):Keeps a c:=fun p u hu=>k p u (h p u hu)
theorem Keeps.of_below {w w':World} (h:Below w.heap.size w w'):Keeps w w':=fun p _ hu =>
 (h.cell (p:=p) (World.block_lt_of_cell? w p hu)).trans hu
theorem Keeps.drewN (w:World) (q:Nat):Keeps w (w.drewN q):=fun _ _ h=>h
def RowOf {α:Type} (w:World) (R:Value→α→Prop) (A:Option Addr) (n c:Nat) (l:List α):Prop :=
 l.length=n∧n≤c∧n≤17592186044416 ∧
  (0<n→∃ b o,A=some ⟨b,o,none⟩∧∀ i x,l[i]?=some x→∃ u,w.cell? ⟨b,o+i,none⟩=some u∧R u x)
def IsInt (u:Value) (x:Int):Prop:=u=.int .i64 x
def IsI (w:World) (v:Value) (xs:List Int):Prop:=∃ A n c,v=.slice A n c∧RowOf w IsInt A n c xs
def IsW (w:World) (v:Value) (l:List (List Int)):Prop:=∃ A n c,v=.slice A n c∧RowOf w (IsI w) A n c l
def IsL (w:World) (v:Value) (l:List (List (List Int))):Prop:=∃ A n c,v=.slice A n c∧RowOf w (IsW w) A n c l
section
variable {α:Type} {w w':World} {R R':Value→α→Prop} {A:Option Addr} {n c k:Nat} {l:List α}
theorem RowOf.len (h:RowOf w R A n c l):l.length=n:=h.1
theorem RowOf.cap (h:RowOf w R A n c l):n≤c:=h.2.1
theorem RowOf.small (h:RowOf w R A n c l):n≤17592186044416:=h.2.2.1
theorem RowOf.keep (h:RowOf w R A n c l) (hk:Keeps w w') (hR:∀ u x,R u x→R' u x):RowOf w' R' A n c l :=
 ⟨h.1,h.2.1,h.2.2.1,fun hn=>by
  obtain ⟨b,o,e,hc⟩:=h.2.2.2 hn
  refine ⟨b,o,e,fun i x hx=>?_⟩
  obtain ⟨u,hu,hr⟩:=hc i x hx
  exact ⟨u,hk _ _ hu,hR _ _ hr⟩⟩
theorem RowOf.at_ (h:RowOf w R A n c l) (hk:k<n):∃ b o u x,A=some ⟨b,o,none⟩∧l[k]?=some x∧w.cell? ⟨b,o+k,none⟩=some u∧R u x:=by
 obtain ⟨b,o,e,hc⟩:=h.2.2.2 (by omega)
 have hl:k<l.length:=by rw [h.1];exact hk
 obtain ⟨u,hu,hr⟩:=hc k l[k] (List.getElem?_eq_getElem hl)
 exact ⟨b,o,u,l[k],e,List.getElem?_eq_getElem hl,hu,hr⟩
theorem RowOf.take (h:RowOf w R A n c l) (hk:k≤n):RowOf w R A k c (l.take k):=by
 refine ⟨by rw [List.length_take,h.1];omega,Nat.le_trans hk h.2.1,Nat.le_trans hk h.2.2.1,fun h0=>?_⟩
 obtain ⟨b,o,e,hc⟩:=h.2.2.2 (by omega)
 refine ⟨b,o,e,fun i x hx=>hc i x ?_⟩
 rw [List.getElem?_take] at hx
 split at hx
 ·exact hx
 ·cases hx
end
theorem IsI.keep {w w':World} {v:Value} {xs:List Int} (h:IsI w v xs) (hk:Keeps w w'):IsI w' v xs:=by
 obtain ⟨A,n,c,e,hr⟩:=h
 exact ⟨A,n,c,e,hr.keep hk fun _ _ h=>h⟩
theorem IsW.keep {w w':World} {v:Value} {l:List (List Int)} (h:IsW w v l) (hk:Keeps w w'):IsW w' v l:=by
 obtain ⟨A,n,c,e,hr⟩:=h
 exact ⟨A,n,c,e,hr.keep hk fun _ _ h=>h.keep hk⟩
theorem IsL.keep {w w':World} {v:Value} {l:List (List (List Int))} (h:IsL w v l) (hk:Keeps w w'):IsL w' v l:=by
 obtain ⟨A,n,c,e,hr⟩:=h
 exact ⟨A,n,c,e,hr.keep hk fun _ _ h=>h.keep hk⟩
theorem IsI.below {w w':World} {v:Value} {xs:List Int} (h:IsI w v xs) (hb:Below w.heap.size w w'):IsI w' v xs:=h.keep (.of_below hb)
theorem IsW.below {w w':World} {v:Value} {l:List (List Int)} (h:IsW w v l) (hb:Below w.heap.size w w'):IsW w' v l:=h.keep (.of_below hb)
theorem IsL.below {w w':World} {v:Value} {l:List (List (List Int))} (h:IsL w v l) (hb:Below w.heap.size w w'):IsL w' v l:=h.keep (.of_below hb)
theorem RowOf.int_at {w:World} {A:Option Addr} {n c k:Nat} {xs:List Int} (h:RowOf w IsInt A n c xs) (hk:k<n) :
  ∃ b o x,A=some ⟨b,o,none⟩∧xs[k]?=some x∧w.cell? ⟨b,o+k,none⟩=some (.int .i64 x):=by
 obtain ⟨b,o,u,x,e,hx,hu,rfl⟩:=h.at_ hk
 exact ⟨b,o,x,e,hx,hu⟩
theorem drewN_two (w:World) (a b:Nat):∃ r,(w.drewN a).drewN b=w.drewN r:=⟨a+b,by rw [World.drewN_drewN]⟩
theorem ret_int {k:IntKind} {a b:Int} (h:a=b):Ending.returned (.int k a)=.returned (.int k b):=by rw [h]
def Qt (w w':World):Prop:=∃ q,w'=w.drewN q
theorem Qt.refl (w:World):Qt w w:=⟨0,rfl⟩
theorem Qt.drewN {w w':World} (h:Qt w w') (n:Nat):Qt w (w'.drewN n):=by
 obtain ⟨q,rfl⟩:=h
 exact drewN_two w q n
theorem Qt.keeps {w w':World} (h:Qt w w'):Keeps w w':=by
 obtain ⟨q,rfl⟩:=h
 exact Keeps.drewN w q
theorem Qt.trans {a b c:World} (h:Qt a b) (k:Qt b c):Qt a c:=by
 obtain ⟨q,rfl⟩:=k
 exact h.drewN q
theorem RowOf.kept {α:Type} {w w':World} {R:Value→α→Prop} {A:Option Addr} {n c:Nat} {l:List α} (h:RowOf w R A n c l) (hk:Keeps w w'):RowOf w' R A n c l:=h.keep hk fun _ _ h=>h
theorem RowOf.words {w w':World} {A:Option Addr} {n c:Nat} {l:List (List Int)} (h:RowOf w (IsI w) A n c l) (hk:Keeps w w'):RowOf w' (IsI w') A n c l:=h.keep hk fun _ _ h=>h.keep hk
theorem RowOf.lists {w w':World} {A:Option Addr} {n c:Nat} {l:List (List (List Int))} (h:RowOf w (IsW w) A n c l) (hk:Keeps w w'):RowOf w' (IsW w') A n c l:=h.keep hk fun _ _ h=>h.keep hk
theorem zbz {α:Type} {l:List α} {k:Nat} {x:α} (hl:l[k]?=some x):l.take (k+1)=l.take k++[x]:=by
 rw [List.take_add_one,hl];rfl
theorem zeb {α:Type} {l:List α} {k:Nat} {x d:α} (h:l[k]?=some x):l.getD k d=x:=by simp [List.getD_eq_getElem?_getD,h]
end Go.Proofs.YtcneaiejdidooaaGreat

/-
 Rows that the call itself made: words and lists of words that grow by append. No function of the program in sight.
-/
namespace Go.Proofs.YtcneaiejdidooaaGreat
open Go.RowKit
theorem Tryz.infoInt:(Tryz.prog.info? 3).map (fun i=>(i.zero,i.size,i.bytes))=some (some (.int .i64 0),1,8):=by kernel_rfl
theorem addr_add (b o j:Nat):(⟨b,o,none⟩:Addr).add j=⟨b,o+j,none⟩:=by
 unfold Addr.add
 split
 ·rename_i h;subst h;rfl
 ·rfl
def Src (w:World) (A:Option Addr) (m:Nat) (news:List Value):Prop :=
 news.length=m∧(0<m→∃ b o,A=some ⟨b,o,none⟩∧∀ j u,news[j]?=some u→w.cell? ⟨b,o+j,none⟩=some u)
section
variable {P:Program} {w:World}
end
def Off (u:Value) (row:Option Nat):Prop:=∀ a n c,u=.slice (some a) n c→0<n→row≠some a.block
def OwnI (w:World) (base:Nat) (v:Value) (xs:List Int):Prop:=w.ownsRow base 3 1 v xs.length (xs.map (Value.int .i64))
def OwnW (w:World) (base:Nat) (v:Value) (l:List (List Int)):Prop :=
 ∃ us:List Value,us.length=l.length∧w.ownsRow base 47 1 v us.length us ∧
  ∀ (i:Nat) x,l[i]?=some x→∃ u,us[i]?=some u∧IsI w u x∧Off u v.ownBlock
theorem IsI.lt {w:World} {v:Value} {x:List Int} (h:IsI w v x):∀ a n c,v=.slice (some a) n c→0<n→a.block<w.heap.size:=by
 obtain ⟨A,n,c,rfl,hr⟩:=h
 rintro a n' c' e h0
 injection e with e1 e2 e3
 subst e1 e2
 obtain ⟨b,o,u,y,e,_,hu,_⟩:=hr.at_ h0
 injection e with e
 subst e
 exact World.block_lt_of_cell? w _ hu
theorem IsI.off_new {w:World} {v:Value} {x:List Int} (h:IsI w v x) {g:Nat} (hg:w.heap.size≤g):Off v (some g):=fun a n c e h0 hh=>by
 have:=h.lt a n c e h0
 injection hh with hh
 omega
theorem IsI.grown {w w':World} {v:Value} {x:List Int} {row:Option Nat} (h:IsI w v x) (hg:w.grownBy w' row) (ho:Off v row):IsI w' v x:=by
 obtain ⟨A,n,c,rfl,hr⟩:=h
 refine ⟨A,n,c,rfl,hr.1,hr.2.1,hr.2.2.1,fun hn=>?_⟩
 obtain ⟨b,o,rfl,hc⟩:=hr.2.2.2 hn
 refine ⟨b,o,rfl,fun i y hy=>?_⟩
 obtain ⟨u,hu,hr'⟩:=hc i y hy
 exact ⟨u,hg.cell hu (fun e=>ho _ _ _ rfl hn e.symm),hr'⟩
theorem zfd {w w':World} (hg:w.grownBy w' none):Keeps w w':=fun _ _ hu=>hg.cell hu (by simp)
theorem zjr {w w':World} {row:Option Nat} (hg:w.grownBy w' row) {B:Nat} (hB:B≤w.heap.size) (hr:∀ g,row=some g→B≤g):Below B w w':=(Below.refl B w).grown hg hB hr
theorem OwnI.lt {w:World} {base:Nat} {v:Value} {xs:List Int} (h:OwnI w base v xs):∀ k,v.ownBlock=some k→base≤k∧k<w.heap.size:=World.ownsRow.lt h
theorem OwnW.lt {w:World} {base:Nat} {v:Value} {l:List (List Int)} (h:OwnW w base v l):∀ k,v.ownBlock=some k→base≤k∧k<w.heap.size:=by
 obtain ⟨us,_,hown,_⟩:=h
 exact hown.lt
theorem OwnI.kept {w w':World} {base:Nat} {v:Value} {xs:List Int} {row:Option Nat} (h:OwnI w base v xs) (hg:w.grownBy w' row) (hne:v.ownBlock=none∨v.ownBlock≠row):OwnI w' base v xs :=
 World.ownsRow.kept h hg hne
theorem OwnW.kept {w w':World} {base:Nat} {v:Value} {l:List (List Int)} (h:OwnW w base v l) (hg:w.grownBy w' none):OwnW w' base v l:=by
 obtain ⟨us,hl,hown,hel⟩:=h
 refine ⟨us,hl,hown.kept hg (by cases v.ownBlock<;>simp),fun i x hx=>?_⟩
 obtain ⟨u,hu,hi,ho⟩:=hel i x hx
 exact ⟨u,hu,hi.keep (zfd hg),ho⟩
theorem OwnW.alloc {w:World} {base:Nat} {v:Value} {l:List (List Int)} (h:OwnW w base v l) (o:Obj):OwnW (w.alloc o) base v l:=h.kept (World.grownBy_alloc w o none)
theorem OwnI.alloc {w:World} {base:Nat} {v:Value} {xs:List Int} (h:OwnI w base v xs) (o:Obj):OwnI (w.alloc o) base v xs:=World.ownsRow.alloc h o
theorem OwnW.push {w w1 w2:World} {base:Nat} {v v' u:Value} {l:List (List Int)} {x:List Int} {us:List Value} (hl:us.length=l.length)
  (hel:∀ (i:Nat) x,l[i]?=some x→∃ u,us[i]?=some u∧IsI w u x∧Off u v.ownBlock) (hx:IsI w u x) (hoff:Off u v.ownBlock) (h1:w.grownBy w1 none)
  (hown:w2.ownsRow base 47 1 v' (us.length+1) (us++[u])) (hg:w1.grownBy w2 v.ownBlock) (hb:v'.ownBlock=v.ownBlock∨v'.ownBlock=some w1.heap.size):OwnW w2 base v' (l++[x]):=by
 have key:∀ u x,IsI w u x→Off u v.ownBlock→IsI w2 u x∧Off u v'.ownBlock:=fun u x hi ho=>by
  refine ⟨(hi.keep (zfd h1)).grown hg ho,?_⟩
  rcases hb with e | e
  ·rw [e];exact ho
  ·rw [e];exact hi.off_new h1.size
 refine ⟨us++[u],by simp [hl],by simpa using hown,fun i y hy=>?_⟩
 rw [List.getElem?_append] at hy
 split at hy
 ·rename_i hi
  obtain ⟨u',hu',h3,h4⟩:=hel i y hy
  exact ⟨u',by rw [List.getElem?_append,if_pos (by omega)];exact hu',key u' y h3 h4⟩
 ·rename_i hi
  have hi0:i-l.length=0:=by
   rcases Nat.eq_zero_or_pos (i-l.length) with h0 | h0
   ·exact h0
   ·rw [List.getElem?_eq_none (by simp;omega)] at hy;cases hy
  rw [hi0] at hy
  simp at hy
  subst hy
  exact ⟨u,by rw [List.getElem?_append,if_neg (by omega)];simp [hl,hi0],key u x hx hoff⟩
theorem RowOf.src {w:World} {A:Option Addr} {n c:Nat} {xs:List Int} (h:RowOf w IsInt A n c xs):Src w A n (xs.map (Value.int .i64)):=by
 refine ⟨by simp [h.len],fun h0=>?_⟩
 obtain ⟨b,o,e,hc⟩:=h.2.2.2 h0
 refine ⟨b,o,e,fun j u hu=>?_⟩
 rw [List.getElem?_map] at hu
 cases hx:xs[j]? with
 | none=>rw [hx] at hu;cases hu
 | some x =>
  rw [hx] at hu
  simp at hu
  obtain ⟨u',hu',rfl⟩:=hc j x hx
  rw [← hu]
  exact hu'
end Go.Proofs.YtcneaiejdidooaaGreat

/-
 The contract of slices.Clone.
-/
namespace Go.Proofs.YtcneaiejdidooaaGreat.Sym
open Go.RowKit
section
variable {P:Program} {w:World}
theorem zf1 {ops:Array Oper} {rest:List Oper} {o:Oper} {a:Act} {Q:Exit→Act→World→Prop} (hgd:o.guard=none) (s x:Operand) (t:TypeId)
  (ho:o.op=.call { callee:=.builtin .append,args:=#[s,x],argTypes:=#[t,t] })
  (base:Nat) (e:TypeId) (i:TypeInfo) (z:Value) (size bytes:Nat) (ht:P.underlying t=some (.slice e)) (hi:P.info? e=some i) (hz:i.zero=some z)
  (hsize:i.size=size) (hby:i.bytes=bytes) (hzs:z.cells.size=size) (hsz:0<size) (v:Value) (n:Nat) (xs:List Value) (hs:a.eval s=v) (hown:w.ownsRow base e size v n xs)
  (A:Option Addr) (m c:Nat) (news:List Value) (hx:a.eval x=.slice A m c) (hl:news.length=m*size) (hsrc:0<m→∃ b q,A=some ⟨b,q,none⟩∧∀ (j:Nat) u,news[j]?=some u→w.cell? ⟨b,q+j,none⟩=some u) (h1:∀ u∈news,u.oneCell'=true)
  (h63:n+m≤maxLen) (hbytes:(n+m)*bytes≤140737488355328) (hbase:base≤w.heap.size)
  (h:∀ v' w',w'.ownsRow base e size v' (n+m) (xs++news)→w.grownBy w' v.ownBlock→(v'.ownBlock=v.ownBlock∨v'.ownBlock=some w.heap.size)→wpList P ops Q rest (a.put o.dst v') w') :
  wpList P ops Q (o::rest) a w:=by
 refine wpList_plain hgd fun _ hK=>?_
 obtain ⟨v',w',hrun,h2,h3,h4⟩:=zec (P:=P) base t o.type e i z size bytes ht hi hz hsize hby hzs hsz v n xs hown A m c news hl hsrc h1 h63 hbytes hbase
 unfold Oper.wp execOp
 simp only [ho,resolve,invoke,builtin,Sem.run_bind,Sem.run_pure,Result.andThen_ok,List.map_toArray,List.map_cons,List.map_nil,hs,hx,hrun]
 exact hK _ _ (h v' w' h2 h3 h4)
end
theorem zll {a b c:World} {row row':Option Nat} (h:a.grownBy b row) (k:b.grownBy c row') (hr:row'=row∨∀ g,row'=some g→a.heap.size≤g):a.grownBy c row :=
 ⟨k.os.trans h.os,k.tape.trans h.tape,k.output.trans h.output,Nat.le_trans h.size k.size,fun i hi hne =>
  (k.block i (Nat.lt_of_lt_of_le hi h.size) (by
   rcases hr with e | e
   ·rw [e];exact hne
   ·intro he
    have:=e i he.symm
    omega)).trans (h.block i hi hne)⟩
def zi8 (t:TypeId) (k n:Nat) (us:List Value) (w:World) (e:Ending) (w':World):Prop :=
 ∃ v',e=.returned v'∧w'.ownsRow w.heap.size t k v' n us∧Below w.heap.size w w'
theorem ziw (w:World) (t:TypeId) (k:Nat):(w.alloc (.cells #[] t)).ownsRow w.heap.size t k (.slice (some ⟨w.heap.size,0,none⟩) 0 0) 0 []:=by
 refine ⟨by simp,.inr ⟨w.heap.size,0,#[],rfl,Nat.le_refl _,?_,Nat.zero_le _,by unfold maxLen;omega,by simp,by simp⟩⟩
 exact heap_alloc_new w _
theorem zkj {g:FuncId} {t:TypeId} {k by_:Nat} (he:∀ args w,(callFunc g args).run Tryz.prog w=.ok (.enter g args) w) (hk0:0<k)
  (h:∀ (w:World) (A:Option Addr) (n c:Nat) (us:List Value),us.length=n*k→(0<n→∃ b q,A=some ⟨b,q,none⟩∧∀ (j:Nat) u,us[j]?=some u→w.cell? ⟨b,q+j,none⟩=some u) →
   (∀ u∈us,u.oneCell'=true)→n≤17592186044416→n*by_≤140737488355328→Calls Tryz.prog g #[.slice A n c] w (zi8 t k n us w))
  {es:List (List IV)} (hk:∀ e∈es,e.length=k) (hc:capOk es.length by_):Sp Tryz.prog g [.im (.sl es)] (.row t k es):=by
 refine ⟨he,fun w S vs F hS hv hn hF=>?_⟩
 match vs,hv with
 | [v],⟨F1,F2,⟨h3,e1⟩,h5,e3⟩ =>
  have h5:F2=[]:=h5
  subst e1 h5 e3
  obtain ⟨A,c,us,rfl,hl,h1,hlim,hcell,hr⟩:=sl_src h3 hk
  have hlk:us.length=es.length*k:=by rw [hl,zaz hk]
  refine (h w A es.length c us hlk hcell h1 hlim hc.1).mono ?_
  rintro e w' ⟨v',rfl,ho,hb⟩
  have ho0:w'.ownsRow 0 t k v' es.length us:=by
   refine ⟨ho.1,?_⟩
   rcases ho.2 with h6 | ⟨g1,cap,cur,k1,_,k3⟩
   ·exact .inl h6
   ·exact .inr ⟨g1,cap,cur,k1,Nat.zero_le _,k3⟩
  have hlt:=ho.lt
  have hbk:∀ b∈(blkOf v').toList,w.heap.size≤b∧b<w'.heap.size:=fun b hb=>by
   refine hlt b ?_
   rw [row_blk ho0]
   simpa using hb
  refine ⟨v',(blkOf v').toList,rfl,.of hb,⟨[v'],(blkOf v').toList,[],rfl,⟨(blkOf v').toList,[],⟨row_one ho0,[],⟨us,hk0,hk,hlim,ho0,hl,h1,fun i u x hu hx=>?_⟩,rfl⟩,rfl,by simp⟩,rfl,by simp⟩,?_,fun b hb=>⟨.inl (hbk b hb).1,(hbk b hb).2⟩⟩
  ·have k1:∀ b,S b→(S b∨w.heap.size≤b∨b∈[])∧b<w'.heap.size∧b∉(blkOf v').toList:=fun b hb'=>⟨.inl hb',Nat.lt_of_lt_of_le (hS b hb') hb.size,fun hm=>by
    have h1:=(hbk b hm).1
    have h2:=hS b hb'
    omega⟩
   have k2:∀ (p:Addr) u,S p.block→w.cell? p=some u→w'.cell? p=some u:=fun p u hp hu=>by
    have h6:=hb.block p.block (hS _ hp)
    have h7:w'.cell? p=w.cell? p:=by
     unfold World.cell?
     rw [h6]
    rw [h7]
    exact hu
   exact (hr i u x hu hx).mono k1 k2
  ·cases blkOf v'<;>simp
end Go.Proofs.YtcneaiejdidooaaGreat.Sym

/-
 Walks of slices.Clone.
-/
namespace Go.Proofs.YtcneaiejdidooaaGreat.Sym
open Go.RowKit
theorem Tryz.infoC_int:(Tryz.prog.info? 3).map (fun i=>(i.zero,i.size,i.bytes))=some (some (.int .i64 0),1,8):=by kernel_rfl
set_option maxRecDepth 100000 in
set_option maxHeartbeats 400000 in
theorem clone_int (w:World) (A:Option Addr) (n c:Nat) (us:List Value) (hl:us.length=n*1) (hs:0<n→∃ b q,A=some ⟨b,q,none⟩∧∀ (j:Nat) u,us[j]?=some u→w.cell? ⟨b,q+j,none⟩=some u)
  (h1:∀ u∈us,u.oneCell'=true) (hn:n≤17592186044416) (hby:n*8≤140737488355328):Calls Tryz.prog 63 #[.slice A n c] w (zi8 3 1 n us w):=by
 obtain ⟨j0,ji,jz0,jz1,jz2⟩:=info_parts Tryz.infoC_int
 have hnil:=Lib.run_eql_slice_nil (P:=Tryz.prog) w 47 3 A n c 0 0 Tryz.underlying47
 cases A with
 | none =>
  have h0:n=0:=by
   rcases Nat.eq_zero_or_pos n with h | h
   ·exact h
   ·obtain ⟨b,q,e,_⟩:=hs h;cases e
  subst h0
  have hxs:us=[]:=List.eq_nil_of_length_eq_zero (by omega)
  have HX:=Lib.hid hxs
  clear hxs hs hl h1
  go_enter Tryz.func63,Tryz.ntmps63
  go_wp2
  go_ret
  rw [HX.out]
  exact ⟨_,rfl,World.ownsRow_nil _ _ _ _,Below.refl _ _⟩
 | some a =>
  have hsrc:∀ o,0<n→∃ b q,some a=some ⟨b,q,none⟩∧∀ (j:Nat) u,us[j]?=some u→(w.alloc o).cell? ⟨b,q+j,none⟩=some u:=fun o h=>by
   obtain ⟨b,q,e,hc⟩:=hs h
   exact ⟨b,q,e,fun j u hu=>zfd (World.grownBy_alloc w o none) _ _ (hc j u hu)⟩
  have hc6:0+n≤maxLen:=by unfold maxLen;omega
  have hc7:(0+n)*8≤140737488355328:=by omega
  have hc8:∀ o,w.heap.size≤(w.alloc o).heap.size:=fun o=>by simp
  have HXL:=Lib.hid hl
  clear hs
  go_enter Tryz.func63,Tryz.ntmps63
  go_wp2_with (at_builtin;refine zf1 rfl (.tmp 5) (.tmp 6) 47 rfl w.heap.size 3 j0 (.int .i64 0) 1 8 Tryz.underlying47 ji jz0 jz1 jz2 rfl (by decide) (.slice (some ⟨w.heap.size,0,none⟩) 0 0) 0 _ rfl (ziw _ _ _) _ _ _ _ rfl HXL.out (hsrc _) h1 hc6 hc7 (hc8 _) ?_;intro v1 w1 hown1 hg1 hb1)
  go_ret
  have hgr:w.grownBy w1 none:=zll (World.grownBy_alloc w _ none) hg1 (.inr fun g e=>by
   have:some w.heap.size=some g:=e
   injection this with this
   omega)
  exact ⟨v1,rfl,by simpa using hown1,zjr hgr (Nat.le_refl _) (fun g e=>by cases e)⟩
theorem Tryz.infoC_words:(Tryz.prog.info? 47).map (fun i=>(i.zero,i.size,i.bytes))=some (some (.slice none 0 0),1,24):=by kernel_rfl
set_option maxRecDepth 100000 in
set_option maxHeartbeats 400000 in
theorem clone_words (w:World) (A:Option Addr) (n c:Nat) (us:List Value) (hl:us.length=n*1) (hs:0<n→∃ b q,A=some ⟨b,q,none⟩∧∀ (j:Nat) u,us[j]?=some u→w.cell? ⟨b,q+j,none⟩=some u)
  (h1:∀ u∈us,u.oneCell'=true) (hn:n≤17592186044416) (hby:n*24≤140737488355328):Calls Tryz.prog 85 #[.slice A n c] w (zi8 47 1 n us w):=by
 obtain ⟨j0,ji,jz0,jz1,jz2⟩:=info_parts Tryz.infoC_words
 have hnil:=Lib.run_eql_slice_nil (P:=Tryz.prog) w 22 47 A n c 0 0 Tryz.underlying22
 cases A with
 | none =>
  have h0:n=0:=by
   rcases Nat.eq_zero_or_pos n with h | h
   ·exact h
   ·obtain ⟨b,q,e,_⟩:=hs h;cases e
  subst h0
  have hxs:us=[]:=List.eq_nil_of_length_eq_zero (by omega)
  have HX:=Lib.hid hxs
  clear hxs hs hl h1
  go_enter Tryz.func85,Tryz.ntmps85
  go_wp2
  go_ret
  rw [HX.out]
  exact ⟨_,rfl,World.ownsRow_nil _ _ _ _,Below.refl _ _⟩
 | some a =>
  have hsrc:∀ o,0<n→∃ b q,some a=some ⟨b,q,none⟩∧∀ (j:Nat) u,us[j]?=some u→(w.alloc o).cell? ⟨b,q+j,none⟩=some u:=fun o h=>by
   obtain ⟨b,q,e,hc⟩:=hs h
   exact ⟨b,q,e,fun j u hu=>zfd (World.grownBy_alloc w o none) _ _ (hc j u hu)⟩
  have hc6:0+n≤maxLen:=by unfold maxLen;omega
  have hc7:(0+n)*24≤140737488355328:=by omega
  have hc8:∀ o,w.heap.size≤(w.alloc o).heap.size:=fun o=>by simp
  have HXL:=Lib.hid hl
  clear hs
  go_enter Tryz.func85,Tryz.ntmps85
  go_wp2_with (at_builtin;refine zf1 rfl (.tmp 5) (.tmp 6) 22 rfl w.heap.size 47 j0 (.slice none 0 0) 1 24 Tryz.underlying22 ji jz0 jz1 jz2 rfl (by decide) (.slice (some ⟨w.heap.size,0,none⟩) 0 0) 0 _ rfl (ziw _ _ _) _ _ _ _ rfl HXL.out (hsrc _) h1 hc6 hc7 (hc8 _) ?_;intro v1 w1 hown1 hg1 hb1)
  go_ret
  have hgr:w.grownBy w1 none:=zll (World.grownBy_alloc w _ none) hg1 (.inr fun g e=>by
   have:some w.heap.size=some g:=e
   injection this with this
   omega)
  exact ⟨v1,rfl,by simpa using hown1,zjr hgr (Nat.le_refl _) (fun g e=>by cases e)⟩
end Go.Proofs.YtcneaiejdidooaaGreat.Sym

/-
 Walks of the program's slices.Grow.
-/
namespace Go.Proofs.YtcneaiejdidooaaGreat
open Go.RowKit
def GrowPost (t:TypeId) (w:World) (e:Ending) (w':World):Prop:=∃ v',e=.returned v'∧w'.ownsRow w.heap.size t 1 v' 0 []∧Below w.heap.size w w'
theorem ownsRow_zeros (w:World) (Z:Array Value) (t:TypeId) (c:Nat) (hc:c≤maxLen) (hZ:Z.size=c) :
  (w.drew.alloc (.cells Z t)).ownsRow w.heap.size t 1 (.slice (some ⟨w.heap.size,0,none⟩) 0 c) 0 []:=by
 refine ⟨rfl,.inr ⟨w.heap.size,c,Z,rfl,Nat.le_refl _,?_,Nat.zero_le _,hc,by omega,by simp⟩⟩
 exact heap_alloc_new w.drew _
theorem below_zeros (w:World) (o:Obj):Below w.heap.size w (w.drew.alloc o):=(Below.refl w.heap.size w).drew.alloc (Nat.le_refl _) o
set_option maxRecDepth 100000 in
set_option maxHeartbeats 800000 in
theorem growI_any (n:Nat) (hn:n≤1000000000) (w:World) :
  Calls Tryz.prog 84 #[.slice none 0 0,.int .i64 n] w (GrowPost 3 w):=by
 obtain ⟨i0,hi,hz0,hz1,hz2⟩:=info_parts Tryz.infoInt
 have h1:¬ ((n:Int)<0):=by omega
 by_cases h0:n=0
 ·subst h0
  go_enter Tryz.func84,Tryz.ntmps84
  go_wp2
  go_ret
  exact ⟨_,rfl,World.ownsRow_nil _ _ _ _,Below.refl _ _⟩
 ·have h4:(n:Int) > 0:=by omega
  have happ:=Lib.run_append_nil_zeros (P:=Tryz.prog) w 47 3 47 3 i0 (.int .i64 0) .i64 .i64 Tryz.underlying47 Tryz.underlying3 hi hz0 n (by omega) (by omega) (by omega) (by rw [hz2];omega)
  generalize hcap:grownCap w n 0 3=cap2 at happ
  have hcapge:n≤cap2:=by rw [← hcap];exact grownCap_ge w _ 0 _
  have hcaple:cap2≤maxLen:=by rw [← hcap];exact grownCap_le_maxLen w _ 0 _ (by unfold maxLen;omega)
  generalize hZ:(Builtin.zeroCells (Value.cells (.int .i64 0)) n++Builtin.zeroCells (Value.cells (.int .i64 0)) (cap2-n))=Z at happ
  have hZs:Z.size=cap2:=by rw [← hZ];simp [size_zeroCells,Value.cells];omega
  have hown:=ownsRow_zeros w Z 3 cap2 hcaple hZs
  have hcap63:cap2≤9223372036854775807:=by unfold maxLen at hcaple;omega
  have HO:=Lib.hid (And.intro hown (below_zeros w (.cells Z 3)))
  clear hcap hZ hown hZs
  go_enter Tryz.func84,Tryz.ntmps84
  go_wp2_with (at_builtin;refine Lib.wpList_append_run _ rfl _ _ _ _ rfl _ _ rfl rfl _ _ happ ?_)
  go_ret
  exact ⟨_,rfl,HO.out.1,HO.out.2⟩
end Go.Proofs.YtcneaiejdidooaaGreat

/-
 The contract of slices.Grow of nil.
-/
namespace Go.Proofs.YtcneaiejdidooaaGreat.Sym
open Go.RowKit
set_option maxRecDepth 100000
theorem sp_of_grow {g:FuncId} {t:TypeId} {n:Int} (he:∀ args w,(callFunc g args).run Tryz.prog w=.ok (.enter g args) w) (h0:0≤n) (h1:n≤1000000000)
  (h:∀ (n:Nat),n≤1000000000→∀ w,Calls Tryz.prog g #[.slice none 0 0,.int .i64 n] w (GrowPost t w)):Sp Tryz.prog g [.im (.val (.slice none 0 0)),.im (nI n)] (.row t 1 []):=by
 refine ⟨he,fun w S vs F hS hv hn hF=>?_⟩
 match vs,hv with
 | [v,u],⟨F1,F2,⟨h3,e1⟩,⟨F3,F4,⟨h4,e2⟩,h5,e3⟩,e4⟩ =>
  have h5:F4=[]:=h5
  subst e1 e2 h5 e3 e4
  cases h3
  cases h4
  have hc:=h n.toNat (by omega) w
  rw [Int.toNat_of_nonneg h0] at hc
  refine hc.mono ?_
  rintro e w' ⟨v',rfl,ho,hb⟩
  have ho0:w'.ownsRow 0 t 1 v' 0 []:=by
   refine ⟨ho.1,?_⟩
   rcases ho.2 with h6 | ⟨g1,cap,cur,k1,_,k3⟩
   ·exact .inl h6
   ·exact .inr ⟨g1,cap,cur,k1,Nat.zero_le _,k3⟩
  have hlt:=ho.lt
  have hbk:∀ b∈(blkOf v').toList,w.heap.size≤b∧b<w'.heap.size:=fun b hb=>by
   refine hlt b ?_
   rw [row_blk ho0]
   simpa using hb
  refine ⟨v',(blkOf v').toList,rfl,.of hb,⟨[v'],(blkOf v').toList,[],rfl,⟨(blkOf v').toList,[],⟨row_one ho0,[],⟨[],Nat.one_pos,fun x hx=>by simp at hx,by decide,ho0,rfl,fun u hu=>by simp at hu,fun i u x hu=>by simp at hu⟩,rfl⟩,rfl,by simp⟩,rfl,by simp⟩,?_,fun b hb=>⟨.inl (hbk b hb).1,(hbk b hb).2⟩⟩
  cases blkOf v'<;>simp
def zfx (n:Int):Option (List Int):=chk (0≤n∧n≤1000000000) (some [])
theorem zj0 (n:Int) (r:List Int) (h:zfx n=some r):Sp Tryz.prog 84 [.im (.val (.slice none 0 0)),.im (nI n)] (.row 3 1 (List.map cI r)):=by
 obtain ⟨h1,h⟩:=chk_some h
 injection h with h
 subst h
 exact sp_of_grow (fun args w=>zdx rfl rfl rfl args w) h1.1 h1.2 growI_any
end Go.Proofs.YtcneaiejdidooaaGreat.Sym

/-
 The contract of slices.SortFunc under a total comparison.
-/
namespace Go.Proofs.YtcneaiejdidooaaGreat.Sym
open Go.RowKit Go.Sort
section plain
variable {α:Type}
def totB [DecidableEq α] (f:α→α→Option Int) (l:List α):Bool :=
 l.all fun a=>l.all fun b=>match f a b,f b a with
  | some m,some n=>(decide (m=0)==decide (a=b))&&(decide (m<0)==decide (0<n))&&(decide (-1≤m∧m≤1))&&l.all fun c=>!(decide (m<0)&&(match f b c with | some x=>decide (x<0) | none=>false))||(match f a c with | some x=>decide (x<0) | none=>false)
  | _,_=>false
def insF (f:α→α→Option Int) (x:α):List α→List α
 | []=>[x]
 | y::l=>match f x y with
  | some m=>cond (decide (m≤0)) (x::y::l) (y::insF f x l)
  | none=>x::y::l
def isortF (f:α→α→Option Int):List α→List α
 | []=>[]
 | x::l=>insF f x (isortF f l)
def libSort [DecidableEq α] (l:List α) (f:α→α→Option Int):Option (List α):=chk (l.length≤1000000000) (cond (totB f l) (some (isortF f l)) none)
def cfv (f:α→α→Option Int) (a b:α):Int:=(f a b).getD 0
structure TotF (f:α→α→Option Int) (l:List α):Prop where
 get:∀ a∈l,∀ b∈l,f a b=some (cfv f a b)
 zero:∀ a∈l,∀ b∈l,cfv f a b=0→a=b
 self:∀ a∈l,cfv f a a=0
 swap:∀ a∈l,∀ b∈l,(cfv f a b<0↔0<cfv f b a)
 trans:∀ a∈l,∀ b∈l,∀ c∈l,cfv f a b<0→cfv f b c<0→cfv f a c<0
theorem totB_iff [DecidableEq α] {f:α→α→Option Int} {l:List α} (h:totB f l=true):TotF f l:=by
 have key:∀ a∈l,∀ b∈l,∃ m n,f a b=some m∧f b a=some n∧(m=0↔a=b)∧(m<0↔0<n)∧∀ c∈l,m<0→(∃ x,f b c=some x∧x<0)→∃ x,f a c=some x∧x<0:=by
  intro a ha b hb
  have h1:=List.all_eq_true.1 (List.all_eq_true.1 h a ha) b hb
  cases e1:f a b with
  | none=>rw [e1] at h1;cases h1
  | some m =>
   cases e2:f b a with
   | none=>rw [e1,e2] at h1;cases h1
   | some n =>
    rw [e1,e2] at h1
    simp only [Bool.and_eq_true] at h1
    obtain ⟨⟨⟨h2,h3⟩,_⟩,h5⟩:=h1
    refine ⟨m,n,rfl,rfl,?_,?_,fun c hc hm ⟨x,hx,hx0⟩=>?_⟩
    ·have h2:=eq_of_beq h2
     simpa using h2
    ·have h3:=eq_of_beq h3
     simpa using h3
    ·have h6:=List.all_eq_true.1 h5 c hc
     rw [hx] at h6
     simp only [hm,hx0,decide_true,Bool.and_self,Bool.not_true,Bool.false_or] at h6
     cases e3:f a c with
     | none=>rw [e3] at h6;cases h6
     | some y=>rw [e3] at h6;exact ⟨y,rfl,by simpa using h6⟩
 have get:∀ a∈l,∀ b∈l,f a b=some (cfv f a b):=fun a ha b hb=>by
  obtain ⟨m,n,e1,_⟩:=key a ha b hb
  unfold cfv
  rw [e1]
  rfl
 refine ⟨get,fun a ha b hb=>?_,fun a ha=>?_,fun a ha b hb=>?_,fun a ha b hb c hc h1 h2=>?_⟩
 ·obtain ⟨m,n,e1,e2,h3,_⟩:=key a ha b hb
  rw [get a ha b hb] at e1
  injection e1 with e1
  rw [e1]
  exact h3.1
 ·obtain ⟨m,n,e1,e2,h3,_⟩:=key a ha a ha
  rw [get a ha a ha] at e1
  injection e1 with e1
  rw [e1]
  exact h3.2 rfl
 ·obtain ⟨m,n,e1,e2,h3,h4,_⟩:=key a ha b hb
  rw [get a ha b hb] at e1
  rw [get b hb a ha] at e2
  injection e1 with e1
  injection e2 with e2
  rw [e1,e2]
  exact h4
 ·obtain ⟨m,n,e1,e2,h3,h4,h5⟩:=key a ha b hb
  rw [get a ha b hb] at e1
  injection e1 with e1
  obtain ⟨x,hx,hx0⟩:=h5 c hc (by omega) ⟨_,get b hb c hc,h2⟩
  rw [get a ha c hc] at hx
  injection hx with hx
  omega
theorem TotF.sub {f:α→α→Option Int} {l l':List α} (T:TotF f l) (h:∀ x∈l',x∈l):TotF f l' :=
 ⟨fun a ha b hb=>T.get a (h a ha) b (h b hb),fun a ha b hb=>T.zero a (h a ha) b (h b hb),fun a ha=>T.self a (h a ha),fun a ha b hb=>T.swap a (h a ha) b (h b hb),fun a ha b hb c hc=>T.trans a (h a ha) b (h b hb) c (h c hc)⟩
def NGt (f:α→α→Option Int) (a b:α):Prop:=¬ cfv f b a<0
theorem TotF.ngt_trans {f:α→α→Option Int} {l:List α} (T:TotF f l) {a b c:α} (ha:a∈l) (hb:b∈l) (hc:c∈l) (h1:NGt f a b) (h2:NGt f b c):NGt f a c:=by
 intro h3
 have s1:=T.swap a ha b hb
 have s2:=T.swap b hb c hc
 have s3:=T.swap c hc a ha
 have t1:=T.swap b hb a ha
 have t2:=T.swap c hc b hb
 unfold NGt at h1 h2
 by_cases e1:cfv f b a=0
 ·have:=T.zero b hb a ha e1
  subst this
  exact h2 h3
 ·by_cases e2:cfv f c b=0
  ·have:=T.zero c hc b hb e2
   subst this
   exact h1 h3
  ·have h4:cfv f a b<0:=s1.2 (by omega)
   have h5:=T.trans c hc a ha b hb h3 h4
   exact h2 h5
theorem insF_le {f:α→α→Option Int} {x y:α} {l:List α} {m:Int} (h:f x y=some m) (hm:m≤0):insF f x (y::l)=x::y::l:=by
 simp [insF,h,hm]
theorem insF_gt {f:α→α→Option Int} {x y:α} {l:List α} {m:Int} (h:f x y=some m) (hm:¬ m≤0):insF f x (y::l)=y::insF f x l:=by
 simp [insF,h,hm]
theorem zji (f:α→α→Option Int) (x:α):∀ l:List α,(insF f x l).Perm (x::l)
 | []=>List.Perm.refl _
 | y::l=>by
  cases h:f x y with
  | none=>simp [insF,h]
  | some m =>
   by_cases hm:m≤0
   ·rw [insF_le h hm]
   ·rw [insF_gt h hm]
    exact ((zji f x l).cons y).trans (List.Perm.swap x y l)
theorem zcm (f:α→α→Option Int):∀ l:List α,(isortF f l).Perm l
 | []=>List.Perm.refl _
 | x::l=>(zji f x _).trans ((zcm f l).cons x)
theorem zkd {f:α→α→Option Int} {x:α}:∀ {l:List α},TotF f (x::l)→l.Pairwise (NGt f)→(insF f x l).Pairwise (NGt f)
 | [],_,_=>List.pairwise_singleton _ _
 | y::l,T,h=>by
  have hx:x∈x::y::l:=by simp
  have hy:y∈x::y::l:=by simp
  have hc:=List.pairwise_cons.1 h
  by_cases hd:cfv f x y≤0
  ·rw [insF_le (T.get x hx y hy) hd]
   have hxy:NGt f x y:=fun h0=>by
    have:=(T.swap y hy x hx).1 h0
    omega
   exact List.pairwise_cons.2 ⟨fun z hz=>by
    rcases List.mem_cons.1 hz with rfl | hz'
    ·exact hxy
    ·exact T.ngt_trans hx hy (by simp [hz']) hxy (hc.1 z hz'),h⟩
  ·rw [insF_gt (T.get x hx y hy) hd]
   have hyx:NGt f y x:=by unfold NGt;omega
   refine List.pairwise_cons.2 ⟨fun z hz=>?_,zkd (T.sub fun z hz=>?_) hc.2⟩
   ·rcases List.mem_cons.1 ((zji f x l).mem_iff.1 hz) with rfl | hz'
    ·exact hyx
    ·exact hc.1 z hz'
   ·rcases List.mem_cons.1 hz with rfl | hz'
    ·simp
    ·simp [hz']
theorem ze6 {f:α→α→Option Int}:∀ {l:List α},TotF f l→(isortF f l).Pairwise (NGt f)
 | [],_=>List.Pairwise.nil
 | x::l,T=>zkd (T.sub fun z hz=>by
   rcases List.mem_cons.1 hz with rfl | hz'
   ·simp
   ·exact List.mem_cons_of_mem _ ((zcm f l).mem_iff.1 hz')) (ze6 (T.sub fun z hz=>List.mem_cons_of_mem _ hz))
theorem zkh {f:α→α→Option Int}:∀ {l1 l2:List α},TotF f l1→l1.Perm l2→l1.Pairwise (NGt f)→l2.Pairwise (NGt f)→l1=l2
 | [],l2,_,hp,_,_=>(List.nil_perm.1 hp).symm
 | x::l1,[],_,hp,_,_=>absurd hp.length_eq (by simp)
 | x::l1,y::l2,T,hp,h1,h2=>by
  have p1:=List.pairwise_cons.1 h1
  have p2:=List.pairwise_cons.1 h2
  have hx:x∈x::l1:=by simp
  have hy:y∈x::l1:=hp.mem_iff.2 (by simp)
  have e:x=y:=by
   rcases List.mem_cons.1 hy with e | hy'
   ·exact e.symm
   ·have hxy:=p1.1 y hy'
    rcases List.mem_cons.1 (hp.mem_iff.1 hx) with e | hx'
    ·exact e
    ·have hyx:=p2.1 x hx'
     have s1:=T.swap y hy x hx
     have s2:=T.swap x hx y hy
     unfold NGt at hxy hyx
     exact T.zero x hx y hy (by omega)
  subst e
  rw [zkh (T.sub fun z hz=>List.mem_cons_of_mem _ hz) (List.Perm.cons_inv hp) p1.2 p2.2]
end plain
section model
variable {α:Type}
def CmpG (P:Program) (g:FuncId) (X:α→IV) (f:α→α→Option Int):Prop :=
 ∀ (W:World) (S:Nat→Prop) (u u':Value) (x y:α) (r:Int),f x y=some r→RepI W S u (X x)→RepI W S u' (X y) →
  Calls P g #[u,u'] W fun e w'=>e=.returned (.int .i64 r)∧∃ q os,w'=Sort.grow (W.drewN q) os
def El (w:World) (S:Nat→Prop) (k:Nat) (c:α→List IV) (l:List α):Type:={ p:List Value×α // p.1.length=k∧(∀ v∈p.1,v.oneCell'=true)∧RepIs w S p.1 (c p.2)∧p.2∈l }
variable {w:World} {S:Nat→Prop} {k:Nat} {c:α→List IV} {l:List α}
def El.enc (x:El w S k c l):List Value:=x.val.1
def El.wd (x:El w S k c l):α:=x.val.2
def El.of (us:List Value) (x:α) (h1:us.length=k) (h2:∀ v∈us,v.oneCell'=true) (h3:RepIs w S us (c x)) (h4:x∈l):El w S k c l:=⟨(us,x),h1,h2,h3,h4⟩
theorem el_list (hk:∀ x,(c x).length=k):∀ (l0:List α) (us:List Value),(∀ x∈l0,x∈l)→us.length=(l0.map c).flatten.length→(∀ u∈us,u.oneCell'=true) →
  (∀ (i:Nat) u x,us[i]?=some u→(l0.map c).flatten[i]?=some x→RepI w S u x)→∃ zs:List (El w S k c l),(zs.map El.enc).flatten=us∧zs.map El.wd=l0
 | [],us,_,hl,_,_=>⟨[],(List.eq_nil_of_length_eq_zero hl).symm,rfl⟩
 | x::l0,us,hm,hl,h1,hr=>by
  rw [List.map_cons,List.flatten_cons] at hl hr
  rw [List.length_append,hk] at hl
  obtain ⟨zs,e1,e2⟩:=el_list hk l0 (us.drop k) (fun y hy=>hm y (List.mem_cons_of_mem _ hy)) (by rw [List.length_drop];omega) (fun u hu=>h1 u (List.mem_of_mem_drop hu)) fun i u y hu hy=>by
   rw [List.getElem?_drop] at hu
   refine hr (k+i) u y hu ?_
   rw [List.getElem?_append,if_neg (by rw [hk];omega),hk]
   rwa [Nat.add_sub_cancel_left]
  have hx1:(us.take k).length=k:=by rw [List.length_take];omega
  have hx2:∀ v∈us.take k,v.oneCell'=true:=fun u hu=>h1 u (List.mem_of_mem_take hu)
  have hx3:RepIs w S (us.take k) (c x):=⟨by rw [hx1,hk],fun i u y hu hy=>by
   have hi:i<k:=by
    rw [← hk x]
    exact (List.getElem?_eq_some_iff.1 hy).1
   rw [List.getElem?_take,if_pos hi] at hu
   exact hr i u y hu (by rw [List.getElem?_append,if_pos (by rw [hk];exact hi)];exact hy)⟩
  refine ⟨El.of (us.take k) x hx1 hx2 hx3 (hm x (by simp))::zs,?_,?_⟩
  ·rw [List.map_cons,List.flatten_cons,e1]
   exact List.take_append_drop k us
  ·rw [List.map_cons,e2]
   rfl
theorem el_swo {f:α→α→Option Int} (T:TotF f l):SWO (ltOf fun x y:El w S k c l=>cfv f x.wd y.wd) where
 irrefl x:=by
  have:=T.self x.wd x.property.2.2.2
  simp [ltOf,this]
 trans x y z h1 h2:=by
  simp only [ltOf,decide_eq_true_eq] at *
  exact T.trans _ x.property.2.2.2 _ y.property.2.2.2 _ z.property.2.2.2 h1 h2
 ntrans x y z h1 h2:=by
  simp only [ltOf,decide_eq_false_iff_not] at *
  exact T.ngt_trans z.property.2.2.2 y.property.2.2.2 x.property.2.2.2 h2 h1
def SortC (P:Program) (sg:FuncId) (k:Nat) (mk:List Value→Value):Prop :=
 (∀ (p:Option Addr) (cap:Nat) (fv:Value) (w:World),Calls P sg #[.slice p 0 cap,fv] w fun e w'=>e=.returned (.tuple #[])∧w'=w) ∧
 ∀ (E:Type) [Inhabited E] (enc:E→List Value) (cf:E→E→Int) (g blk cap:Nat) (d:Array E) (w:World),(∀ x,(enc x).length=k)→(∀ x,∀ v∈enc x,v.oneCell'=true)→SWO (ltOf cf) →
  (∀ args w,(callFunc g args).run P w=.ok (.enter g args) w) →
  (∀ (m:Nat) (os:Array Obj) (dk:Array E),dk.size=d.size→∀ x y:E,Calls P g #[mk (enc x),mk (enc y)] (Sort.grow (putRow id (Sort.ahead w m) blk 0 (Go.Sort.flatK enc k dk)) os) fun e w' =>
   e=.returned (.int .i64 (cf x y))∧∃ q os',w'=Sort.grow ((Sort.grow (putRow id (Sort.ahead w m) blk 0 (Go.Sort.flatK enc k dk)) os).drewN q) os') →
  Go.Sort.Holds id w blk 0 (Go.Sort.flatK enc k d)→blk<w.heap.size→d.size<4611686018427387904 →
  Calls P sg #[.slice (some ⟨blk,0,none⟩) d.size cap,.func (.func g) #[] #[]] w fun e w' =>
   e=.returned (.tuple #[])∧∃ d' n os,PermIn 0 d.size d d'∧SortedIn (ltOf cf) 0 d.size d'∧w'=Sort.grow (putRow id (Sort.ahead w n) blk 0 (Go.Sort.flatK enc k d')) os
theorem perm_of_in' {β:Type} [Inhabited β] {d d':Array β} (h:PermIn 0 d.size d d'):d'.toList.Perm d.toList:=by
 obtain ⟨hs,_,hp⟩:=h
 have e1:d'.extract 0 d.size=d':=by rw [← hs];simp
 have e2:d.extract 0 d.size=d:=by simp
 rwa [e1,e2] at hp
theorem zj8 {β:Type} [Inhabited β] {lt:β→β→Bool} {d:Array β} {n:Nat} (hn:d.size=n) (h:SortedIn lt 0 n d):d.toList.Pairwise fun a b=>lt b a=false:=by
 rw [List.pairwise_iff_getElem]
 intro i j hi hj hij
 have:=h i j (Nat.zero_le _) hij (by rw [← hn];simpa using hj)
 simp at hi hj
 simpa [getElem!_pos,hi,hj] using this
theorem zl0 {β:Type} [Inhabited β] {enc:β→List Value} {k:Nat} (hk:∀ x,(enc x).length=k) (d:Array β):Go.Sort.flatK enc k d=(d.toList.map enc).flatten.toArray:=by
 have hl:((d.toList.map enc).flatten).length=d.size*k:=by
  rw [zaz (k:=k) fun x hx=>by obtain ⟨y,_,rfl⟩:=List.mem_map.1 hx;exact hk y]
  simp
 refine ext_get! (by simp [hl]) fun t ht=>?_
 rw [size_flatK] at ht
 rw [get_flatK _ _ _ t ht]
 have k0:0<k:=by
  rcases Nat.eq_zero_or_pos k with h | h
  ·subst h;simp at ht
  ·exact h
 have hq:t / k<d.size:=Nat.div_lt_of_lt_mul (by rwa [Nat.mul_comm] at ht)
 have hm:t%k<k:=Nat.mod_lt _ k0
 have hg:=flat_get (es:=d.toList.map enc) (i:=t / k) (j:=t%k) (e:=enc (d[t / k]'hq)) (fun x hx=>by obtain ⟨y,_,rfl⟩:=List.mem_map.1 hx;exact hk y) (by simp [hq]) hm
 rw [show t / k*k+t%k=t by rw [Nat.mul_comm];exact Nat.div_add_mod t k] at hg
 have hm2:t%k<(enc (d[t / k]'hq)).length:=by rw [hk];exact hm
 rw [List.getElem?_eq_getElem hm2,List.getElem?_eq_getElem (by rw [hl];exact ht)] at hg
 injection hg with hg
 rw [getElem!_pos d _ hq,getElem!_pos (enc (d[t / k]'hq)) (t%k) hm2,getElem!_pos ((d.toList.map enc).flatten.toArray) t (by simpa [hl] using ht)]
 simpa using hg.symm
theorem own_put {w:World} {base:Nat} {e:TypeId} {g n cap k q:Nat} {us us':List Value} {os:Array Obj} (h:w.ownsRow base e k (.slice (some ⟨g,0,none⟩) n cap) n us) (hl:us'.length=n*k) :
  (Sort.grow (putRow id (Sort.ahead w q) g 0 us'.toArray) os).ownsRow base e k (.slice (some ⟨g,0,none⟩) n cap) n us':=by
 rcases h.2 with ⟨e0,_⟩ | ⟨g',cap',cur,e0,hb,hg,hn,hm,hs,ht⟩
 ·cases e0
 ·injection e0 with e1 _ e3
  injection e1 with e1
  injection e1 with e1
  subst e1;subst e3
  have hlt:g<w.heap.size:=by
   rcases Nat.lt_or_ge g w.heap.size with h' | h'
   ·exact h'
   ·rw [Array.getElem?_eq_none h'] at hg;cases hg
  refine ⟨hl,.inr ⟨g,cap,putCells id 0 us'.toArray cur,rfl,hb,?_,hn,hm,by simpa [putCells] using hs,?_⟩⟩
  ·have:g<(putRow id (Sort.ahead w q) g 0 us'.toArray).heap.size:=by simpa [putRow,mapBlock,Sort.ahead] using hlt
   simp only [Sort.grow,Array.getElem?_append,if_pos this]
   simp [putRow,mapBlock,Sort.ahead,Array.getElem?_modify,hg,onCells]
  ·have hle:n*k≤cap*k:=Nat.mul_le_mul_right k hn
   apply List.ext_getElem?
   intro j
   rw [List.getElem?_take,Array.getElem?_toList]
   by_cases hj:j<n*k
   ·have hjc:j<cur.size:=by omega
    rw [if_pos hj]
    simp only [putCells,Array.getElem?_mapIdx,Array.getElem?_eq_getElem hjc,Option.map_some]
    rw [if_pos (by simp;omega),List.getElem?_eq_getElem (by omega)]
    simp [getElem!_pos,show j<us'.length by omega]
   ·rw [if_neg hj,List.getElem?_eq_none (by omega)]
theorem holds_own {w:World} {base:Nat} {e:TypeId} {g n cap k:Nat} {us:List Value} (h:w.ownsRow base e k (.slice (some ⟨g,0,none⟩) n cap) n us):Go.Sort.Holds id w g 0 us.toArray:=by
 rcases h.2 with ⟨e0,_⟩ | ⟨g',cap',cur,e0,hb,hg,hn,hm,hs,ht⟩
 ·cases e0
 ·injection e0 with e1 _ e3
  injection e1 with e1
  injection e1 with e1
  subst e1;subst e3
  intro j hj
  have hj':j<us.length:=by simpa using hj
  have hjn:j<n*k:=by rw [← h.1];exact hj'
  have hle:n*k≤cap*k:=Nat.mul_le_mul_right k hn
  have hjc:j<cur.size:=by omega
  have e1:(cur.toList.take (n*k))[j]?=us[j]?:=by rw [ht]
  rw [List.getElem?_take,if_pos hjn,Array.getElem?_toList,List.getElem?_eq_getElem hj'] at e1
  refine ⟨?_,by simp [World.frozen?,hg]⟩
  simp only [World.cell?,hg,Nat.zero_add,Option.isSome_none,Bool.false_eq_true,if_false]
  rw [e1]
  simp [getElem!_pos,hj']
theorem put_block {w:World} {g q:Nat} {F:Array Value} {os:Array Obj} {b:Nat} (hb:b<w.heap.size) (hne:b≠g):(Sort.grow (putRow id (Sort.ahead w q) g 0 F) os).heap[b]?=w.heap[b]?:=by
 have:b<(putRow id (Sort.ahead w q) g 0 F).heap.size:=by simpa [putRow,mapBlock,Sort.ahead] using hb
 simp only [Sort.grow,Array.getElem?_append,if_pos this]
 simp [putRow,mapBlock,Sort.ahead,Array.getElem?_modify,Ne.symm hne]
theorem put_cell {w:World} {g q:Nat} {F:Array Value} {os:Array Obj} {p:Addr} {u:Value} (hne:p.block≠g) (h:w.cell? p=some u):(Sort.grow (putRow id (Sort.ahead w q) g 0 F) os).cell? p=some u:=by
 have hlt:=World.block_lt_of_cell? w _ h
 unfold World.cell? at h ⊢
 rw [put_block hlt hne]
 exact h
theorem sp_of_sort [DecidableEq α] {P:Program} {sg:FuncId} {mk:List Value→Value} {t:TypeId} {X:α→IV} (he:∀ args w,(callFunc sg args).run P w=.ok (.enter sg args) w) (C:SortC P sg k mk) (hk0:0<k) (hk:∀ x,(c x).length=k)
  (hX:∀ (W:World) (S:Nat→Prop) us x,us.length=k→(∀ v∈us,v.oneCell'=true)→RepIs W S us (c x)→RepI W S (mk us) (X x))
  {f:α→α→Option Int} {g:FuncId} (eg:∀ args w,(callFunc g args).run P w=.ok (.enter g args) w) (hg:CmpG P g X f) {l r:List α} (h:libSort l f=some r) :
  Sp P sg [.lent (.row t k (l.map c)),.im (.fn g [])] (.mk true [] [.lent (.row t k (r.map c))]):=by
 obtain ⟨hlen,h⟩:=chk_some h
 cases hT:totB f l with
 | false=>rw [hT] at h;cases h
 | true =>
 rw [hT] at h
 injection h with h
 subst h
 have T:=totB_iff hT
 refine ⟨he,fun w S vs F hS hv hn hF=>?_⟩
 match vs,hv with
 | [v,u],⟨F1,F2,⟨hv1,inn,hrow,e1⟩,⟨F3,F4,⟨h4,e2⟩,h5,e3⟩,e4⟩ =>
  have h5:F4=[]:=h5
  have e1:F1=(blkOf v).toList:=e1
  subst e1 e2 h5 e3
  have e4:F=(blkOf v).toList:=by rw [e4];simp
  subst e4
  obtain ⟨us,_,_,hlim,hown,hul,h1,hr⟩:=hrow
  rw [List.length_map] at hown hlim
  have hu:u=.func (.func g) #[] #[]:=by
   generalize hx:IV.fn g []=x at h4
   cases h4 with
   | fn f us cs hl hr =>
    injection hx with hx1 hx2
    subst hx1 hx2
    have:=List.eq_nil_of_length_eq_zero hl
    subst this
    rfl
   | _=>cases hx
  subst hu
  have fin:∀ (w':World) (us':List Value),w'.ownsRow 0 t k v l.length us'→us'.length=((isortF f l).map c).flatten.length→(∀ u∈us',u.oneCell'=true) →
    Belo (fun b=>b∈(blkOf v).toList) w.heap.size w w'→(∀ (i:Nat) u x,us'[i]?=some u→((isortF f l).map c).flatten[i]?=some x→RepI w' (fun b=>(S b∨w.heap.size≤b∨b∈(blkOf v).toList)∧b<w'.heap.size∧b∉(blkOf v).toList) u x) →
    ∃ (v1:Value) (F':List Nat),Ending.returned (.tuple #[])=.returned v1∧Belo (fun b=>b∈(blkOf v).toList) w.heap.size w w' ∧
     ResOk w' (fun b=>(S b∨w.heap.size≤b∨b∈(blkOf v).toList)∧b<w'.heap.size∧b∉F') v1 (bxVs [v,.func (.func g) #[] #[]] [.lent (.row t k (l.map c)),.im (.fn g [])]) (.mk true [] [.lent (.row t k ((isortF f l).map c))]) F'∧F'.Nodup∧∀ b∈F',(w.heap.size≤b∨b∈(blkOf v).toList)∧b<w'.heap.size:=by
   intro w' us' ho hl' h1' hb hr'
   refine ⟨_,(blkOf v).toList,rfl,hb,⟨[],[],(blkOf v).toList,rfl,rfl,⟨(blkOf v).toList,[],⟨hv1,inn,⟨us',hk0,fun x hx=>?_,?_,?_,hl',h1',hr'⟩,rfl⟩,rfl,by simp⟩,by simp⟩,hn,fun b hb'=>⟨.inr hb',Nat.lt_of_lt_of_le (hF b hb').2 hb.size⟩⟩
   ·obtain ⟨y,_,rfl⟩:=List.mem_map.1 hx
    exact hk y
   ·rw [List.length_map,(zcm f l).length_eq]
    exact hlim
   ·rw [List.length_map,(zcm f l).length_eq]
    exact ho
  by_cases hnil:v=.slice none 0 0
  ·subst hnil
   have hl0:l.length=0:=by
    rcases hown.2 with ⟨_,h0⟩ | ⟨_,_,_,e,_⟩
    ·exact h0
    ·cases e
   have hl0:l=[]:=List.eq_nil_of_length_eq_zero hl0
   subst hl0
   refine (C.1 none 0 _ w).mono ?_
   rintro e w' ⟨rfl,rfl⟩
   have hus:us=[]:=List.eq_nil_of_length_eq_zero (by rw [hul];rfl)
   subst hus
   exact fin w' [] hown rfl (fun u hu=>by cases hu) (Belo.refl _ _ _) fun i u x hu=>by simp at hu
  ·obtain ⟨blk,cap,rfl⟩:∃ blk cap,v=.slice (some ⟨blk,0,none⟩) l.length cap:=by
    rcases hown.2 with ⟨e0,_⟩ | ⟨g,cap,cur,e,_⟩
    ·exact absurd e0 hnil
    ·exact ⟨g,cap,e⟩
   have hblk:blk<w.heap.size:=(hF blk (by simp [blkOf])).2
   have hnS:¬ S blk:=(hF blk (by simp [blkOf])).1
   obtain ⟨zs,hz1,hz2⟩:=el_list (w:=w) (S:=S) (l:=l) hk l us (fun x hx=>hx) hul h1 hr
   by_cases hl0:l=[]
   ·subst hl0
    refine (C.1 (some ⟨blk,0,none⟩) cap _ w).mono ?_
    rintro e w' ⟨rfl,rfl⟩
    have hus:us=[]:=List.eq_nil_of_length_eq_zero (by rw [hul];rfl)
    subst hus
    exact fin w' [] hown rfl (fun u hu=>by cases hu) (Belo.refl _ _ _) fun i u x hu=>by simp at hu
   ·have hzl:zs.length=l.length:=by have:=congrArg List.length hz2;simpa using this
    obtain ⟨z0,hz0⟩:∃ z,z∈zs:=by
     cases zs with
     | nil=>exact absurd (by simpa using hz2.symm) hl0
     | cons z zs=>exact ⟨z,by simp⟩
    haveI:Inhabited (El w S k c l):=⟨z0⟩
    have henc:∀ x:El w S k c l,(El.enc x).length=k:=fun x=>x.property.1
    have hflat:∀ d:Array (El w S k c l),Go.Sort.flatK El.enc k d=(d.toList.map El.enc).flatten.toArray:=zl0 henc
    have hcall:=C.2 (El w S k c l) El.enc (fun x y=>cfv f x.wd y.wd) g blk cap zs.toArray w henc (fun x=>x.property.2.1) (el_swo T) eg (fun m os dk _ x y=>by
      refine hg _ S _ _ x.wd y.wd _ (T.get _ x.property.2.2.2 _ y.property.2.2.2) (hX _ _ _ _ x.property.1 x.property.2.1 ⟨x.property.2.2.1.1,fun i u z hu hz=>?_⟩) (hX _ _ _ _ y.property.1 y.property.2.1 ⟨y.property.2.2.1.1,fun i u z hu hz=>?_⟩)
      ·exact (x.property.2.2.1.2 i u z hu hz).mono (fun _ h=>h) fun p u hp hu=>put_cell (fun e=>hnS (by rw [← e];exact hp)) hu
      ·exact (y.property.2.2.1.2 i u z hu hz).mono (fun _ h=>h) fun p u hp hu=>put_cell (fun e=>hnS (by rw [← e];exact hp)) hu)
     (by rw [hflat];show Go.Sort.Holds id w blk 0 ((zs.map El.enc).flatten).toArray;rw [hz1];exact holds_own hown) hblk (by simp;omega)
    have hsz:zs.toArray.size=l.length:=by simpa using hzl
    rw [hsz] at hcall
    refine hcall.mono ?_
    rintro e w' ⟨rfl,d',n,os,hp,hs,rfl⟩
    have hd':d'.size=l.length:=by rw [hp.1];exact hsz
    have hperm:=perm_of_in' (d:=zs.toArray) (by rw [hsz];exact hp)
    have hpw:=zj8 hd' hs
    have hwd:d'.toList.map El.wd=isortF f l:=by
     have hp1:(d'.toList.map El.wd).Perm l:=(hperm.map El.wd).trans (List.Perm.of_eq hz2)
     refine zkh (T.sub fun x hx=>hp1.mem_iff.1 hx) (hp1.trans (zcm f l).symm) ?_ (ze6 T)
     rw [List.pairwise_map]
     refine hpw.imp fun {a b} hab=>?_
     have hab2:¬ cfv f b.wd a.wd<0:=by simpa only [ltOf,decide_eq_false_iff_not] using hab
     exact hab2
    rw [hflat]
    have hlen':((d'.toList.map El.enc).flatten).length=l.length*k:=by
     rw [zaz (k:=k) fun x hx=>by obtain ⟨y,_,rfl⟩:=List.mem_map.1 hx;exact henc y]
     simp [hd']
    have hflen:((isortF f l).map c).flatten.length=l.length*k:=by
     rw [zaz (k:=k) fun x hx=>by obtain ⟨y,_,rfl⟩:=List.mem_map.1 hx;exact hk y,List.length_map,(zcm f l).length_eq]
    refine fin _ _ (own_put hown hlen') (by rw [hlen',hflen]) (fun u hu=>?_) ⟨rfl,rfl,rfl,?_,fun b hb hnb=>put_block hb fun e=>hnb (by simp [blkOf,e])⟩ fun i u x hu hx=>?_
    ·obtain ⟨us2,h2,h3⟩:=List.mem_flatten.1 hu
     obtain ⟨y,_,rfl⟩:=List.mem_map.1 h2
     exact y.property.2.1 u h3
    ·simp [Sort.grow,putRow,mapBlock,Sort.ahead]
    ·have hi:i<l.length*k:=by rw [← hlen'];exact (List.getElem?_eq_some_iff.1 hu).1
     have hq:i / k<l.length:=Nat.div_lt_of_lt_mul (by rwa [Nat.mul_comm] at hi)
     have hm:i%k<k:=Nat.mod_lt _ hk0
     have hik:i / k*k+i%k=i:=by rw [Nat.mul_comm];exact Nat.div_add_mod i k
     have hq':i / k<d'.size:=by rw [hd'];exact hq
     have g1:=flat_get (es:=d'.toList.map El.enc) (i:=i / k) (j:=i%k) (e:=El.enc (d'[i / k]'hq')) (fun x hx=>by obtain ⟨y,_,rfl⟩:=List.mem_map.1 hx;exact henc y) (by simp [hq']) hm
     have g2:=flat_get (es:=(isortF f l).map c) (i:=i / k) (j:=i%k) (e:=c (El.wd (d'[i / k]'hq'))) (fun x hx=>by obtain ⟨y,_,rfl⟩:=List.mem_map.1 hx;exact hk y) (by rw [← hwd];simp [hq']) hm
     rw [hik,hu] at g1
     rw [hik,hx] at g2
     refine ((d'[i / k]'hq').property.2.2.1.2 _ _ _ g1.symm g2.symm).mono (fun b hb=>⟨.inl hb,?_,?_⟩) fun p u hp hu=>put_cell (fun e=>hnS (by rw [← e];exact hp)) hu
     ·have:w.heap.size≤(Sort.grow (putRow id (Sort.ahead w n) blk 0 ((d'.toList.map El.enc).flatten).toArray) os).heap.size:=by simp [Sort.grow,putRow,mapBlock,Sort.ahead]
      exact Nat.lt_of_lt_of_le (hS b hb) this
     ·intro hb'
      have:b=blk:=by simpa [blkOf] using hb'
      subst this
      exact hnS hb
end model
end Go.Proofs.YtcneaiejdidooaaGreat.Sym

/-
 Plain laws on the key of a word: the digits at base 36, and that no two words have the same key. No program in sight.
-/
namespace Go.Proofs.YtcneaiejdidooaaGreat
end Go.Proofs.YtcneaiejdidooaaGreat

/-
 Walks of strconv.AppendInt at base 36 (internal/strconv.AppendInt, AppendUint, formatBits).
-/
namespace Go.Proofs.YtcneaiejdidooaaGreat
open Go.RowKit
def bcells (l:List UInt8):List Value:=l.map fun b=>.int .u8 (b.toNat:Int)
def OwnB (w:World) (base:Nat) (v:Value) (l:List UInt8):Prop:=w.ownsRow base 5 1 v l.length (bcells l)
theorem OwnB.lt {w:World} {base:Nat} {v:Value} {l:List UInt8} (h:OwnB w base v l):∀ k,v.ownBlock=some k→base≤k∧k<w.heap.size:=World.ownsRow.lt h
def Dig (zs:List Value) (i:Nat) (l:List UInt8):Prop:=zs.length=65∧zs.drop i=bcells l
theorem Dig.push {zs:List Value} {j:Nat} {m:List UInt8} (h:Dig zs (j+1) m) (hj:j<65) (c:UInt8):Dig (zs.set j (.int .u8 (c.toNat:Int))) j (c::m):=by
 obtain ⟨h1,h2⟩:=h
 refine ⟨by simpa using h1,?_⟩
 rw [List.drop_eq_getElem_cons (by simp;omega),List.getElem_set_self,List.drop_set_of_lt (by omega),h2]
 rfl
end Go.Proofs.YtcneaiejdidooaaGreat

/-
 The contract of the key of a word.
-/
namespace Go.Proofs.YtcneaiejdidooaaGreat.Sym
open Go.RowKit
theorem zgf {w:World} {S:Nat→Prop} {v:Value} {l:List Int} (h:RepI w S v (nL cI l)):∃ A n c,v=.slice A n c∧RowOf w IsInt A n c l:=by
 have h:RepI w S v (.sl (l.map cI)):=h
 generalize he:l.map cI=es at h
 cases h with
 | emp A c =>
  have:l=[]:=by simpa using he
  subst this
  exact ⟨A,0,c,rfl,rfl,Nat.zero_le _,by omega,fun h=>by omega⟩
 | sl b o c k n _ us hn hk hc hs hS hl h1 hu hr =>
  subst he
  have hf:(l.map cI).flatten=l.map fun x=>nI x:=by
   clear hn hk hl hr h
   induction l with
   | nil=>rfl
   | cons x l ih=>rw [List.map_cons,List.flatten_cons,ih];rfl
  rw [hf] at hl hr
  refine ⟨_,_,_,rfl,by simpa using hn,hc,hs,fun _=>⟨b,o,rfl,fun i x hx=>?_⟩⟩
  have hi:i<us.length:=by rw [hl,List.length_map];exact (List.getElem?_eq_some_iff.1 hx).1
  have hg:=List.getElem?_eq_getElem hi
  refine ⟨_,hu i _ hg,?_⟩
  have:=hr i _ (nI x) hg (by rw [List.getElem?_map,hx];rfl)
  generalize us[i]=u at this
  cases this with
  | val _=>rfl
end Go.Proofs.YtcneaiejdidooaaGreat.Sym

/-
 Walks of cmp.Compare, slices.Compare, word.Lex, cmp.Or, word.Compare.
-/
namespace Go.Proofs.YtcneaiejdidooaaGreat
open Go.RowKit
def cmpI (x y:Int):Int:=if x<y then -1 else if y<x then 1 else 0
theorem zel (x y:Int) (w:World) :
  Calls Tryz.prog 102 #[.int .i64 x,.int .i64 y] w fun e w'=>e=.returned (.int .i64 (cmpI x y))∧w=w':=by
 by_cases h1:x<y
 ·go_enter Tryz.func102,Tryz.ntmps102
  go_wp2
  go_ret
  exact ⟨ret_int (by unfold cmpI;rw [if_pos h1]),rfl⟩
 ·by_cases h2:y<x
  ·go_enter Tryz.func102,Tryz.ntmps102
   go_wp2
   go_ret
   exact ⟨ret_int (by unfold cmpI;rw [if_neg (by omega),if_pos h2]),rfl⟩
  ·go_enter Tryz.func102,Tryz.ntmps102
   go_wp2
   go_ret
   exact ⟨ret_int (by unfold cmpI;rw [if_neg (by omega),if_neg (by omega)]),rfl⟩
theorem lexI_step {xs ys:List Int} {k:Nat} {x y:Int} (hx:xs[k]?=some x) (hy:ys[k]?=some y) :
  lexI (xs.drop k) (ys.drop k)=if cmpI x y=0 then lexI (xs.drop (k+1)) (ys.drop (k+1)) else cmpI x y:=by
 obtain ⟨h1,h1'⟩:=List.getElem?_eq_some_iff.1 hx
 obtain ⟨h2,h2'⟩:=List.getElem?_eq_some_iff.1 hy
 rw [List.drop_eq_getElem_cons h1,List.drop_eq_getElem_cons h2,h1',h2']
 simp only [lexI,cmpI]
 by_cases a:x<y
 ·simp [a]
 ·by_cases b:y<x
  ·simp [a,b]
  ·simp [a,b]
theorem lexI_long {xs ys:List Int} {k:Nat} (h1:k<xs.length) (h2:ys.length≤k):lexI (xs.drop k) (ys.drop k)=1:=by
 rw [List.drop_eq_getElem_cons h1,List.drop_eq_nil_of_le h2];rfl
theorem lexI_end {xs ys:List Int} {k:Nat} (h1:xs.length≤k):lexI (xs.drop k) (ys.drop k)=if k<ys.length then -1 else 0:=by
 rw [List.drop_eq_nil_of_le h1]
 by_cases h2:k<ys.length
 ·rw [if_pos h2,List.drop_eq_getElem_cons h2];rfl
 ·rw [if_neg h2,List.drop_eq_nil_of_le (by omega)];rfl
set_option maxHeartbeats 800000 in
theorem zew {A B:Option Addr} {n c m c':Nat} {xs ys:List Int} {w:World} (hx:RowOf w IsInt A n c xs) (hy:RowOf w IsInt B m c' ys) :
  Calls Tryz.prog 89 #[.slice A n c,.slice B m c'] w fun e w'=>e=.returned (.int .i64 (lexI xs ys))∧w=w':=by
 have hn:=hx.small
 have hm:=hy.small
 have HL:=Lib.hid (And.intro hx.len hy.len)
 go_enter Tryz.func89,Tryz.ntmps89
 go_wp2
 go_loop [5,6,7,8,11] (fun _ _ _ _ i=>∃ k:Nat,k≤n∧k≤m∧i=.int .i64 k∧Hid (lexI xs ys=lexI (xs.drop k) (ys.drop k))) (fun _ _ _ _ i=>n-(intOf i).toNat)
 case atStart=>exact ⟨0,by omega,by omega,rfl,Lib.hid (by simp)⟩
 case round =>
  obtain ⟨k,hk,hk',rfl,HT⟩:=hrel
  by_cases h1:k<n
  ·obtain ⟨b,o,x,rfl,hx1,hx2⟩:=hx.int_at h1
   have HX:=Lib.hid hx1
   clear hx1
   by_cases h2:k<m
   ·obtain ⟨b',o',y,rfl,hy1,hy2⟩:=hy.int_at h2
    have HY:=Lib.hid hy1
    clear hy1
    have hst:=lexI_step HX.out HY.out
    by_cases h3:cmpI x y=0
    ·rw [if_pos h3] at hst
     have HST:=Lib.hid hst
     have d3:(cmpI x y != 0)=false:=by simp [h3]
     have H3:=Lib.hid h3
     clear h3 hst
     go_wp2_with (go_at_call 102;refine (zel _ _ _).mono ?_;rintro e w' ⟨rfl,rfl⟩)
     go_round
     case rel=>exact ⟨k+1,by omega,by omega,by go_num,Lib.hid (by rw [HT.out,HST.out])⟩
     case measure=>simp [intOf];omega
    ·rw [if_neg h3] at hst
     have HST:=Lib.hid hst
     have d3:(cmpI x y != 0)=true:=by simp [h3]
     clear h3 hst
     go_wp2_with (go_at_call 102;refine (zel _ _ _).mono ?_;rintro e w' ⟨rfl,rfl⟩)
     go_ret
     exact ⟨ret_int (by rw [HT.out,HST.out]),rfl⟩
   ·go_wp2
    go_ret
    obtain ⟨h3,h4⟩:=HL.out
    exact ⟨ret_int (by rw [HT.out,lexI_long (by omega) (by omega)]),rfl⟩
  ·obtain ⟨h3,h4⟩:=HL.out
   have HE:=Lib.hid (lexI_end (xs:=xs) (ys:=ys) (k:=k) (by omega))
   clear h3 h4
   by_cases h2:n<m
   ·go_wp2
    go_ret
    obtain ⟨h3,h4⟩:=HL.out
    exact ⟨ret_int (by rw [HT.out,HE.out,if_pos (by omega)]),rfl⟩
   ·go_wp2
    go_ret
    obtain ⟨h3,h4⟩:=HL.out
    exact ⟨ret_int (by rw [HT.out,HE.out,if_neg (by omega)]),rfl⟩
theorem wordLex_any {A B:Option Addr} {n c m c':Nat} {xs ys:List Int} {w:World} (hx:RowOf w IsInt A n c xs) (hy:RowOf w IsInt B m c' ys) :
  Calls Tryz.prog 61 #[.slice A n c,.slice B m c'] w fun e w'=>e=.returned (.int .i64 (lexI xs ys))∧w=w':=by
 go_enter Tryz.func61,Tryz.ntmps61
 go_wp2_with (go_at_call 89;refine (zew hx hy).mono ?_;rintro e w' ⟨rfl,rfl⟩)
 go_ret
 exact ⟨rfl,rfl⟩
def orI (xs:List Int):Int:=(xs.find? fun a=>a != 0).getD 0
set_option maxHeartbeats 400000 in
theorem cmpOr_any {A:Option Addr} {n c:Nat} {xs:List Int} {w:World} (hx:RowOf w IsInt A n c xs) :
  Calls Tryz.prog 101 #[.slice A n c] w fun e w'=>e=.returned (.int .i64 (orI xs))∧w=w':=by
 have hns:=hx.small
 have HL:=Lib.hid hx.len
 go_enter Tryz.func101,Tryz.ntmps101
 go_wp2
 go_loop [5,8] (fun _ i=>∃ k:Nat,k≤n∧i=.int .i64 k∧Hid (((xs.take k).find? fun a=>a != 0)=none)) (fun _ i=>n-(intOf i).toNat)
 case atStart=>exact ⟨0,by omega,rfl,Lib.hid (by simp)⟩
 case round =>
  obtain ⟨k,hk,rfl,HT⟩:=hrel
  by_cases h1:k<n
  ·obtain ⟨b,o,x,rfl,hx1,hx2⟩:=hx.int_at h1
   have HX:=Lib.hid hx1
   clear hx1
   by_cases h2:x=0
   ·have d2:(x != 0)=false:=by simp [h2]
    have H2:=Lib.hid h2
    clear h2
    go_wp2
    go_round
    case rel=>exact ⟨k+1,by omega,by go_num,Lib.hid (by rw [zbz HX.out,List.find?_append,HT.out,H2.out];rfl)⟩
    case measure=>simp [intOf]<;>omega
   ·have d2:(x != 0)=true:=by simp [h2]
    go_wp2
    go_ret
    refine ⟨ret_int ?_,rfl⟩
    have hsp:=List.take_append_drop (k+1) xs
    unfold orI
    rw [← hsp,List.find?_append,zbz HX.out,List.find?_append,HT.out]
    simp [h2]
  ·go_wp2
   go_ret
   have ht:=HT.out
   rw [List.take_of_length_le (by rw [HL.out];omega)] at ht
   exact ⟨ret_int (by unfold orI;rw [ht];rfl),rfl⟩
theorem orI_cmp (xs ys:List Int):orI [cmpI xs.length ys.length,lexI xs ys]=cmpW xs ys:=by
 unfold orI cmpI cmpW
 by_cases h1:xs.length<ys.length
 ·rw [if_pos (by omega),if_pos h1];rfl
 ·by_cases h2:ys.length<xs.length
  ·rw [if_neg (by omega),if_pos (by omega),if_neg h1,if_pos h2];rfl
  ·rw [if_neg (by omega),if_neg (by omega),if_neg h1,if_neg h2]
   by_cases h3:lexI xs ys=0
   ·simp [h3]
   ·simp [h3]
theorem src_two {w:World} (x y:Value) (t:TypeId):Src (w.alloc (.cells #[x,y] t)) (some ⟨w.heap.size,0,none⟩) 2 [x,y] :=
 ⟨rfl,fun _=>⟨_,_,rfl,fun j u hu=>by
  have:=cell_two_new w x y t j u hu
  rwa [addr_add] at this⟩⟩
theorem ints_row {w:World} (x y:Int) (t:TypeId):RowOf (w.alloc (.cells #[.int .i64 x,.int .i64 y] t)) IsInt (some ⟨w.heap.size,0,none⟩) 2 2 [x,y]:=by
 refine ⟨rfl,Nat.le_refl _,by omega,fun _=>⟨_,_,rfl,fun i z hz=>?_⟩⟩
 obtain ⟨_,hc⟩:=src_two (w:=w) (.int .i64 x) (.int .i64 y) t
 obtain ⟨b,o,e,hcc⟩:=hc (by omega)
 injection e with e
 injection e with e1 e2
 subst e1 e2
 match i,hz with
 | 0,hz =>
  simp at hz
  subst hz
  exact ⟨_,hcc 0 _ rfl,rfl⟩
 | 1,hz =>
  simp at hz
  subst hz
  exact ⟨_,hcc 1 _ rfl,rfl⟩
set_option maxHeartbeats 400000 in
theorem zjg {A B:Option Addr} {n c m c':Nat} {xs ys:List Int} {w:World} (hx:RowOf w IsInt A n c xs) (hy:RowOf w IsInt B m c' ys) :
  Calls Tryz.prog 83 #[.slice A n c,.slice B m c'] w fun e w'=>e=.returned (.int .i64 (cmpW xs ys))∧w.alloc (.cells #[.int .i64 (cmpI xs.length ys.length),.int .i64 (lexI xs ys)] 3)=w':=by
 have hn:=hx.small
 have hm:=hy.small
 have hc1:=Lib.hid (zew hx hy)
 have HE:=Lib.hid (orI_cmp xs ys)
 have h1:=hx.len
 have h2:=hy.len
 have HO:=Lib.hid (fun t=>cmpOr_any (ints_row (w:=w) (cmpI xs.length ys.length) (lexI xs ys) t))
 rw [h1,h2] at HE HO
 rw [h1,h2]
 clear h1 h2 hx hy
 go_enter Tryz.func83,Tryz.ntmps83
 go_wp2_with (first | (go_at_call 102;refine (zel _ _ _).mono ?_;rintro e w' ⟨rfl,rfl⟩) | (go_at_call 89;refine hc1.out.mono ?_;rintro e w' ⟨rfl,rfl⟩) | (go_at_call 101;refine (HO.out _).mono ?_;rintro e w' ⟨rfl,rfl⟩))
 go_ret
 exact ⟨ret_int HE.out,rfl⟩
end Go.Proofs.YtcneaiejdidooaaGreat

/-
 DERIVED: THE SHELF's CONTRACTS AT THIS DUMP, IN PLAIN WORDS (tools/lay-plain.mjs out of 'YtcneaiejdidooaaGreatShelf0.lean', which tools/lay-shelf.mjs wrote): THE SAME DECLARATIONS UNDER THE SAME NAMES: 'import', 'namespace', 'open', 'def', 'theorem' AND NOTHING ELSE: no command of the shelf's: FOR A HAND-IN. Each laying: the table of numbers ('.._ren') and one theorem, a field a fact of the dump's own or the kernel's comparison; each contract: ONE APPLICATION.
-/
namespace Go.Proofs
open Go.Shelf
def Tryz.sortW_ren:Go.Shelf.Ren:=⟨fun | 6=>86 | 15=>104 | 14=>103 | 28=>120 | 29=>121 | 20=>112 | 21=>113 | 22=>114 | 23=>115 | 24=>116 | 25=>117 | 26=>118 | 27=>119 | 46=>123 | 47=>124 | 48=>125 | 49=>126 | 50=>127 | 57=>129 | n=>n,fun | 22=>22 | 24=>47 | 25=>94 | 3=>3 | 39=>153 | 0=>0 | 53=>170 | 55=>172 | 4=>4 | 46=>163 | 45=>162 | 50=>167 | 5=>5 | 9=>9 | 66=>176 | 70=>180 | 76=>182 | 77=>142 | n=>n,fun | n=>n⟩
theorem Tryz.sortW:Go.Proofs.SlLaysF.n6 Tryz.prog Tryz.sortW_ren:={
 mixed:=by kernel_rfl
 f6:=⟨Tryz.f86.name,by decide,Tryz.func86.trans (congrArg some (by kernel_rfl))⟩
 f14:=⟨Tryz.f103.name,by decide,Tryz.func103.trans (congrArg some (by kernel_rfl))⟩
 f15:=Tryz.func104.trans (congrArg some (by kernel_rfl))
 f20:=⟨Tryz.f112.name,by decide,Tryz.func112.trans (congrArg some (by kernel_rfl))⟩
 f21:=⟨Tryz.f113.name,by decide,Tryz.func113.trans (congrArg some (by kernel_rfl))⟩
 f22:=⟨Tryz.f114.name,by decide,Tryz.func114.trans (congrArg some (by kernel_rfl))⟩
 f23:=⟨Tryz.f115.name,by decide,Tryz.func115.trans (congrArg some (by kernel_rfl))⟩
 f24:=⟨Tryz.f116.name,by decide,Tryz.func116.trans (congrArg some (by kernel_rfl))⟩
 f25:=⟨Tryz.f117.name,by decide,Tryz.func117.trans (congrArg some (by kernel_rfl))⟩
 f26:=⟨Tryz.f118.name,by decide,Tryz.func118.trans (congrArg some (by kernel_rfl))⟩
 f27:=⟨Tryz.f119.name,by decide,Tryz.func119.trans (congrArg some (by kernel_rfl))⟩
 f28:=Tryz.func120.trans (congrArg some (by kernel_rfl))
 f29:=Tryz.func121.trans (congrArg some (by kernel_rfl))
 f46:=⟨Tryz.f123.name,by decide,Tryz.func123.trans (congrArg some (by kernel_rfl))⟩
 f47:=Tryz.func124.trans (congrArg some (by kernel_rfl))
 f48:=Tryz.func125.trans (congrArg some (by kernel_rfl))
 f49:=⟨Tryz.f126.name,by decide,Tryz.func126.trans (congrArg some (by kernel_rfl))⟩
 f50:=⟨Tryz.f127.name,by decide,Tryz.func127.trans (congrArg some (by kernel_rfl))⟩
 f57:=⟨Tryz.f129.name,by decide,Tryz.func129.trans (congrArg some (by kernel_rfl))⟩
 t0:=Tryz.underlying0
 a0:=Tryz.isAgg0
 z0:=Tryz.sizeOf0
 v0:=Tryz.zeroValue0
 t3:=Tryz.underlying3
 a3:=Tryz.isAgg3
 z3:=Tryz.sizeOf3
 v3:=Tryz.zeroValue3
 t4:=Tryz.underlying4
 a4:=Tryz.isAgg4
 z4:=Tryz.sizeOf4
 v4:=Tryz.zeroValue4
 t5:=Tryz.underlying5
 a5:=Tryz.isAgg5
 z5:=Tryz.sizeOf5
 v5:=Tryz.zeroValue5
 t9:=Tryz.underlying9
 a9:=Tryz.isAgg9
 z9:=Tryz.sizeOf9
 v9:=Tryz.zeroValue9
 t22:=Tryz.underlying22
 a22:=Tryz.isAgg22
 z22:=Tryz.sizeOf22
 v22:=Tryz.zeroValue22
 a24:=Tryz.isAgg47
 z24:=Tryz.sizeOf47
 t25:=Tryz.underlying94
 a25:=Tryz.isAgg94
 z25:=Tryz.sizeOf94
 v25:=Tryz.zeroValue94
 t39:=Tryz.underlying153
 a39:=Tryz.isAgg153
 z39:=Tryz.sizeOf153
 v39:=Tryz.zeroValue153
 t45:=Tryz.underlying162
 a45:=Tryz.isAgg162
 z45:=Tryz.sizeOf162
 v45:=Tryz.zeroValue162
 t46:=Tryz.underlying163
 a46:=Tryz.isAgg163
 z46:=Tryz.sizeOf163
 v46:=Tryz.zeroValue163
 t50:=Tryz.underlying167
 a50:=Tryz.isAgg167
 z50:=Tryz.sizeOf167
 v50:=Tryz.zeroValue167
 t53:=Tryz.underlying170
 a53:=Tryz.isAgg170
 z53:=Tryz.sizeOf170
 v53:=Tryz.zeroValue170
 t55:=Tryz.underlying172
 a55:=Tryz.isAgg172
 z55:=Tryz.sizeOf172
 v55:=Tryz.zeroValue172
 t66:=Tryz.underlying176
 a66:=Tryz.isAgg176
 z66:=Tryz.sizeOf176
 v66:=Tryz.zeroValue176
 t70:=Tryz.underlying180
 a70:=Tryz.isAgg180
 z70:=Tryz.sizeOf180
 v70:=Tryz.zeroValue180
 t76:=Tryz.underlying182
 a76:=Tryz.isAgg182
 z76:=Tryz.sizeOf182
 v76:=Tryz.zeroValue182
 t77:=Tryz.underlying142
 a77:=Tryz.isAgg142
 z77:=Tryz.sizeOf142
 v77:=Tryz.zeroValue142 }
end Go.Proofs

/-
 The sort at this program's types, and the comparisons that it is handed.
-/
namespace Go.Proofs.YtcneaiejdidooaaGreat.Sym
open Go.RowKit Go.Sort
set_option maxRecDepth 100000
theorem putRow_map {E:Type} [Inhabited E] (enc:E→Value) (w:World) (blk off:Nat) (d:Array E):putRow enc w blk off d=putRow id w blk off (d.map enc):=by
 unfold putRow
 congr 1
 funext c
 unfold putCells
 congr 1
 funext k x
 rw [Array.size_map]
 by_cases h:off≤k∧k<off+d.size
 ·have h1:k-off<d.size:=by omega
  rw [if_pos h,if_pos h,getElem!_pos d _ h1,getElem!_pos (d.map enc) _ (by simpa using h1)]
  simp
 ·rw [if_neg h,if_neg h]
theorem holds_map {E:Type} [Inhabited E] {enc:E→Value} {w:World} {blk off:Nat} {d:Array E} (h:Go.Sort.Holds id w blk off (d.map enc)):Go.Sort.Holds enc w blk off d:=fun j hj=>by
 have:=h j (by simpa using hj)
 rw [getElem!_pos (d.map enc) _ (by simpa using hj)] at this
 rw [getElem!_pos d _ hj]
 simpa using this
def one1 (us:List Value):Value:=us.headD undef
theorem flat_one1 {E:Type} [Inhabited E] {enc:E→List Value} (hk:∀ x,(enc x).length=1) (d:Array E):Go.Sort.flatK enc 1 d=d.map fun x=>one1 (enc x):=by
 rw [zl0 hk]
 have:(d.toList.map enc).flatten=d.toList.map fun x=>one1 (enc x):=by
  generalize d.toList=l
  induction l with
  | nil=>rfl
  | cons x l ih =>
   rw [List.map_cons,List.flatten_cons,ih,List.map_cons]
   have:=hk x
   match h:enc x,this with
   | [v],_=>rfl
 rw [this]
 apply Array.ext'
 simp
theorem sortC_words:SortC Tryz.prog 86 1 one1:=by
 refine ⟨fun p cap fv w=>AnyF.slices_SortFunc_none { Tryz.sortW with } p cap fv w,?_⟩
 intro E _ enc cf g blk cap d w hk h1 hO eg hcmp hH hblk hsz
 have e1:∀ m (dk:Array E),putRow (fun x=>one1 (enc x)) (Sort.ahead w m) blk 0 dk=putRow id (Sort.ahead w m) blk 0 (Go.Sort.flatK enc 1 dk):=fun m dk=>by rw [flat_one1 hk,putRow_map]
 have hone:OneCell fun x=>one1 (enc x):=fun x=>by
  have h2:=hk x
  have h3:=h1 x
  match h:enc x,h2 with
  | [v],_ =>
   show (one1 (enc x)).oneCell'=true
   rw [h] at h3 ⊢
   exact h3 v (by simp)
 refine (Any.slices_SortFunc Tryz.sortW (fun x=>one1 (enc x)) hone cf hO g #[] blk 0 cap d w eg (fun m os dk hs x y=>?_) (holds_map (by rw [← flat_one1 hk];exact hH)) hblk hsz).mono ?_
 ·have:=hcmp m os dk hs x y
  unfold sortWorld
  rw [e1]
  simpa using this
 ·rintro e w' ⟨he,d',n,os,hp,hs,hw⟩
  exact ⟨he,d',n,os,hp,hs,by rw [hw];unfold sortWorld;rw [e1]⟩
theorem cmpG_lex {f:List Int→List Int→Option Int} (hf:∀ x y r,x.length≤17592186044416→f x y=some r→r=lexI x y):CmpG Tryz.prog 61 (nL cI) f:=by
 intro W S u u' x y r h hu hu'
 obtain ⟨A,n,c,rfl,h1⟩:=zgf hu
 have:=hf x y r (by rw [h1.len];exact h1.small) h
 subst this
 obtain ⟨B,m,c',rfl,h2⟩:=zgf hu'
 refine (wordLex_any h1 h2).mono fun e w' ⟨he,hw⟩=>⟨he,0,#[],?_⟩
 rw [← hw,Sort.grow_empty]
 rfl
theorem cmpG_compare {f:List Int→List Int→Option Int} (hf:∀ x y r,x.length≤17592186044416→f x y=some r→r=cmpW x y):CmpG Tryz.prog 83 (nL cI) f:=by
 intro W S u u' x y r h hu hu'
 obtain ⟨A,n,c,rfl,h1⟩:=zgf hu
 have:=hf x y r (by rw [h1.len];exact h1.small) h
 subst this
 obtain ⟨B,m,c',rfl,h2⟩:=zgf hu'
 refine (zjg h1 h2).mono fun e w' ⟨he,hw⟩=>⟨he,0,#[.cells #[.int .i64 (cmpI x.length y.length),.int .i64 (lexI x y)] 3],?_⟩
 rw [← hw,Sort.alloc_eq_grow]
 rfl
theorem rep_of_one {W:World} {S:Nat→Prop} {us:List Value} {x:IV} (hl:us.length=1) (hr:RepIs W S us [x]):RepI W S (one1 us) x:=by
 match us,hl with
 | [u],_=>exact hr.2 0 u x rfl rfl
def CmpE {T:Type} (P:Program) (g:FuncId) (X:T→IV) (f:T→T→Option Int):Prop:=(∀ args w,(callFunc g args).run P w=.ok (.enter g args) w)∧CmpG P g X f
end Go.Proofs.YtcneaiejdidooaaGreat.Sym

namespace Go.Proofs.YtcneaiejdidooaaGreat.Sym
open Go.RowKit
set_option maxRecDepth 100000
set_option linter.unusedVariables false
set_option maxHeartbeats 4000000
def libClone {α:Type} (by_:Nat) (l:List α):Option (List α):=chk (capOk l.length by_) (some l)
def zcl (l:List Int):Option (List Int):=libClone 8 l
theorem zdz (l r:List Int) (h:zcl l=some r):Sp Tryz.prog 63 [.im (nL cI l)] (.row 3 1 (List.map cI r)):=by
 obtain ⟨h1,h⟩:=chk_some h
 injection h with h
 subst h
 exact zkj (by_:=8) (fun args w=>zdx rfl rfl rfl args w) (by decide) clone_int (fun e he=>by obtain ⟨y,_,rfl⟩:=List.mem_map.1 he;rfl) (by rw [List.length_map];exact h1)
def zdf (l:List (List Int)):Option (List (List Int)):=libClone 24 l
theorem zhw (l r:List (List Int)) (h:zdf l=some r):Sp Tryz.prog 85 [.im (nL (cL cI) l)] (.row 47 1 (List.map (cL cI) r)):=by
 obtain ⟨h1,h⟩:=chk_some h
 injection h with h
 subst h
 exact zkj (by_:=24) (fun args w=>zdx rfl rfl rfl args w) (by decide) clone_words (fun e he=>by obtain ⟨y,_,rfl⟩:=List.mem_map.1 he;rfl) (by rw [List.length_map];exact h1)
def zde (l:List (List Int)) (f:(List Int)→(List Int)→Option Int):Option (List (List Int)):=libSort l f
theorem zf8 (l:List (List Int)) (f:(List Int)→(List Int)→Option Int) (g:FuncId) (hd:CmpE Tryz.prog g (fun x=>nL cI x) f) (r:List (List Int)) (h:zde l f=some r):Sp Tryz.prog 86 [.lent (.row 47 1 (List.map (cL cI) l)),.im (.fn g [])] (.mk true [] [.lent (.row 47 1 (List.map (cL cI) r))]) :=
 sp_of_sort (fun args w=>zdx rfl rfl rfl args w) sortC_words (by decide) (fun _=>rfl) (fun W S us x hl h1 hr=>rep_of_one hl hr) hd.1 hd.2 h
end Go.Proofs.YtcneaiejdidooaaGreat.Sym

namespace Go.Proofs.YtcneaiejdidooaaGreat.Sym
open Go.RowKit
set_option maxRecDepth 100000
set_option linter.unusedVariables false
set_option maxHeartbeats 4000000
def R06_Ints.s2 (a_:List Int) (b_:List Int) (i73:Nat):Option (Nat⊕(Unit⊕Bool)) :=
 cond (decide ((↑i73:Int)<(↑(List.length a_):Int))) (idxn a_ i73 fun e80=>idxn b_ i73 fun e81=>cond (decide (e80≠e81)) (some (.inr (.inr false))) (some (.inl (i73+1)))) (some (.inr (.inl ())))
def R06_Ints (a_:List Int) (b_:List Int):Option (Bool) :=
 cond (decide ((↑(List.length a_):Int)≠(↑(List.length b_):Int))) (some false) ((iter (fun (s:Nat)=>R06_Ints.s2 a_ b_ s) fuel 0:Option (Unit⊕Bool)).bind (Sum.elim (fun (_:Unit)=>some true) some))
def zb3.s2 (a_:List (List Int)) (b_:List (List Int)) (i77:Nat):Option (Nat⊕(Unit⊕Bool)) :=
 cond (decide ((↑i77:Int)<(↑(List.length a_):Int))) (idxn a_ i77 fun e85=>idxn b_ i77 fun e86=>(R06_Ints e85 e86).bind fun c87=>cond ((!c87)) (some (.inr (.inr false))) (some (.inl (i77+1)))) (some (.inr (.inl ())))
def zb3 (a_:List (List Int)) (b_:List (List Int)):Option (Bool) :=
 cond (decide ((↑(List.length a_):Int)≠(↑(List.length b_):Int))) (some false) ((iter (fun (s:Nat)=>zb3.s2 a_ b_ s) fuel 0:Option (Unit⊕Bool)).bind (Sum.elim (fun (_:Unit)=>some true) some))
def zhj (m_:zaa) (extra_:Int):Option (Bool) :=
 (cond (decide ((↑(List.length m_.Next):Int)≤6)) (cond (decide (m_.Inputs≤3)) (some (decide (extra_≤2))) (some false)) (some false):Option (Bool)).bind (fun (y55:Bool)=>some y55)
def zf7 (m_:zaa):Option (Bool) :=
 (cond (decide (40<(↑(List.length m_.Next):Int))) (some true) (cond (decide (40<(↑(List.length m_.Out):Int))) (some true) (some (decide (20<m_.Inputs)))):Option (Bool)).bind (fun (y55:Bool)=>some y55)
def L50_gate:Option (zaa) :=
 some (⟨2,0,[[1,0],[1,0]],[[1,0],[1,2]]⟩:zaa)
def zb2.s2 (ids_:List (List (List Int))) (n65:Int) (y66:Nat):Option ((Int×Nat)⊕Int) :=
 cond (decide ((↑y66:Int)<(↑(List.length ids_):Int))) (idxn ids_ y66 fun e71=>some (.inl ((max n65 (↑(List.length e71):Int)),(y66+1)))) (some (.inr n65))
def zb2 (ids_:List (List (List Int))):Option (Int) :=
 (iter (fun (s:Int×Nat)=>zb2.s2 ids_ s.1 s.2) fuel (1,0):Option (Int)).bind (fun (n62:Int)=>some n62)
def zal.s2 (slices_:List (List Int)) (size73:Nat) (y74:Nat):Option ((Nat×Nat)⊕Nat) :=
 cond (decide ((↑y74:Int)<(↑(List.length slices_):Int))) (idxn slices_ y74 fun e81=>chk (inR ((↑size73:Int)+(↑(List.length e81):Int))) (cond (decide (((↑size73:Int)+(↑(List.length e81):Int))<0)) (none) (some (.inl ((size73+(List.length e81)),(y74+1)))))) (some (.inr size73))
def zal.s4 (slices_:List (List Int)) (y106:List Int) (y107:Nat):Option ((List Int×Nat)⊕List Int) :=
 cond (decide ((↑y107:Int)<(↑(List.length slices_):Int))) (idxn slices_ y107 fun e113=>chk (capOk (List.length y106+List.length e113) 8) (some (.inl ((y106++e113),(y107+1))))) (some (.inr y106))
def zal (slices_:List (List Int)):Option (List Int) :=
 (iter (fun (s:Nat×Nat)=>zal.s2 slices_ s.1 s.2) fuel (0,0):Option (Nat)).bind (fun (size68:Nat)=>(zfx (↑size68:Int)).bind fun c86=>(iter (fun (s:List Int×Nat)=>zal.s4 slices_ s.1 s.2) fuel (c86,0):Option (List Int)).bind (fun (y102:List Int)=>some y102))
def zcq (parts_:List (List Int)):Option (List Int) :=
 (zal parts_).bind fun c51=>some c51
def zc6 (inputs_:Int):Option (Bool) :=
 (cond (decide (1≤inputs_)) (some (decide (inputs_≤1024))) (some false):Option (Bool)).bind (fun (y54:Bool)=>some y54)
def zdc (a_:Int) (p1_:Int):Option (Bool) :=
 (cond (decide (a_<0)) (some true) (some (decide (p1_≤a_))):Option (Bool)).bind (fun (y54:Bool)=>some y54)
def zao.s2 (s_:List Int) (f_:Int→Option Bool) (y71:Nat):Option (Nat⊕(Unit⊕Int)) :=
 cond (decide ((↑y71:Int)<(↑(List.length s_):Int))) (idxn s_ y71 fun e78=>(f_ e78).bind fun c79=>cond (c79) (some (.inr (.inr (↑y71:Int)))) (some (.inl (y71+1)))) (some (.inr (.inl ())))
def zao (s_:List Int) (f_:Int→Option Bool):Option (Int) :=
 (iter (fun (s:Nat)=>zao.s2 s_ f_ s) fuel 0:Option (Unit⊕Int)).bind (Sum.elim (fun (_:Unit)=>some (-1:Int)) some)
def zbn (s_:List Int) (f_:Int→Option Bool):Option (Bool) :=
 (zao s_ f_).bind fun c51=>some (decide (0≤c51))
def zdj (w_:List Int) (inputs_:Int):Option (Int) :=
 (zc6 inputs_).bind fun c51=>cond ((!c51)) (some 2) (cond (decide (1024<(↑(List.length w_):Int))) (some 3) ((zbn w_ (fun u0=>zdc u0 inputs_)).bind fun c54=>cond (c54) (some 1) (some 0)))
def zcv (m_:zbt) (s_:Int) (a_:Int):Option (Int×Int) :=
 idx m_.Mealy.Next s_ fun e51=>idx e51 a_ fun e52=>idx m_.Mealy.Out s_ fun e53=>idx e53 a_ fun e54=>some (e52,e54)
def za2.s2 (r_:zbj) (w_:List Int) (y76:Int) (y77:List Int) (y78:Nat):Option ((Int×List Int×Nat)⊕(Int×List Int)) :=
 cond (decide ((↑y78:Int)<(↑(List.length w_):Int))) (idxn w_ y78 fun e85=>(zcv r_.machine y76 e85).bind fun c86=>chk (capOk (List.length y77+1) 8) (some (.inl (c86.1,(y77++[c86.2]),(y78+1))))) (some (.inr (y76,y77)))
def za2.k3 (r_:zbj) (y71:Int) (y72:List Int):Option (List Int×zbj) :=
 some (y72,(⟨r_.machine,y71⟩:zbj))
def za2 (r_:zbj) (w_:List Int):Option (List Int×zbj) :=
 (iter (fun (s:Int×List Int×Nat)=>za2.s2 r_ w_ s.1 s.2.1 s.2.2) fuel (r_.at_,[],0):Option (Int×List Int)).bind (fun (s:Int×List Int)=>za2.k3 r_ s.1 s.2)
def zat.s13 (m_:zaa) (y509:Nat) (y697:Nat):Option (Nat⊕(Unit⊕(Nat⊕(Unit⊕Int)))) :=
 cond (decide ((↑y697:Int)<m_.Inputs)) (idxn m_.Next y509 fun e716=>idxn e716 y697 fun e717=>idxn m_.Out y509 fun e718=>idxn e718 y697 fun e719=>(cond (decide (e717<0)) (some true) (cond (decide ((↑(List.length m_.Next):Int)≤e717)) (some true) (cond (decide (e719<0)) (some true) (some (decide (1048576<e719))))):Option (Bool)).bind (fun (y725:Bool)=>cond (y725) (some (.inr (.inr (.inr (.inr 2))))) (chk (inR ((↑y697:Int)+1)) (some (.inl (y697+1)))))) (some (.inr (.inl ())))
def zat.s14 (m_:zaa) (y509:Nat):Option (Nat⊕(Unit⊕Int)) :=
 cond (decide ((↑y509:Int)<(↑(List.length m_.Next):Int))) ((idxn m_.Next y509 fun e628=>cond (decide ((↑(List.length e628):Int)≠m_.Inputs)) (some true) (idxn m_.Out y509 fun e630=>some (decide ((↑(List.length e630):Int)≠m_.Inputs))):Option (Bool)).bind (fun (y627:Bool)=>cond (y627) (some (.inr (.inr 1))) ((iter (fun (s:Nat)=>zat.s13 m_ y509 s) fuel 0:Option (Unit⊕(Nat⊕(Unit⊕Int)))).bind (Sum.elim (fun (_:Unit)=>some (.inl (y509+1))) some)))) (some (.inr (.inl ())))
def zat (m_:zaa):Option (Int) :=
 (cond (decide (m_.Inputs<1)) (some true) (some (decide (64<m_.Inputs))):Option (Bool)).bind (fun (y54:Bool)=>cond (y54) (some 2) (cond (decide ((↑(List.length m_.Next):Int)=0)) (some 19) (cond (decide (128<(↑(List.length m_.Next):Int))) (some 11) ((cond (decide (m_.Start<0)) (some true) (some (decide ((↑(List.length m_.Next):Int)≤m_.Start))):Option (Bool)).bind (fun (y62:Bool)=>cond (y62) (some 2) (cond (decide ((↑(List.length m_.Out):Int)≠(↑(List.length m_.Next):Int))) (some 1) ((iter (fun (s:Nat)=>zat.s14 m_ s) fuel 0:Option (Unit⊕Int)).bind (Sum.elim (fun (_:Unit)=>some 0) some))))))))
def ze4 (m_:zaa) (s_:Int):Option (Int) :=
 (zat m_).bind fun c51=>cond (decide (c51≠0)) (some c51) ((cond (decide (s_<0)) (some true) (some (decide ((↑(List.length m_.Next):Int)≤s_))):Option (Bool)).bind (fun (y56:Bool)=>cond (y56) (some 2) (some 0)))
def zd2 (m_:zaa) (s_:Int) (w_:List Int):Option (List Int×Int×Int) :=
 (ze4 m_ s_).bind fun c51=>cond (decide (c51≠0)) (some ([],0,c51)) ((zdj w_ m_.Inputs).bind fun c53=>cond (decide (c53≠0)) (some ([],0,c53)) ((za2 (⟨(⟨m_⟩:zbt),s_⟩:zbj) w_).bind fun c55=>some (c55.1,c55.2.at_,0)))
def zbl.s2 (u_:List Int) (tails_:List (List Int)) (y73:List (List Int)) (y74:Nat):Option ((List (List Int)×Nat)⊕List (List Int)) :=
 cond (decide ((↑y74:Int)<(↑(List.length tails_):Int))) (idxn tails_ y74 fun e81=>(zcq [u_,e81]).bind fun c82=>chk (capOk (List.length y73+1) 24) (some (.inl ((y73++[c82]),(y74+1))))) (some (.inr y73))
def zbl (u_:List Int) (tails_:List (List Int)):Option (List (List Int)) :=
 (iter (fun (s:List (List Int)×Nat)=>zbl.s2 u_ tails_ s.1 s.2) fuel ([],0):Option (List (List Int))).bind (fun (y69:List (List Int))=>some y69)
def zdt (m_:zaa) (ids_:List (List (List Int))) (w_:List Int):Option (List (List Int)×Int) :=
 (zd2 m_ m_.Start w_).bind fun c51=>cond (decide (c51.2.2≠0)) (some ([],c51.2.2)) (cond (decide ((↑(List.length ids_):Int)≠(↑(List.length m_.Next):Int))) (some ([],1)) (idx ids_ c51.2.1 fun e54=>cond (decide ((↑(List.length e54):Int)=0)) (some ([[]],0)) (idx ids_ c51.2.1 fun e56=>(zbl [] e56).bind fun c57=>some (c57,0))))
def zce (a_:List Int) (b_:List Int) (p2_:(List Int)→(List Int)→Option Int):Option (Bool) :=
 (p2_ a_ b_).bind fun c51=>some (decide (c51=0))
def zae.s18 (eq_:(List Int)→(List Int)→Option Bool) (k356:Nat) (y481:List (List Int)) (k482:Nat) (y483:Nat):Option ((List (List Int)×Nat×Nat)⊕(List (List Int)×Nat)) :=
 cond (decide ((↑y483:Int)<(↑(List.length y481-k356):Int))) (idxn y481 (k356+y483) fun e495=>chk ((0:Int)≤((↑y483:Int)-1)) (idxn y481 (k356+(Int.toNat ((↑y483:Int)-1))) fun e496=>(eq_ e495 e496).bind fun c498=>cond ((!c498)) (idxn y481 (k356+y483) fun e500=>idxn y481 k482 fun e501=>chk (inR ((↑k482:Int)+1)) (some (.inl ((List.set y481 k482 e500),(k482+1),(y483+1))))) (some (.inl (y481,k482,(y483+1)))))) (some (.inr (y481,k482)))
def zae.k19 (y471:List (List Int)) (k472:Nat):Option (Nat⊕(Unit⊕List (List Int))) :=
 chk ((0:Int)≤(↑k472:Int)∧(↑k472:Int)≤(↑(List.length y471):Int)∧0<List.length y471) (chk (k472≤List.length y471) (chk ((0:Int)≤(↑k472:Int)∧(↑k472:Int)≤(↑(List.length (List.take k472 y471++List.replicate (List.length y471-k472) [])):Int)∧0<List.length (List.take k472 y471++List.replicate (List.length y471-k472) [])) (some (.inr (.inr (List.take k472 (List.take k472 y471++List.replicate (List.length y471-k472) [])))))))
def zae.s20 (s_:List (List Int)) (eq_:(List Int)→(List Int)→Option Bool) (k356:Nat):Option (Nat⊕(Unit⊕List (List Int))) :=
 cond (decide ((↑k356:Int)<(↑(List.length s_):Int))) (idxn s_ k356 fun e434=>idx s_ ((↑k356:Int)-1) fun e435=>(eq_ e434 e435).bind fun c436=>cond (c436) (chk ((0:Int)≤(↑k356:Int)∧(↑k356:Int)≤(↑(List.length s_):Int)∧0<List.length s_) ((iter (fun (s:List (List Int)×Nat×Nat)=>zae.s18 eq_ k356 s.1 s.2.1 s.2.2) fuel (s_,k356,1):Option (List (List Int)×Nat)).bind (fun (s:List (List Int)×Nat)=>zae.k19 s.1 s.2))) (some (.inl (k356+1)))) (some (.inr (.inl ())))
def zae (s_:List (List Int)) (eq_:(List Int)→(List Int)→Option Bool):Option (List (List Int)) :=
 cond (decide ((↑(List.length s_):Int)<2)) (some s_) ((iter (fun (s:Nat)=>zae.s20 s_ eq_ s) fuel 1:Option (Unit⊕List (List Int))).bind (Sum.elim (fun (_:Unit)=>some s_) some))
def zbe.s2 (c53:List (List Int)) (y78:List (List Int)) (y79:Nat):Option ((List (List Int)×Nat)⊕List (List Int)) :=
 cond (decide ((↑y79:Int)<(↑(List.length c53):Int))) (idxn y78 y79 fun e87=>(zcl e87).bind fun c88=>idxn y78 y79 fun e89=>chk (inR ((↑y79:Int)+1)) (some (.inl ((List.set y78 y79 c88),(y79+1))))) (some (.inr y78))
def zbe (l_:List (List Int)) (order_:(List Int)→(List Int)→Option Int):Option (List (List Int)) :=
 (zdf l_).bind fun c51=>(zde c51 order_).bind fun c52=>(zae c52 (fun u0 u1=>zce u0 u1 order_)).bind fun c53=>(iter (fun (s:List (List Int)×Nat)=>zbe.s2 c53 s.1 s.2) fuel (c53,0):Option (List (List Int))).bind (fun (y73:List (List Int))=>some y73)
def zbw.s2 (a_:List Int) (b_:List Int) (y72:Nat):Option (Nat⊕(Unit⊕Int)) :=
 cond (decide ((↑y72:Int)<(min (↑(List.length a_):Int) (↑(List.length b_):Int)))) (idxn a_ y72 fun e79=>idxn b_ y72 fun e80=>cond (decide (e79≠e80)) (some (.inr (.inr (↑y72:Int)))) (some (.inl (y72+1)))) (some (.inr (.inl ())))
def zbw (a_:List Int) (b_:List Int):Option (Int) :=
 (iter (fun (s:Nat)=>zbw.s2 a_ b_ s) fuel 0:Option (Unit⊕Int)).bind (Sum.elim (fun (_:Unit)=>some (min (↑(List.length a_):Int) (↑(List.length b_):Int))) some)
def zcs (w_:List Int) (p_:List Int):Option (Bool) :=
 (zbw w_ p_).bind fun c51=>some (decide (c51=(↑(List.length p_):Int)))
def cmp_isNaN_int (x_:Int):Option (Bool) :=
 some (decide (x_≠x_))
def cmp_Compare_int (x_:Int) (y_:Int):Option (Int) :=
 (cmp_isNaN_int x_).bind fun c51=>(cmp_isNaN_int y_).bind fun c52=>cond (c51) (cond (c52) (some 0) (some (-1:Int))) (cond (c52) (some 1) (cond (decide (x_<y_)) (some (-1:Int)) (cond (decide (y_<x_)) (some 1) (some 0))))
def zau.s2 (s1_:List Int) (s2_:List Int) (y80:Nat):Option (Nat⊕(Unit⊕Int)) :=
 cond (decide ((↑y80:Int)<(↑(List.length s1_):Int))) (idxn s1_ y80 fun e89=>cond (decide ((↑(List.length s2_):Int)≤(↑y80:Int))) (some (.inr (.inr 1))) (idxn s2_ y80 fun e91=>(cmp_Compare_int e89 e91).bind fun c92=>cond (decide (c92≠0)) (some (.inr (.inr c92))) (some (.inl (y80+1))))) (some (.inr (.inl ())))
def zau (s1_:List Int) (s2_:List Int):Option (Int) :=
 (iter (fun (s:Nat)=>zau.s2 s1_ s2_ s) fuel 0:Option (Unit⊕Int)).bind (Sum.elim (fun (_:Unit)=>cond (decide ((↑(List.length s1_):Int)<(↑(List.length s2_):Int))) (some (-1:Int)) (some 0)) some)
def zb1.s2 (vals_:List Int) (y67:Nat):Option (Nat⊕(Unit⊕Int)) :=
 cond (decide ((↑y67:Int)<(↑(List.length vals_):Int))) (idxn vals_ y67 fun e73=>cond (decide (e73≠0)) (some (.inr (.inr e73))) (some (.inl (y67+1)))) (some (.inr (.inl ())))
def zb1 (vals_:List Int):Option (Int) :=
 (iter (fun (s:Nat)=>zb1.s2 vals_ s) fuel 0:Option (Unit⊕Int)).bind (Sum.elim (fun (_:Unit)=>some 0) some)
def zch (a_:List Int) (b_:List Int):Option (Int) :=
 (cmp_Compare_int (↑(List.length a_):Int) (↑(List.length b_):Int)).bind fun c51=>(zau a_ b_).bind fun c52=>(zb1 [c51,c52]).bind fun c53=>some c53
def zct (l_:List (List Int)):Option (List (List Int)) :=
 (zbe l_ (fun u0 u1=>zch u0 u1)).bind fun c51=>some c51
def word_Lex (a_:List Int) (b_:List Int):Option (Int) :=
 (zau a_ b_).bind fun c51=>some c51
def zbb.s2 (c51:List (List Int)) (y119:List (List Int)) (y120:Nat):Option ((List (List Int)×Nat)⊕List (List Int)) :=
 cond (decide ((↑y120:Int)<(↑(List.length c51):Int))) (idxn c51 y120 fun e139=>(cond (decide (((↑y120:Int)+1)=(↑(List.length c51):Int))) (some true) (idxn c51 (y120+1) fun e147=>(zcs e147 e139).bind fun c148=>some (!c148)):Option (Bool)).bind (fun (y145:Bool)=>cond (y145) (chk (capOk (List.length y119+1) 24) (some (.inl ((y119++[e139]),(y120+1))))) (some (.inl (y119,(y120+1)))))) (some (.inr y119))
def zbb (l_:List (List Int)):Option (List (List Int)) :=
 (zbe l_ (fun u0 u1=>word_Lex u0 u1)).bind fun c51=>(iter (fun (s:List (List Int)×Nat)=>zbb.s2 c51 s.1 s.2) fuel ([],0):Option (List (List Int))).bind (fun (y104:List (List Int))=>(zct y104).bind fun c157=>some c157)
def za6.s18 (e359:List Int) (y394:List Bool) (y395:List Int) (y396:Nat):Option ((List Bool×List Int×Nat)⊕(List Bool×List Int)) :=
 cond (decide ((↑y396:Int)<(↑(List.length e359):Int))) (idxn e359 y396 fun e405=>idx y394 e405 fun e406=>cond ((!e406)) (idx y394 e405 fun e408=>chk (capOk (List.length y395+1) 8) (some (.inl ((List.set y394 e405.toNat true),(y395++[e405]),(y396+1))))) (some (.inl (y394,y395,(y396+1))))) (some (.inr (y394,y395)))
def za6.k19 (i297:Nat) (y386:List Bool) (y387:List Int):Option ((List Bool×List Int×Nat)⊕List Int) :=
 some (.inl (y386,y387,(i297+1)))
def za6.s20 (m_:zaa) (y295:List Bool) (y296:List Int) (i297:Nat):Option ((List Bool×List Int×Nat)⊕List Int) :=
 cond (decide ((↑i297:Int)<(↑(List.length y296):Int))) (idxn y296 i297 fun e358=>idx m_.Next e358 fun e359=>(iter (fun (s:List Bool×List Int×Nat)=>za6.s18 e359 s.1 s.2.1 s.2.2) fuel (y295,y296,0):Option (List Bool×List Int)).bind (fun (s:List Bool×List Int)=>za6.k19 i297 s.1 s.2)) (some (.inr y296))
def za6 (m_:zaa):Option (List Int) :=
 (zat m_).bind fun c51=>cond (decide (c51≠0)) (some []) (chk ((0:Int)≤(↑(List.length m_.Next):Int)∧(↑(List.length m_.Next):Int)≤(↑(List.length m_.Next):Int)∧capOk (Int.toNat (↑(List.length m_.Next):Int)) 1) (idx (List.replicate (List.length m_.Next) false) m_.Start fun e54=>(iter (fun (s:List Bool×List Int×Nat)=>za6.s20 m_ s.1 s.2.1 s.2.2) fuel ((List.set (List.replicate (List.length m_.Next) false) m_.Start.toNat true),[m_.Start],0):Option (List Int)).bind (fun (y236:List Int)=>some y236)))
def za0.s2 (c53:List Int) (y74:List Int) (y75:Nat):Option ((List Int×Nat)⊕List Int) :=
 cond (decide ((↑y75:Int)<(↑(List.length c53):Int))) (idxn c53 y75 fun e81=>idx y74 e81 fun e82=>some (.inl ((List.set y74 e81.toNat (↑y75:Int)),(y75+1)))) (some (.inr y74))
def za0.s15 (y70:List Int) (e374:List Int) (y402:List Int) (y403:Nat):Option ((List Int×Nat)⊕List Int) :=
 cond (decide ((↑y403:Int)<(↑(List.length e374):Int))) (idxn e374 y403 fun e410=>idx y70 e410 fun e411=>idxn y402 y403 fun e412=>some (.inl ((List.set y402 y403 e411),(y403+1)))) (some (.inr y402))
def za0.s16 (m_:zaa) (c53:List Int) (y70:List Int) (y310:List (List Int)) (y311:List (List Int)) (y312:Nat):Option ((List (List Int)×List (List Int)×Nat)⊕(List (List Int)×List (List Int))) :=
 cond (decide ((↑y312:Int)<(↑(List.length c53):Int))) (idxn c53 y312 fun e372=>chk ((0:Int)≤m_.Inputs∧m_.Inputs≤m_.Inputs∧capOk (Int.toNat m_.Inputs) 8) (idx m_.Next e372 fun e374=>(iter (fun (s:List Int×Nat)=>za0.s15 y70 e374 s.1 s.2) fuel ((List.replicate (Int.toNat m_.Inputs) 0),0):Option (List Int)).bind (fun (y397:List Int)=>chk (capOk (List.length y310+1) 24) (idx m_.Out e372 fun e425=>(zcl e425).bind fun c426=>chk (capOk (List.length y311+1) 24) (some (.inl ((y310++[y397]),(y311++[c426]),(y312+1)))))))) (some (.inr (y310,y311)))
def za0.k17 (m_:zaa) (y259:List (List Int)) (y260:List (List Int)):Option (zaa×Int) :=
 some ((⟨m_.Inputs,0,y259,y260⟩:zaa),0)
def za0 (m_:zaa):Option (zaa×Int) :=
 (zat m_).bind fun c51=>cond (decide (c51≠0)) (some ((⟨0,0,[],[]⟩:zaa),c51)) ((za6 m_).bind fun c53=>chk ((0:Int)≤(↑(List.length m_.Next):Int)∧(↑(List.length m_.Next):Int)≤(↑(List.length m_.Next):Int)∧capOk (Int.toNat (↑(List.length m_.Next):Int)) 8) ((iter (fun (s:List Int×Nat)=>za0.s2 c53 s.1 s.2) fuel ((List.replicate (List.length m_.Next) 0),0):Option (List Int)).bind (fun (y70:List Int)=>(iter (fun (s:List (List Int)×List (List Int)×Nat)=>za0.s16 m_ c53 y70 s.1 s.2.1 s.2.2) fuel ([],[],0):Option (List (List Int)×List (List Int))).bind (fun (s:List (List Int)×List (List Int))=>za0.k17 m_ s.1 s.2))))
def zaq.s18 (m_:zaa) (class_:List Int) (y467:Nat) (y623:List Int) (y624:Nat):Option ((List Int×Nat)⊕List Int) :=
 cond (decide ((↑y624:Int)<m_.Inputs)) (idxn m_.Out y467 fun e639=>idxn e639 y624 fun e640=>chk ((↑y624:Int)<128) (idxn y623 y624 fun e641=>chk (inR (64+(↑y624:Int))) (idxn m_.Next y467 fun e644=>idxn e644 y624 fun e645=>idx class_ e645 fun e646=>chk ((64+(↑y624:Int))<128) (idxn (List.set y623 y624 e640) (64+y624) fun e647=>chk (inR ((↑y624:Int)+1)) (some (.inl ((List.set (List.set y623 y624 e640) (64+y624) e646),(y624+1)))))))) (some (.inr y623))
def zaq.k19 (y466:List Int) (y467:Nat) (y663:List (List Int×Int)) (n664:Int):Option (((List (List Int×Int))×List Int×Nat)⊕((List (List Int×Int))×List Int)) :=
 idxn y466 y467 fun e670=>some (.inl (y663,(List.set y466 y467 n664),(y467+1)))
def zaq.s20 (m_:zaa) (class_:List Int) (y465:List (List Int×Int)) (y466:List Int) (y467:Nat):Option (((List (List Int×Int))×List Int×Nat)⊕((List (List Int×Int))×List Int)) :=
 cond (decide ((↑y467:Int)<(↑(List.length class_):Int))) ((iter (fun (s:List Int×Nat)=>zaq.s18 m_ class_ y467 s.1 s.2) fuel ((List.replicate 128 0),0):Option (List Int)).bind (fun (y612:List Int)=>chk (List.length y612=128) (chk (List.length y612=128∧∀ p∈y465,List.length p.1=128) ((cond ((!((mget y612 y465).isSome))) (chk (List.length y612=128) (chk (List.length y612=128∧∀ p∈y465,List.length p.1=128) (some ((mset y612 (↑(List.length y465):Int) y465),(↑(List.length y465):Int))))) (some (y465,((mget y612 y465).getD 0))):Option ((List (List Int×Int))×Int)).bind (fun (s:(List (List Int×Int))×Int)=>zaq.k19 y466 y467 s.1 s.2))))) (some (.inr (y465,y466)))
def zaq.k21 (y362:List (List Int×Int)) (y363:List Int):Option (List Int×Int) :=
 some (y363,(↑(List.length y362):Int))
def zaq (m_:zaa) (class_:List Int):Option (List Int×Int) :=
 chk ((0:Int)≤(↑(List.length class_):Int)∧(↑(List.length class_):Int)≤(↑(List.length class_):Int)∧capOk (Int.toNat (↑(List.length class_):Int)) 8) ((iter (fun (s:(List (List Int×Int))×List Int×Nat)=>zaq.s20 m_ class_ s.1 s.2.1 s.2.2) fuel (([]:List (List Int×Int)),(List.replicate (List.length class_) 0),0):Option ((List (List Int×Int))×List Int)).bind (fun (s:(List (List Int×Int))×List Int)=>zaq.k21 s.1 s.2))
def zbg.s2 (m_:zaa) (k_:Int) (class71:List Int) (n72:Int) (y73:Nat):Option ((List Int×Int×Nat)⊕(List Int⊕(List Int×Int))) :=
 cond (decide ((↑y73:Int)<(min (max k_ 0) (↑(List.length m_.Next):Int)))) ((zaq m_ class71).bind fun c79=>cond (decide (c79.2=n72)) (some (.inr (.inr (class71,(↑y73:Int))))) (some (.inl (c79.1,c79.2,(y73+1))))) (some (.inr (.inl class71)))
def zbg (m_:zaa) (k_:Int):Option (List Int×Int) :=
 chk ((0:Int)≤(↑(List.length m_.Next):Int)∧(↑(List.length m_.Next):Int)≤(↑(List.length m_.Next):Int)∧capOk (Int.toNat (↑(List.length m_.Next):Int)) 8) ((iter (fun (s:List Int×Int×Nat)=>zbg.s2 m_ k_ s.1 s.2.1 s.2.2) fuel ((List.replicate (List.length m_.Next) 0),1,0):Option (List Int⊕(List Int×Int))).bind (Sum.elim (fun (class67:List Int)=>some (class67,(min (max k_ 0) (↑(List.length m_.Next):Int)))) some))
def zcu (m_:zaa) (k_:Int):Option (List Int×Int) :=
 (zat m_).bind fun c51=>cond (decide (c51≠0)) (some ([],c51)) ((zbg m_ k_).bind fun c53=>some (c53.1,0))
def zcn (m_:zaa):Option (List Int×Int) :=
 (zcu m_ 128).bind fun c51=>some (c51.1,c51.2)
def zam.s30 (c53:List Int×Int) (e717:List Int) (y744:List Int) (y745:Nat):Option ((List Int×Nat)⊕List Int) :=
 cond (decide ((↑y745:Int)<(↑(List.length e717):Int))) (idxn e717 y745 fun e752=>idx c53.1 e752 fun e753=>chk (capOk (List.length y744+1) 8) (some (.inl ((y744++[e753]),(y745+1))))) (some (.inr y744))
def zam.k31 (y529:Nat) (y713:List (List Int)) (y714:List (List Int)):Option ((List (List Int)×List (List Int)×Nat)⊕(List (List Int)×List (List Int))) :=
 some (.inl (y713,y714,(y529+1)))
def zam.s32 (c51:zaa×Int) (c53:List Int×Int) (y527:List (List Int)) (y528:List (List Int)) (y529:Nat):Option ((List (List Int)×List (List Int)×Nat)⊕(List (List Int)×List (List Int))) :=
 cond (decide ((↑y529:Int)<(↑(List.length c53.1):Int))) ((idxn c53.1 y529 fun e715=>cond (decide (e715<(↑(List.length y527):Int))) (some (y527,y528)) (idxn c51.1.Next y529 fun e717=>(iter (fun (s:List Int×Nat)=>zam.s30 c53 e717 s.1 s.2) fuel ([],0):Option (List Int)).bind (fun (y740:List Int)=>chk (capOk (List.length y527+1) 24) (idxn c51.1.Out y529 fun e769=>chk (capOk (List.length ([]:List Unit)+List.length e769) 8) (chk (capOk (List.length y528+1) 24) (some ((y527++[y740]),(y528++[([]++e769)]))))))):Option (List (List Int)×List (List Int))).bind (fun (s:List (List Int)×List (List Int))=>zam.k31 y529 s.1 s.2)) (some (.inr (y527,y528)))
def zam.k33 (c51:zaa×Int) (y418:List (List Int)) (y419:List (List Int)):Option (zaa×Int) :=
 some ((⟨c51.1.Inputs,0,y418,y419⟩:zaa),0)
def zam (m_:zaa):Option (zaa×Int) :=
 (za0 m_).bind fun c51=>cond (decide (c51.2≠0)) (some ((⟨0,0,[],[]⟩:zaa),c51.2)) ((zcn c51.1).bind fun c53=>cond (decide (c53.2≠0)) (some ((⟨0,0,[],[]⟩:zaa),c53.2)) ((iter (fun (s:List (List Int)×List (List Int)×Nat)=>zam.s32 c51 c53 s.1 s.2.1 s.2.2) fuel ([],[],0):Option (List (List Int)×List (List Int))).bind (fun (s:List (List Int)×List (List Int))=>zam.k33 c51 s.1 s.2)))
def za1.s18 (i343:Nat) (e417:List Int) (y460:List Bool) (y461:List zap) (y462:Nat):Option ((List Bool×List zap×Nat)⊕(List Bool×List zap)) :=
 cond (decide ((↑y462:Int)<(↑(List.length e417):Int))) (idxn e417 y462 fun e473=>idx y460 e473 fun e474=>cond ((!e474)) (idx y460 e473 fun e476=>idxn y461 i343 fun e477=>(zcq [e477.word,[(↑y462:Int)]]).bind fun c478=>chk (capOk (List.length y461+1) 32) (some (.inl ((List.set y460 e473.toNat true),(y461++[(⟨e473,c478⟩:zap)]),(y462+1))))) (some (.inl (y460,y461,(y462+1))))) (some (.inr (y460,y461)))
def za1.k19 (i343:Nat) (y450:List Bool) (y451:List zap):Option ((List Bool×List zap×Nat)⊕List zap) :=
 some (.inl (y450,y451,(i343+1)))
def za1.s20 (m_:zaa) (y341:List Bool) (y342:List zap) (i343:Nat):Option ((List Bool×List zap×Nat)⊕List zap) :=
 cond (decide ((↑i343:Int)<(↑(List.length y342):Int))) (idxn y342 i343 fun e416=>idx m_.Next e416.state fun e417=>(iter (fun (s:List Bool×List zap×Nat)=>za1.s18 i343 e417 s.1 s.2.1 s.2.2) fuel (y341,y342,0):Option (List Bool×List zap)).bind (fun (s:List Bool×List zap)=>za1.k19 i343 s.1 s.2)) (some (.inr y342))
def za1 (m_:zaa) (from_:Int):Option (List zap) :=
 chk ((0:Int)≤(↑(List.length m_.Next):Int)∧(↑(List.length m_.Next):Int)≤(↑(List.length m_.Next):Int)∧capOk (Int.toNat (↑(List.length m_.Next):Int)) 1) (idx (List.replicate (List.length m_.Next) false) from_ fun e52=>(iter (fun (s:List Bool×List zap×Nat)=>za1.s20 m_ s.1 s.2.1 s.2.2) fuel ((List.set (List.replicate (List.length m_.Next) false) from_.toNat true),[(⟨from_,[]⟩:zap)],0):Option (List zap)).bind (fun (y270:List zap)=>some y270))
def zbk.s2 (c53:List zap) (y76:List Int) (y77:List (List Int)) (y78:Nat):Option ((List Int×List (List Int)×Nat)⊕(List Int×List (List Int))) :=
 cond (decide ((↑y78:Int)<(↑(List.length c53):Int))) (idxn c53 y78 fun e85=>chk (capOk (List.length y76+1) 8) (chk (capOk (List.length y77+1) 24) (some (.inl ((y76++[e85.state]),(y77++[e85.word]),(y78+1)))))) (some (.inr (y76,y77)))
def zbk.k3 (y72:List Int) (y73:List (List Int)):Option (List Int×List (List Int)×Int) :=
 some (y72,y73,0)
def zbk (m_:zaa):Option (List Int×List (List Int)×Int) :=
 (zat m_).bind fun c51=>cond (decide (c51≠0)) (some ([],[],c51)) ((za1 m_ m_.Start).bind fun c53=>(iter (fun (s:List Int×List (List Int)×Nat)=>zbk.s2 c53 s.1 s.2.1 s.2.2) fuel ([],[],0):Option (List Int×List (List Int))).bind (fun (s:List Int×List (List Int))=>zbk.k3 s.1 s.2))
def zcr (m_:zaa):Option (List (List Int)×Int) :=
 (zbk m_).bind fun c51=>some (c51.2.1,c51.2.2)
def zdu.s2 (inputs_:Int) (y97:List Int) (i98:Int):Option ((List Int×Int)⊕(List Int⊕(List Int×Bool))) :=
 cond (decide (0≤i98)) (idx y97 i98 fun e110=>chk (inR (e110+1)) (cond (decide ((e110+1)<inputs_)) (idx y97 i98 fun e113=>chk (inR (e113+1)) (idx y97 i98 fun e115=>some (.inr (.inr ((List.set y97 i98.toNat (e113+1)),true))))) (idx y97 i98 fun e116=>chk (inR (i98-1)) (some (.inl ((List.set y97 i98.toNat 0),(i98-1))))))) (some (.inr (.inl y97)))
def zdu (w_:List Int) (inputs_:Int):Option (List Int×Bool) :=
 (zdj w_ inputs_).bind fun c51=>cond (decide (c51≠0)) (some ([],false)) ((zcl w_).bind fun c53=>chk (inR ((↑(List.length c53):Int)-1)) ((iter (fun (s:List Int×Int)=>zdu.s2 inputs_ s.1 s.2) fuel (c53,((↑(List.length c53):Int)-1)):Option (List Int⊕(List Int×Bool))).bind (Sum.elim (fun (y87:List Int)=>cond (decide ((↑(List.length y87):Int)=1024)) (some ([],false)) (chk (capOk (List.length y87+1) 8) (some ((y87++[0]),true)))) some)))
def zby.s2 (inputs_:Int) (n_:Int) (y101:List (List Int)) (w102:List Int) (ok103:Bool):Option ((List (List Int)×List Int×Bool)⊕(List (List Int)⊕(List (List Int)×Int))) :=
 (cond (ok103) (some (decide ((↑(List.length w102):Int)≤n_))) (some false):Option (Bool)).bind (fun (y119:Bool)=>cond (y119) (cond (decide ((↑(List.length y101):Int)=10000)) (some (.inr (.inr ([],11)))) (chk (capOk (List.length y101+1) 24) ((zdu w102 inputs_).bind fun c126=>some (.inl ((y101++[w102]),c126.1,c126.2))))) (some (.inr (.inl y101))))
def zby (inputs_:Int) (n_:Int):Option (List (List Int)×Int) :=
 ((zdj [] inputs_).bind fun c57=>cond (decide (c57≠0)) (some true) (cond (decide (n_<0)) (some true) (some (decide (1024<n_)))):Option (Bool)).bind (fun (y56:Bool)=>cond (y56) (some ([],2)) ((iter (fun (s:List (List Int)×List Int×Bool)=>zby.s2 inputs_ n_ s.1 s.2.1 s.2.2) fuel ([],[],true):Option (List (List Int)⊕(List (List Int)×Int))).bind (Sum.elim (fun (y95:List (List Int))=>some (y95,0)) some)))
def zco (m_:zaa):Option (Bool) :=
 ((zat m_).bind fun c57=>cond (decide (c57≠0)) (some true) ((za6 m_).bind fun c59=>some (decide ((↑(List.length c59):Int)≠(↑(List.length m_.Next):Int)))):Option (Bool)).bind (fun (y56:Bool)=>cond (y56) (some false) ((zam m_).bind fun c61=>(cond (decide (c61.2=0)) (some (decide ((↑(List.length c61.1.Next):Int)=(↑(List.length m_.Next):Int)))) (some false):Option (Bool)).bind (fun (y65:Bool)=>some y65)))
def zc5 (m_:zaa):Option (Int) :=
 (zat m_).bind fun c51=>cond (decide (c51≠0)) (some c51) ((zco m_).bind fun c53=>cond ((!c53)) (some 1) (some 0))
def zas.s2 (a_:zaa) (b_:zaa) (y72:List (List Bool)) (y73:Nat):Option ((List (List Bool)×Nat)⊕List (List Bool)) :=
 cond (decide ((↑y73:Int)<(↑(List.length (List.replicate (List.length a_.Next) ([]:List Bool))):Int))) (chk ((0:Int)≤(↑(List.length b_.Next):Int)∧(↑(List.length b_.Next):Int)≤(↑(List.length b_.Next):Int)∧capOk (Int.toNat (↑(List.length b_.Next):Int)) 1) (idxn y72 y73 fun e81=>chk (inR ((↑y73:Int)+1)) (some (.inl ((List.set y72 y73 (List.replicate (List.length b_.Next) false)),(y73+1)))))) (some (.inr y72))
def zas.s20 (a_:zaa) (b_:zaa) (i900:Nat) (e1104:zar) (y1234:List (List Bool)) (y1235:List zar) (y1236:Nat):Option ((List (List Bool)×List zar×Nat)⊕((List (List Bool)×List zar)⊕((List (List Bool)×List zar×Nat)⊕(Unit⊕(List Int×Bool))))) :=
 cond (decide ((↑y1236:Int)<a_.Inputs)) (idx a_.Out e1104.at_.s fun e1270=>idxn e1270 y1236 fun e1271=>idx b_.Out e1104.at_.t fun e1272=>idxn e1272 y1236 fun e1273=>cond (decide (e1271≠e1273)) (idxn y1235 i900 fun e1275=>(zcq [e1275.word,[(↑y1236:Int)]]).bind fun c1276=>some (.inr (.inr (.inr (.inr (c1276,true)))))) (idx a_.Next e1104.at_.s fun e1277=>idxn e1277 y1236 fun e1278=>idx b_.Next e1104.at_.t fun e1279=>idxn e1279 y1236 fun e1280=>(cond ((!(decide (e1278=e1104.at_.s)&&(decide (e1280=e1104.at_.t)&&true)))) (idx y1234 e1278 fun e1288=>idx e1288 e1280 fun e1289=>some (!e1289)) (some false):Option (Bool)).bind (fun (y1286:Bool)=>cond (y1286) (idx y1234 e1278 fun e1293=>idx e1293 e1280 fun e1294=>idxn y1235 i900 fun e1295=>(zcq [e1295.word,[(↑y1236:Int)]]).bind fun c1296=>chk (capOk (List.length y1235+1) 40) (chk (inR ((↑y1236:Int)+1)) (some (.inl ((List.set y1234 (Int.toNat e1278) (List.set e1293 (Int.toNat e1280) true)),(y1235++[(⟨(⟨e1278,e1280⟩:zbu),c1296⟩:zar)]),(y1236+1)))))) (chk (inR ((↑y1236:Int)+1)) (some (.inl (y1234,y1235,(y1236+1)))))))) (some (.inr (.inl (y1234,y1235))))
def zas.k21 (i900:Nat) (y1203:List (List Bool)) (y1204:List zar):Option ((List (List Bool)×List zar×Nat)⊕(Unit⊕(List Int×Bool))) :=
 some (.inl (y1203,y1204,(i900+1)))
def zas.s22 (a_:zaa) (b_:zaa) (y898:List (List Bool)) (y899:List zar) (i900:Nat):Option ((List (List Bool)×List zar×Nat)⊕(Unit⊕(List Int×Bool))) :=
 cond (decide ((↑i900:Int)<(↑(List.length y899):Int))) (idxn y899 i900 fun e1104=>(iter (fun (s:List (List Bool)×List zar×Nat)=>zas.s20 a_ b_ i900 e1104 s.1 s.2.1 s.2.2) fuel (y898,y899,0):Option ((List (List Bool)×List zar)⊕((List (List Bool)×List zar×Nat)⊕(Unit⊕(List Int×Bool))))).bind (Sum.elim (fun (s:List (List Bool)×List zar)=>zas.k21 i900 s.1 s.2) some)) (some (.inr (.inl ())))
def zas (a_:zaa) (b_:zaa) (first_:zbu):Option (List Int×Bool) :=
 chk ((0:Int)≤(↑(List.length a_.Next):Int)∧(↑(List.length a_.Next):Int)≤(↑(List.length a_.Next):Int)∧capOk (Int.toNat (↑(List.length a_.Next):Int)) 24) ((iter (fun (s:List (List Bool)×Nat)=>zas.s2 a_ b_ s.1 s.2) fuel ((List.replicate (List.length a_.Next) ([]:List Bool)),0):Option (List (List Bool))).bind (fun (y68:List (List Bool))=>idx y68 first_.s fun e85=>idx e85 first_.t fun e86=>(iter (fun (s:List (List Bool)×List zar×Nat)=>zas.s22 a_ b_ s.1 s.2.1 s.2.2) fuel ((List.set y68 (Int.toNat first_.s) (List.set e85 (Int.toNat first_.t) true)),[(⟨first_,[]⟩:zar)],0):Option (Unit⊕(List Int×Bool))).bind (Sum.elim (fun (_:Unit)=>some ([],false)) some)))
def zdw (m_:zaa) (s_:Int) (t_:Int):Option (List Int×Bool×Int) :=
 (zat m_).bind fun c51=>cond (decide (c51≠0)) (some ([],false,c51)) ((cond (decide (s_<0)) (some true) (cond (decide ((↑(List.length m_.Next):Int)≤s_)) (some true) (cond (decide (t_<0)) (some true) (some (decide ((↑(List.length m_.Next):Int)≤t_))))):Option (Bool)).bind (fun (y58:Bool)=>cond (y58) (some ([],false,2)) ((zas m_ m_ (⟨s_,t_⟩:zbu)).bind fun c63=>some (c63.1,c63.2,0))))
def zah.s13 (m_:zaa) (y325:Nat) (y436:List (List (List Int))) (t437:Nat):Option ((List (List (List Int))×Nat)⊕(List (List (List Int))⊕((List (List (List Int))×Nat)⊕(List (List (List Int))⊕(List (List (List Int))×Int))))) :=
 cond (decide ((↑t437:Int)<(↑(List.length m_.Next):Int))) ((zdw m_ (↑y325:Int) (↑t437:Int)).bind fun c449=>cond (decide (c449.2.2≠0)) (some (.inr (.inr (.inr (.inr ([],c449.2.2)))))) (idxn y436 y325 fun e451=>chk (capOk (List.length e451+1) 24) (idxn y436 y325 fun e453=>idxn (List.set y436 y325 (e451++[c449.1])) t437 fun e454=>chk (capOk (List.length e454+1) 24) (idxn (List.set y436 y325 (e451++[c449.1])) t437 fun e456=>some (.inl ((List.set (List.set y436 y325 (e451++[c449.1])) t437 (e454++[c449.1])),(t437+1))))))) (some (.inr (.inl y436)))
def zah.s14 (m_:zaa) (y324:List (List (List Int))) (y325:Nat):Option ((List (List (List Int))×Nat)⊕(List (List (List Int))⊕(List (List (List Int))×Int))) :=
 cond (decide ((↑y325:Int)<(↑(List.length m_.Next):Int))) ((iter (fun (s:List (List (List Int))×Nat)=>zah.s13 m_ y325 s.1 s.2) fuel (y324,(y325+1)):Option (List (List (List Int))⊕((List (List (List Int))×Nat)⊕(List (List (List Int))⊕(List (List (List Int))×Int))))).bind (Sum.elim (fun (y426:List (List (List Int)))=>some (.inl (y426,(y325+1)))) some)) (some (.inr (.inl y324)))
def zah.s16 (y257:List (List (List Int))) (y485:List (List (List Int))) (y486:Nat):Option ((List (List (List Int))×Nat)⊕List (List (List Int))) :=
 cond (decide ((↑y486:Int)<(↑(List.length y257):Int))) (idxn y257 y486 fun e493=>(zct e493).bind fun c494=>chk (capOk (List.length y485+1) 24) (some (.inl ((y485++[c494]),(y486+1))))) (some (.inr y485))
def zah (m_:zaa):Option (List (List (List Int))×Int) :=
 (zc5 m_).bind fun c51=>cond (decide (c51≠0)) (some ([],c51)) (chk ((0:Int)≤(↑(List.length m_.Next):Int)∧(↑(List.length m_.Next):Int)≤(↑(List.length m_.Next):Int)∧capOk (Int.toNat (↑(List.length m_.Next):Int)) 24) ((iter (fun (s:List (List (List Int))×Nat)=>zah.s14 m_ s.1 s.2) fuel ((List.replicate (List.length m_.Next) ([]:List (List Int))),0):Option (List (List (List Int))⊕(List (List (List Int))×Int))).bind (Sum.elim (fun (y257:List (List (List Int)))=>chk ((0:Int)≤0∧0≤(↑(List.length y257):Int)∧capOk (Int.toNat (↑(List.length y257):Int)) 24) ((iter (fun (s:List (List (List Int))×Nat)=>zah.s16 y257 s.1 s.2) fuel ([],0):Option (List (List (List Int)))).bind (fun (y480:List (List (List Int)))=>some (y480,0)))) some)))
def zav.s13 (c59:zaa×Int) (c64:List (List Int)×Int) (c66:List (List (List Int))×Int) (e447:List Int) (y488:List (List Int)) (y489:Nat):Option ((List (List Int)×Nat)⊕(List (List Int)⊕((List (List Int)×Nat)⊕(List (List Int)⊕(List (List Int)×Int))))) :=
 cond (decide ((↑y489:Int)<(↑(List.length c64.1):Int))) (idxn c64.1 y489 fun e499=>(zcq [e447,e499]).bind fun c500=>(zdt c59.1 c66.1 c500).bind fun c501=>cond (decide (c501.2≠0)) (some (.inr (.inr (.inr (.inr ([],c501.2)))))) ((zbl c500 c501.1).bind fun c503=>chk (capOk (List.length y488+List.length c503) 24) (some (.inl ((y488++c503),(y489+1)))))) (some (.inr (.inl y488)))
def zav.s14 (c59:zaa×Int) (c61:List (List Int)×Int) (c64:List (List Int)×Int) (c66:List (List (List Int))×Int) (y371:List (List Int)) (y372:Nat):Option ((List (List Int)×Nat)⊕(List (List Int)⊕(List (List Int)×Int))) :=
 cond (decide ((↑y372:Int)<(↑(List.length c61.1):Int))) (idxn c61.1 y372 fun e447=>(iter (fun (s:List (List Int)×Nat)=>zav.s13 c59 c64 c66 e447 s.1 s.2) fuel (y371,0):Option (List (List Int)⊕((List (List Int)×Nat)⊕(List (List Int)⊕(List (List Int)×Int))))).bind (Sum.elim (fun (y480:List (List Int))=>some (.inl (y480,(y372+1)))) some)) (some (.inr (.inl y371)))
def zav (m_:zaa) (extra_:Int):Option (List (List Int)×Int) :=
 (zat m_).bind fun c51=>cond (decide (c51≠0)) (some ([],c51)) ((cond (decide (extra_<0)) (some true) (some (decide (3<extra_))):Option (Bool)).bind (fun (y56:Bool)=>cond (y56) (some ([],2)) ((zam m_).bind fun c59=>cond (decide (c59.2≠0)) (some ([],c59.2)) ((zcr c59.1).bind fun c61=>cond (decide (c61.2≠0)) (some ([],c61.2)) (chk (inR (extra_+1)) ((zby c59.1.Inputs (extra_+1)).bind fun c64=>cond (decide (c64.2≠0)) (some ([],c64.2)) ((zah c59.1).bind fun c66=>cond (decide (c66.2≠0)) (some ([],c66.2)) (chk (inR ((↑(List.length c61.1):Int)*(↑(List.length c64.1):Int))) ((zb2 c66.1).bind fun c69=>chk (inR (((↑(List.length c61.1):Int)*(↑(List.length c64.1):Int))*c69)) (cond (decide (10000<(((↑(List.length c61.1):Int)*(↑(List.length c64.1):Int))*c69))) (some ([],11)) ((iter (fun (s:List (List Int)×Nat)=>zav.s14 c59 c61 c64 c66 s.1 s.2) fuel ([],0):Option (List (List Int)⊕(List (List Int)×Int))).bind (Sum.elim (fun (y298:List (List Int))=>(zbb y298).bind fun c525=>some (c525,0)) some))))))))))))
def zb7 (m_:zaa) (extra_:Int):Option (zbh×Int) :=
 (zav m_ extra_).bind fun c51=>cond (decide (c51.2≠0)) (some ((⟨(⟨0,0,[],[]⟩:zaa),[]⟩:zbh),c51.2)) ((zam m_).bind fun c53=>cond (decide (c53.2≠0)) (some ((⟨(⟨0,0,[],[]⟩:zaa),[]⟩:zbh),c53.2)) (some ((⟨c53.1,c51.1⟩:zbh),0)))
def zbs (t_:zad) (p1_:List Int):Option (Bool) :=
 (zcs p1_ t_.In).bind fun c51=>some c51
def zag.s2 (s_:List zad) (f_:zad→Option Bool) (y71:Nat):Option (Nat⊕(Unit⊕Int)) :=
 cond (decide ((↑y71:Int)<(↑(List.length s_):Int))) (idxn s_ y71 fun e78=>(f_ e78).bind fun c79=>cond (c79) (some (.inr (.inr (↑y71:Int)))) (some (.inl (y71+1)))) (some (.inr (.inl ())))
def zag (s_:List zad) (f_:zad→Option Bool):Option (Int) :=
 (iter (fun (s:Nat)=>zag.s2 s_ f_ s) fuel 0:Option (Unit⊕Int)).bind (Sum.elim (fun (_:Unit)=>some (-1:Int)) some)
def zaw (s_:List zad) (f_:zad→Option Bool):Option (Bool) :=
 (zag s_ f_).bind fun c51=>some (decide (0≤c51))
def zbx (r_:zay) (w_:List Int):Option (Bool×zay) :=
 (zaw r_.report.Changes (fun u0=>zbs u0 w_)).bind fun c51=>some ((!c51),r_)
def ze1 (m_:zaa) (w_:List Int):Option (List Int×Int) :=
 (zd2 m_ m_.Start w_).bind fun c51=>some (c51.1,c51.2.2)
def zdi (l_:List Int) (n_:Int):Option (List Int) :=
 chk ((0:Int)≤n_∧n_≤n_∧capOk (Int.toNat n_) 8) (chk (0<List.length ((List.replicate (Int.toNat n_) 0):List Int)∧0<List.length l_) (some (List.take (List.length ((List.replicate (Int.toNat n_) 0):List Int)) l_++List.drop (List.length l_) ((List.replicate (Int.toNat n_) 0):List Int))))
def zb8 (r_:zay) (w_:List Int) (answer_:List Int):Option (Int×zay) :=
 (ze1 r_.m w_).bind fun c51=>cond (decide (c51.2≠0)) (some (c51.2,r_)) (chk (inR (r_.report.Run+1)) (((zbw c51.1 answer_).bind fun c64=>cond (decide (c64<(↑(List.length w_):Int))) (chk (inR (c64+1)) ((zdi w_ (c64+1)).bind fun c67=>chk (inR (c64+1)) ((zdi answer_ (c64+1)).bind fun c69=>chk (capOk (List.length r_.report.Changes+1) 48) (some (r_.report.Changes++[(⟨c67,c69⟩:zad)]))))) (some r_.report.Changes):Option (List zad)).bind (fun (y63:List zad)=>some (0,(⟨r_.m,(⟨(r_.report.Run+1),y63⟩:zaf)⟩:zay)))))
def zaj.k18 (y401:Int) (y402:Int) (y403:List (List Int)) (y404:List (List Int)) (y405:Int) (y406:List zad) (e407:Int):Option ((Int×Int×List (List Int)×List (List Int)×Int×List zad)⊕((Int×Int×List (List Int)×List (List Int)×Int×List zad×Nat)⊕((Int×Int×List (List Int)×List (List Int)×Int×List zad)⊕(zaf×Int)))) :=
 cond (decide (e407≠0)) (some (.inr (.inr (.inr ((⟨0,[]⟩:zaf),e407))))) (some (.inl (y401,y402,y403,y404,y405,y406)))
def zaj.k19 (y305:Nat) (y387:Int) (y388:Int) (y389:List (List Int)) (y390:List (List Int)) (y391:Int) (y392:List zad):Option ((Int×Int×List (List Int)×List (List Int)×Int×List zad×Nat)⊕((Int×Int×List (List Int)×List (List Int)×Int×List zad)⊕(zaf×Int))) :=
 some (.inl (y387,y388,y389,y390,y391,y392,(y305+1)))
def zaj.s20 (b_:zaa) (c51:zbh×Int) (y299:Int) (y300:Int) (y301:List (List Int)) (y302:List (List Int)) (y303:Int) (y304:List zad) (y305:Nat):Option ((Int×Int×List (List Int)×List (List Int)×Int×List zad×Nat)⊕((Int×Int×List (List Int)×List (List Int)×Int×List zad)⊕(zaf×Int))) :=
 cond (decide ((↑y305:Int)<(↑(List.length c51.1.Words):Int))) ((idxn c51.1.Words y305 fun e393=>(zbx (⟨(⟨y299,y300,y301,y302⟩:zaa),(⟨y303,y304⟩:zaf)⟩:zay) e393).bind fun c394=>cond ((!c394.1)) (some (.inl (y299,y300,y301,y302,y303,c394.2.report.Changes))) ((ze1 b_ e393).bind fun c396=>(cond (decide (c396.2=0)) ((zb8 (⟨(⟨y299,y300,y301,y302⟩:zaa),(⟨y303,c394.2.report.Changes⟩:zaf)⟩:zay) e393 c396.1).bind fun c409=>some (c409.2.m.Inputs,c409.2.m.Start,c409.2.m.Next,c409.2.m.Out,c409.2.report.Run,c409.2.report.Changes,c409.1)) (some (y299,y300,y301,y302,y303,c394.2.report.Changes,c396.2)):Option (Int×Int×List (List Int)×List (List Int)×Int×List zad×Int)).bind (fun (s:Int×Int×List (List Int)×List (List Int)×Int×List zad×Int)=>zaj.k18 s.1 s.2.1 s.2.2.1 s.2.2.2.1 s.2.2.2.2.1 s.2.2.2.2.2.1 s.2.2.2.2.2.2)):Option ((Int×Int×List (List Int)×List (List Int)×Int×List zad)⊕((Int×Int×List (List Int)×List (List Int)×Int×List zad×Nat)⊕((Int×Int×List (List Int)×List (List Int)×Int×List zad)⊕(zaf×Int))))).bind (Sum.elim (fun (s:Int×Int×List (List Int)×List (List Int)×Int×List zad)=>zaj.k19 y305 s.1 s.2.1 s.2.2.1 s.2.2.2.1 s.2.2.2.2.1 s.2.2.2.2.2) some)) (some (.inr (.inl (y299,y300,y301,y302,y303,y304))))
def zaj.k21 (y237:Int) (y238:Int) (y239:List (List Int)) (y240:List (List Int)) (y241:Int) (y242:List zad):Option (zaf×Int) :=
 some ((⟨y241,y242⟩:zaf),0)
def zaj (a_:zaa) (b_:zaa) (extra_:Int):Option (zaf×Int) :=
 (zb7 a_ extra_).bind fun c51=>cond (decide (c51.2≠0)) (some ((⟨0,[]⟩:zaf),c51.2)) ((zat b_).bind fun c53=>cond (decide (c53≠0)) (some ((⟨0,[]⟩:zaf),c53)) (cond (decide (a_.Inputs≠b_.Inputs)) (some ((⟨0,[]⟩:zaf),15)) ((iter (fun (s:Int×Int×List (List Int)×List (List Int)×Int×List zad×Nat)=>zaj.s20 b_ c51 s.1 s.2.1 s.2.2.1 s.2.2.2.1 s.2.2.2.2.1 s.2.2.2.2.2.1 s.2.2.2.2.2.2) fuel (c51.1.M.Inputs,c51.1.M.Start,c51.1.M.Next,c51.1.M.Out,0,[],0):Option ((Int×Int×List (List Int)×List (List Int)×Int×List zad)⊕(zaf×Int))).bind (Sum.elim (fun (s:Int×Int×List (List Int)×List (List Int)×Int×List zad)=>zaj.k21 s.1 s.2.1 s.2.2.1 s.2.2.2.1 s.2.2.2.2.1 s.2.2.2.2.2) some))))
def zf2:Option (Bool) :=
 (L50_gate).bind fun c51=>(zb7 c51 0).bind fun c52=>(L50_gate).bind fun c53=>(zaj c53 (⟨2,0,[[1,0],[1,1]],[[1,0],[1,2]]⟩:zaa) 0).bind fun c54=>(L50_gate).bind fun c55=>(zaj c55 (⟨2,0,[[1,0],[1,0]],[[0,0],[1,2]]⟩:zaa) 0).bind fun c56=>(cond (decide (c52.2≠0)) (some true) (cond (decide (c54.2≠0)) (some true) (cond (decide (c56.2≠0)) (some true) ((zb3 c52.1.Words [[1,1],[0,0,1],[0,1,1]]).bind fun c71=>cond ((!c71)) (some true) (cond (decide (c54.1.Run≠3)) (some true) (cond (decide ((↑(List.length c54.1.Changes):Int)≠1)) (some true) (cond (decide (c56.1.Run≠2)) (some true) (some (decide ((↑(List.length c56.1.Changes):Int)≠1))))))))):Option (Bool)).bind (fun (y67:Bool)=>cond (y67) (some false) ((idxn c54.1.Changes 0 fun e93=>(R06_Ints e93.In [0,1,1]).bind fun c94=>cond (c94) (idxn c54.1.Changes 0 fun e96=>(R06_Ints e96.Out [1,2,2]).bind fun c97=>cond (c97) (idxn c56.1.Changes 0 fun e99=>(R06_Ints e99.In [0]).bind fun c100=>cond (c100) (idxn c56.1.Changes 0 fun e102=>(R06_Ints e102.Out [0]).bind fun c103=>some c103) (some false)) (some false)) (some false):Option (Bool)).bind (fun (y92:Bool)=>some y92)))
def zd4 (a_:List Int) (b_:List Int) (c_:List Int):Option (List Int) :=
 chk (capOk (List.length a_) 8) (chk (capOk (List.length a_+List.length b_) 8) (chk (capOk (List.length (a_++b_)+List.length c_) 8) (some ((a_++b_)++c_))))
def R01_Size (inputs_:Int):Option (Bool) :=
 (cond (decide (1≤inputs_)) (some (decide (inputs_≤1024))) (some false):Option (Bool)).bind (fun (y54:Bool)=>some y54)
def zcb.s2 (w_:List Int) (inputs_:Int) (i106:Nat):Option (Nat⊕(Unit⊕Int)) :=
 cond (decide ((↑i106:Int)<(↑(List.length w_):Int))) ((idxn w_ i106 fun e127=>cond (decide (e127<0)) (some true) (idxn w_ i106 fun e129=>some (decide (inputs_≤e129))):Option (Bool)).bind (fun (y126:Bool)=>cond (y126) (some (.inr (.inr 1))) (some (.inl (i106+1))))) (some (.inr (.inl ())))
def zcb (w_:List Int) (inputs_:Int):Option (Int) :=
 (R01_Size inputs_).bind fun c51=>cond ((!c51)) (some 2) (cond (decide (1024<(↑(List.length w_):Int))) (some 3) ((iter (fun (s:Nat)=>zcb.s2 w_ inputs_ s) fuel 0:Option (Unit⊕Int)).bind (Sum.elim (fun (_:Unit)=>some 0) some)))
def R06_Outs.s2 (m_:zaa) (w_:List Int) (s90:Int) (y91:List Int) (i92:Nat):Option ((Int×List Int×Nat)⊕(Int×List Int)) :=
 cond (decide ((↑i92:Int)<(↑(List.length w_):Int))) (idx m_.Out s90 fun e103=>idxn w_ i92 fun e104=>idx e103 e104 fun e105=>chk (capOk (List.length y91+1) 8) (idx m_.Next s90 fun e107=>idxn w_ i92 fun e108=>idx e107 e108 fun e109=>some (.inl (e109,(y91++[e105]),(i92+1))))) (some (.inr (s90,y91)))
def R06_Outs.k3 (s81:Int) (y82:List Int):Option (List Int×Int) :=
 some (y82,s81)
def R06_Outs (m_:zaa) (s_:Int) (w_:List Int):Option (List Int×Int) :=
 (iter (fun (s:Int×List Int×Nat)=>R06_Outs.s2 m_ w_ s.1 s.2.1 s.2.2) fuel (s_,[],0):Option (Int×List Int)).bind (fun (s:Int×List Int)=>R06_Outs.k3 s.1 s.2)
def R06_row.s2 (m_:zaa) (s_:Int) (a174:Nat):Option (Nat⊕(Unit⊕Int)) :=
 cond (decide ((↑a174:Int)<m_.Inputs)) ((idx m_.Next s_ fun e219=>idxn e219 a174 fun e220=>cond (decide (e220<0)) (some true) (idx m_.Next s_ fun e222=>idxn e222 a174 fun e223=>cond (decide ((↑(List.length m_.Next):Int)≤e223)) (some true) (idx m_.Out s_ fun e225=>idxn e225 a174 fun e226=>cond (decide (e226<0)) (some true) (idx m_.Out s_ fun e228=>idxn e228 a174 fun e229=>some (decide (1048576<e229))))):Option (Bool)).bind (fun (y218:Bool)=>cond (y218) (some (.inr (.inr 2))) (chk (inR ((↑a174:Int)+1)) (some (.inl (a174+1)))))) (some (.inr (.inl ())))
def R06_row (m_:zaa) (s_:Int):Option (Int) :=
 (idx m_.Next s_ fun e57=>cond (decide ((↑(List.length e57):Int)≠m_.Inputs)) (some true) (idx m_.Out s_ fun e59=>some (decide ((↑(List.length e59):Int)≠m_.Inputs))):Option (Bool)).bind (fun (y56:Bool)=>cond (y56) (some 1) ((iter (fun (s:Nat)=>R06_row.s2 m_ s_ s) fuel 0:Option (Unit⊕Int)).bind (Sum.elim (fun (_:Unit)=>some 0) some)))
def zbf.s2 (m_:zaa) (s81:Nat):Option (Nat⊕(Unit⊕Int)) :=
 cond (decide ((↑s81:Int)<(↑(List.length m_.Next):Int))) ((R06_row m_ (↑s81:Int)).bind fun c87=>cond (decide (c87≠0)) (some (.inr (.inr c87))) (some (.inl (s81+1)))) (some (.inr (.inl ())))
def zbf (m_:zaa):Option (Int) :=
 (cond (decide (m_.Inputs<1)) (some true) (some (decide (64<m_.Inputs))):Option (Bool)).bind (fun (y54:Bool)=>cond (y54) (some 2) (cond (decide ((↑(List.length m_.Next):Int)=0)) (some 19) (cond (decide (128<(↑(List.length m_.Next):Int))) (some 11) ((cond (decide (m_.Start<0)) (some true) (some (decide ((↑(List.length m_.Next):Int)≤m_.Start))):Option (Bool)).bind (fun (y62:Bool)=>cond (y62) (some 2) (cond (decide ((↑(List.length m_.Out):Int)≠(↑(List.length m_.Next):Int))) (some 1) ((iter (fun (s:Nat)=>zbf.s2 m_ s) fuel 0:Option (Unit⊕Int)).bind (Sum.elim (fun (_:Unit)=>some 0) some))))))))
def R06_From (m_:zaa) (s_:Int) (w_:List Int):Option (List Int×Int×Int) :=
 (zbf m_).bind fun c51=>cond (decide (c51≠0)) (some ([],0,c51)) ((cond (decide (s_<0)) (some true) (some (decide ((↑(List.length m_.Next):Int)≤s_))):Option (Bool)).bind (fun (y56:Bool)=>cond (y56) (some ([],0,2)) ((zcb w_ m_.Inputs).bind fun c60=>cond (decide (c60≠0)) (some ([],0,c60)) ((R06_Outs m_ s_ w_).bind fun c62=>some (c62.1,c62.2,0)))))
def zf0 (m_:zaa) (ids_:List (List (List Int))) (w_:List Int):Option (List (List Int)) :=
 (R06_From m_ m_.Start w_).bind fun c51=>idx ids_ c51.2.1 fun e52=>cond (decide ((↑(List.length e52):Int)=0)) (some [[]]) (idx ids_ c51.2.1 fun e54=>some e54)
def zb0.s2 (a_:List Int) (b_:List Int) (i115:Nat):Option (Nat⊕Nat) :=
 (cond (decide ((↑i115:Int)<(↑(List.length a_):Int))) (cond (decide ((↑i115:Int)<(↑(List.length b_):Int))) (idxn a_ i115 fun e141=>idxn b_ i115 fun e142=>some (decide (e141=e142))) (some false)) (some false):Option (Bool)).bind (fun (y138:Bool)=>cond (y138) (chk (inR ((↑i115:Int)+1)) (some (.inl (i115+1)))) (some (.inr i115)))
def zb0 (a_:List Int) (b_:List Int):Option (Int) :=
 (iter (fun (s:Nat)=>zb0.s2 a_ b_ s) fuel 0:Option (Nat)).bind (fun (i100:Nat)=>some (↑i100:Int))
def R01_Lex (a_:List Int) (b_:List Int):Option (Int) :=
 (zb0 a_ b_).bind fun c51=>(cond (decide (c51=(↑(List.length a_):Int))) (some (decide (c51=(↑(List.length b_):Int)))) (some false):Option (Bool)).bind (fun (y55:Bool)=>cond (y55) (some 0) ((cond (decide (c51=(↑(List.length a_):Int))) (some (decide (c51=(↑(List.length a_):Int)))) (cond (decide (c51<(↑(List.length b_):Int))) (idx a_ c51 fun e69=>idx b_ c51 fun e70=>some (decide (e69<e70))) (some false)):Option (Bool)).bind (fun (y66:Bool)=>cond (y66) (some (-1:Int)) (some 1))))
def zd5 (a_:List Int) (b_:List Int):Option (Int) :=
 cond (decide ((↑(List.length a_):Int)<(↑(List.length b_):Int))) (some (-1:Int)) (cond (decide ((↑(List.length b_):Int)<(↑(List.length a_):Int))) (some 1) ((R01_Lex a_ b_).bind fun c53=>some c53))
def zcy.s2 (l_:List (List Int)) (w_:List Int) (low84:Nat) (high85:Nat):Option ((Nat×Nat)⊕Nat) :=
 cond (decide ((↑low84:Int)<(↑high85:Int))) (chk (inR ((↑low84:Int)+(↑high85:Int))) (chk (inR (((↑low84:Int)+(↑high85:Int)) / 2)∧(0:Int)≤((↑low84:Int)+(↑high85:Int))∧(1:Int)≤2) (idxn l_ ((low84+high85) / 2) fun e97=>(zd5 e97 w_).bind fun c98=>cond (decide (c98<0)) (chk (inR ((((↑low84:Int)+(↑high85:Int)) / 2)+1)) (some (.inl ((((low84+high85) / 2)+1),high85)))) (some (.inl (low84,((low84+high85) / 2))))))) (some (.inr low84))
def zcy (l_:List (List Int)) (w_:List Int):Option (Int) :=
 (iter (fun (s:Nat×Nat)=>zcy.s2 l_ w_ s.1 s.2) fuel (0,(List.length l_)):Option (Nat)).bind (fun (low77:Nat)=>some (↑low77:Int))
def R01_Same (a_:List Int) (b_:List Int):Option (Bool) :=
 (cond (decide ((↑(List.length a_):Int)=(↑(List.length b_):Int))) ((zb0 a_ b_).bind fun c57=>some (decide (c57=(↑(List.length a_):Int)))) (some false):Option (Bool)).bind (fun (y55:Bool)=>some y55)
def R02_with.s2 (c51:Int) (y93:List (List Int)) (i94:Int):Option ((List (List Int)×Int)⊕List (List Int)) :=
 cond (decide (c51<i94)) (chk (inR (i94-1)) (idx y93 (i94-1) fun e103=>idx y93 i94 fun e104=>chk (inR (i94-1)) (some (.inl ((List.set y93 i94.toNat e103),(i94-1)))))) (some (.inr y93))
def R02_with (l_:List (List Int)) (w_:List Int):Option (List (List Int)) :=
 (zcy l_ w_).bind fun c51=>(cond (decide (c51<(↑(List.length l_):Int))) (idx l_ c51 fun e59=>(R01_Same e59 w_).bind fun c60=>some c60) (some false):Option (Bool)).bind (fun (y57:Bool)=>cond (y57) (some l_) (chk (capOk (List.length l_+1) 24) (chk (inR ((↑(List.length (l_++[[]])):Int)-1)) ((iter (fun (s:List (List Int)×Int)=>R02_with.s2 c51 s.1 s.2) fuel ((l_++[[]]),((↑(List.length (l_++[[]])):Int)-1)):Option (List (List Int))).bind (fun (y87:List (List Int))=>chk (capOk (List.length ([]:List Unit)+List.length w_) 8) (idx y87 c51 fun e111=>some (List.set y87 c51.toNat ([]++w_))))))))
def zb9.s2 (l_:List (List Int)) (y70:List (List Int)) (i71:Nat):Option ((List (List Int)×Nat)⊕List (List Int)) :=
 cond (decide ((↑i71:Int)<(↑(List.length l_):Int))) (idxn l_ i71 fun e77=>(R02_with y70 e77).bind fun c78=>some (.inl (c78,(i71+1)))) (some (.inr y70))
def zb9 (l_:List (List Int)):Option (List (List Int)) :=
 (iter (fun (s:List (List Int)×Nat)=>zb9.s2 l_ s.1 s.2) fuel ([],0):Option (List (List Int))).bind (fun (y66:List (List Int))=>some y66)
def zc1 (w_:List Int) (p_:List Int):Option (Bool) :=
 (zb0 w_ p_).bind fun c51=>some (decide (c51=(↑(List.length p_):Int)))
def zbd.s13 (c51:List (List Int)) (i308:Nat) (top412:Bool) (k413:Nat):Option ((Bool×Nat)⊕Bool) :=
 cond (decide ((↑k413:Int)<(↑(List.length c51):Int))) (cond (top412) (idxn c51 k413 fun e425=>idxn c51 i308 fun e426=>cond (decide ((↑(List.length e425):Int)=(↑(List.length e426):Int))) (some (.inl (true,(k413+1)))) (idxn c51 k413 fun e428=>idxn c51 i308 fun e429=>(zc1 e428 e429).bind fun c430=>some (.inl ((!c430),(k413+1))))) (some (.inl (false,(k413+1))))) (some (.inr top412))
def zbd.s14 (c51:List (List Int)) (y307:List (List Int)) (i308:Nat):Option ((List (List Int)×Nat)⊕List (List Int)) :=
 cond (decide ((↑i308:Int)<(↑(List.length c51):Int))) ((iter (fun (s:Bool×Nat)=>zbd.s13 c51 i308 s.1 s.2) fuel (true,(i308+1)):Option (Bool)).bind (fun (top404:Bool)=>cond (top404) (idxn c51 i308 fun e436=>chk (capOk (List.length y307+1) 24) (some (.inl ((y307++[e436]),(i308+1))))) (some (.inl (y307,(i308+1)))))) (some (.inr y307))
def zbd (l_:List (List Int)):Option (List (List Int)) :=
 (zb9 l_).bind fun c51=>(iter (fun (s:List (List Int)×Nat)=>zbd.s14 c51 s.1 s.2) fuel ([],0):Option (List (List Int))).bind (fun (y246:List (List Int))=>some y246)
def R30_Made.s2 (ids_:List (List (List Int))) (most67:Int) (s68:Nat):Option ((Int×Nat)⊕Int) :=
 cond (decide ((↑s68:Int)<(↑(List.length ids_):Int))) (idxn ids_ s68 fun e73=>some (.inl ((max most67 (↑(List.length e73):Int)),(s68+1)))) (some (.inr most67))
def R30_Made.s86 (front_:List (List Int)) (middle_:List (List Int)) (i1681:Nat) (j2345:Nat) (c2414:List (List Int)) (y2449:List (List Int)) (k2450:Nat):Option ((List (List Int)×Nat)⊕List (List Int)) :=
 cond (decide ((↑k2450:Int)<(↑(List.length c2414):Int))) (idxn front_ i1681 fun e2459=>idxn middle_ j2345 fun e2460=>idxn c2414 k2450 fun e2461=>(zd4 e2459 e2460 e2461).bind fun c2462=>chk (capOk (List.length y2449+1) 24) (some (.inl ((y2449++[c2462]),(k2450+1))))) (some (.inr y2449))
def R30_Made.s87 (n_:zaa) (front_:List (List Int)) (middle_:List (List Int)) (ids_:List (List (List Int))) (i1681:Nat) (y2344:List (List Int)) (j2345:Nat):Option ((List (List Int)×Nat)⊕List (List Int)) :=
 cond (decide ((↑j2345:Int)<(↑(List.length middle_):Int))) (idxn front_ i1681 fun e2411=>idxn middle_ j2345 fun e2412=>(zd4 e2411 e2412 []).bind fun c2413=>(zf0 n_ ids_ c2413).bind fun c2414=>(iter (fun (s:List (List Int)×Nat)=>R30_Made.s86 front_ middle_ i1681 j2345 c2414 s.1 s.2) fuel (y2344,0):Option (List (List Int))).bind (fun (y2442:List (List Int))=>some (.inl (y2442,(j2345+1))))) (some (.inr y2344))
def R30_Made.s88 (n_:zaa) (front_:List (List Int)) (middle_:List (List Int)) (ids_:List (List (List Int))) (y1680:List (List Int)) (i1681:Nat):Option ((List (List Int)×Nat)⊕List (List Int)) :=
 cond (decide ((↑i1681:Int)<(↑(List.length front_):Int))) ((iter (fun (s:List (List Int)×Nat)=>R30_Made.s87 n_ front_ middle_ ids_ i1681 s.1 s.2) fuel (y1680,0):Option (List (List Int))).bind (fun (y2280:List (List Int))=>some (.inl (y2280,(i1681+1))))) (some (.inr y1680))
def R30_Made (n_:zaa) (front_:List (List Int)) (middle_:List (List Int)) (ids_:List (List (List Int))):Option (List (List Int)×Int) :=
 (iter (fun (s:Int×Nat)=>R30_Made.s2 ids_ s.1 s.2) fuel (1,0):Option (Int)).bind (fun (most64:Int)=>chk (inR ((↑(List.length front_):Int)*(↑(List.length middle_):Int))) (chk (inR (((↑(List.length front_):Int)*(↑(List.length middle_):Int))*most64)) (cond (decide (10000<(((↑(List.length front_):Int)*(↑(List.length middle_):Int))*most64))) (some ([],11)) ((iter (fun (s:List (List Int)×Nat)=>R30_Made.s88 n_ front_ middle_ ids_ s.1 s.2) fuel ([],0):Option (List (List Int))).bind (fun (y1284:List (List Int))=>(zbd y1284).bind fun c2486=>some (c2486,0))))))
def za3.s89 (m_:zaa) (class_:List Int) (s3445:Nat) (t4904:Int) (same5139:Bool) (a5140:Nat):Option ((Bool×Nat)⊕Bool) :=
 (cond (decide ((↑a5140:Int)<m_.Inputs)) (some same5139) (some false):Option (Bool)).bind (fun (y5166:Bool)=>cond (y5166) (idxn m_.Out s3445 fun e5171=>idxn e5171 a5140 fun e5172=>idx m_.Out t4904 fun e5173=>idxn e5173 a5140 fun e5174=>cond (decide (e5172=e5174)) (idxn m_.Next s3445 fun e5176=>idxn e5176 a5140 fun e5177=>idx class_ e5177 fun e5178=>idx m_.Next t4904 fun e5179=>idxn e5179 a5140 fun e5180=>idx class_ e5180 fun e5181=>chk (inR ((↑a5140:Int)+1)) (some (.inl (decide (e5178=e5181),(a5140+1))))) (chk (inR ((↑a5140:Int)+1)) (some (.inl (false,(a5140+1)))))) (some (.inr same5139)))
def za3.s90 (m_:zaa) (class_:List Int) (y3443:List Int) (s3445:Nat) (found4903:Int) (t4904:Int):Option ((Int×Int)⊕Int) :=
 cond (decide (0≤t4904)) (idxn class_ s3445 fun e5050=>idx class_ t4904 fun e5051=>(iter (fun (s:Bool×Nat)=>za3.s89 m_ class_ s3445 t4904 s.1 s.2) fuel (decide (e5050=e5051),0):Option (Bool)).bind (fun (same5119:Bool)=>cond (same5119) (idx y3443 t4904 fun e5189=>chk (inR (t4904-1)) (some (.inl (e5189,(t4904-1))))) (chk (inR (t4904-1)) (some (.inl (found4903,(t4904-1))))))) (some (.inr found4903))
def za3.k91 (y3443:List Int) (s3445:Nat) (count5200:Nat) (found5201:Int):Option ((List Int×Nat×Nat)⊕List Int) :=
 chk (capOk (List.length y3443+1) 8) (some (.inl ((y3443++[found5201]),count5200,(s3445+1))))
def za3.s92 (m_:zaa) (class_:List Int) (y3443:List Int) (count3444:Nat) (s3445:Nat):Option ((List Int×Nat×Nat)⊕List Int) :=
 cond (decide ((↑s3445:Int)<(↑(List.length class_):Int))) ((iter (fun (s:Int×Int)=>za3.s90 m_ class_ y3443 s3445 s.1 s.2) fuel ((-1:Int),((↑s3445:Int)-1)):Option (Int)).bind (fun (found4761:Int)=>(cond (decide (found4761<0)) (chk (inR ((↑count3444:Int)+1)) (some ((count3444+1),(↑count3444:Int)))) (some (count3444,found4761)):Option (Nat×Int)).bind (fun (s:Nat×Int)=>za3.k91 y3443 s3445 s.1 s.2))) (some (.inr y3443))
def za3 (m_:zaa) (class_:List Int):Option (List Int) :=
 (iter (fun (s:List Int×Nat×Nat)=>za3.s92 m_ class_ s.1 s.2.1 s.2.2) fuel ([],0,0):Option (List Int)).bind (fun (y2630:List Int)=>some y2630)
def zbp.s2 (m_:zaa) (k_:Int) (class94:List Int) (i95:Nat):Option ((List Int×Nat)⊕List Int) :=
 (cond (decide ((↑i95:Int)<k_)) (some (decide ((↑i95:Int)<(↑(List.length m_.Next):Int)))) (some false):Option (Bool)).bind (fun (y109:Bool)=>cond (y109) ((za3 m_ class94).bind fun c113=>chk (inR ((↑i95:Int)+1)) (some (.inl (c113,(i95+1))))) (some (.inr class94)))
def zbp (m_:zaa) (k_:Int):Option (List Int×Int) :=
 (zbf m_).bind fun c51=>cond (decide (c51≠0)) (some ([],c51)) (chk ((0:Int)≤(↑(List.length m_.Next):Int)∧(↑(List.length m_.Next):Int)≤(↑(List.length m_.Next):Int)∧capOk (Int.toNat (↑(List.length m_.Next):Int)) 8) ((iter (fun (s:List Int×Nat)=>zbp.s2 m_ k_ s.1 s.2) fuel ((List.replicate (List.length m_.Next) 0),0):Option (List Int)).bind (fun (class85:List Int)=>some (class85,0))))
def zdk (m_:zaa):Option (List Int×Int) :=
 (zbp m_ (↑(List.length m_.Next):Int)).bind fun c51=>some (c51.1,c51.2)
def R08_Min.s2 (y70:List Int) (i71:Nat):Option ((List Int×Nat)⊕List Int) :=
 cond (decide ((↑i71:Int)<(↑(List.length y70):Int))) (idxn y70 i71 fun e76=>some (.inl ((List.set y70 i71 (-1:Int)),(i71+1)))) (some (.inr y70))
def R08_Min.k55 (m_:zaa) (c51:List Int×Int) (i1027:Nat) (y1421:List Int) (y1422:List Int) (a1423:Nat) (e1463:Int) (y1472:List Int) (y1473:List Int):Option ((List Int×List Int×List Int×List Int×Nat)⊕(List Int×List Int×List Int×List Int)) :=
 idx c51.1 e1463 fun e1487=>idx y1473 e1487 fun e1488=>chk (capOk (List.length y1421+1) 8) (idxn y1472 i1027 fun e1490=>idx m_.Out e1490 fun e1491=>idxn e1491 a1423 fun e1492=>chk (capOk (List.length y1422+1) 8) (chk (inR ((↑a1423:Int)+1)) (some (.inl (y1472,y1473,(y1421++[e1488]),(y1422++[e1492]),(a1423+1))))))
def R08_Min.s56 (m_:zaa) (c51:List Int×Int) (i1027:Nat) (y1419:List Int) (y1420:List Int) (y1421:List Int) (y1422:List Int) (a1423:Nat):Option ((List Int×List Int×List Int×List Int×Nat)⊕(List Int×List Int×List Int×List Int)) :=
 cond (decide ((↑a1423:Int)<m_.Inputs)) (idxn y1419 i1027 fun e1461=>idx m_.Next e1461 fun e1462=>idxn e1462 a1423 fun e1463=>(idx c51.1 e1463 fun e1474=>idx y1420 e1474 fun e1475=>cond (decide (e1475<0)) (idx c51.1 e1463 fun e1477=>idx y1420 e1477 fun e1478=>chk (capOk (List.length y1419+1) 8) (some ((y1419++[e1463]),(List.set y1420 e1477.toNat (↑(List.length y1419):Int))))) (some (y1419,y1420)):Option (List Int×List Int)).bind (fun (s:List Int×List Int)=>R08_Min.k55 m_ c51 i1027 y1421 y1422 a1423 e1463 s.1 s.2)) (some (.inr (y1419,y1420,y1421,y1422)))
def R08_Min.k57 (y1025:List (List Int)) (y1026:List (List Int)) (i1027:Nat) (y1385:List Int) (y1386:List Int) (y1387:List Int) (y1388:List Int):Option ((List Int×List Int×List (List Int)×List (List Int)×Nat)⊕(List (List Int)×List (List Int))) :=
 chk (capOk (List.length y1025+1) 24) (chk (capOk (List.length y1026+1) 24) (some (.inl (y1385,y1386,(y1025++[y1387]),(y1026++[y1388]),(i1027+1)))))
def R08_Min.s58 (m_:zaa) (c51:List Int×Int) (y1023:List Int) (y1024:List Int) (y1025:List (List Int)) (y1026:List (List Int)) (i1027:Nat):Option ((List Int×List Int×List (List Int)×List (List Int)×Nat)⊕(List (List Int)×List (List Int))) :=
 cond (decide ((↑i1027:Int)<(↑(List.length y1023):Int))) ((iter (fun (s:List Int×List Int×List Int×List Int×Nat)=>R08_Min.s56 m_ c51 i1027 s.1 s.2.1 s.2.2.1 s.2.2.2.1 s.2.2.2.2) fuel (y1023,y1024,[],[],0):Option (List Int×List Int×List Int×List Int)).bind (fun (s:List Int×List Int×List Int×List Int)=>R08_Min.k57 y1025 y1026 i1027 s.1 s.2.1 s.2.2.1 s.2.2.2)) (some (.inr (y1025,y1026)))
def R08_Min.k59 (m_:zaa) (y800:List (List Int)) (y801:List (List Int)):Option (zaa×Int) :=
 some ((⟨m_.Inputs,0,y800,y801⟩:zaa),0)
def R08_Min (m_:zaa):Option (zaa×Int) :=
 (zdk m_).bind fun c51=>cond (decide (c51.2≠0)) (some ((⟨0,0,[],[]⟩:zaa),c51.2)) (chk ((0:Int)≤(↑(List.length m_.Next):Int)∧(↑(List.length m_.Next):Int)≤(↑(List.length m_.Next):Int)∧capOk (Int.toNat (↑(List.length m_.Next):Int)) 8) ((iter (fun (s:List Int×Nat)=>R08_Min.s2 s.1 s.2) fuel ((List.replicate (List.length m_.Next) 0),0):Option (List Int)).bind (fun (y67:List Int)=>idx c51.1 m_.Start fun e83=>idx y67 e83 fun e84=>(iter (fun (s:List Int×List Int×List (List Int)×List (List Int)×Nat)=>R08_Min.s58 m_ c51 s.1 s.2.1 s.2.2.1 s.2.2.2.1 s.2.2.2.2) fuel ([m_.Start],(List.set y67 e83.toNat 0),[],[],0):Option (List (List Int)×List (List Int))).bind (fun (s:List (List Int)×List (List Int))=>R08_Min.k59 m_ s.1 s.2))))
def R01_Next.s2 (inputs_:Int) (y98:List Int) (i99:Int):Option ((List Int×Int)⊕(List Int⊕(List Int×Bool))) :=
 cond (decide (0≤i99)) (idx y98 i99 fun e111=>chk (inR (inputs_-1)) (cond (decide (e111<(inputs_-1))) (idx y98 i99 fun e114=>chk (inR (e114+1)) (idx y98 i99 fun e116=>some (.inr (.inr ((List.set y98 i99.toNat (e114+1)),true))))) (idx y98 i99 fun e117=>chk (inR (i99-1)) (some (.inl ((List.set y98 i99.toNat 0),(i99-1))))))) (some (.inr (.inl y98)))
def R01_Next (w_:List Int) (inputs_:Int):Option (List Int×Bool) :=
 (zcb w_ inputs_).bind fun c51=>cond (decide (c51≠0)) (some ([],false)) (chk (capOk (List.length ([]:List Unit)+List.length w_) 8) (chk (inR ((↑(List.length ([]++w_)):Int)-1)) ((iter (fun (s:List Int×Int)=>R01_Next.s2 inputs_ s.1 s.2) fuel (([]++w_),((↑(List.length ([]++w_)):Int)-1)):Option (List Int⊕(List Int×Bool))).bind (Sum.elim (fun (y88:List Int)=>cond (decide ((↑(List.length w_):Int)=1024)) (some ([],false)) (chk (capOk (List.length y88+1) 8) (some ((y88++[0]),true)))) some))))
def R02_Upto.s2 (inputs_:Int) (n_:Int) (w101:List Int) (y102:List (List Int)) (ok103:Bool):Option ((List Int×List (List Int)×Bool)⊕(List (List Int)⊕(List (List Int)×Int))) :=
 (cond (ok103) (some (decide ((↑(List.length w101):Int)≤n_))) (some false):Option (Bool)).bind (fun (y119:Bool)=>cond (y119) (cond (decide ((↑(List.length y102):Int)=10000)) (some (.inr (.inr ([],11)))) (chk (capOk (List.length y102+1) 24) ((R01_Next w101 inputs_).bind fun c126=>some (.inl (c126.1,(y102++[w101]),c126.2))))) (some (.inr (.inl y102))))
def R02_Upto (inputs_:Int) (n_:Int):Option (List (List Int)×Int) :=
 ((R01_Size inputs_).bind fun c57=>cond ((!c57)) (some true) (cond (decide (n_<0)) (some true) (some (decide (1024<n_)))):Option (Bool)).bind (fun (y56:Bool)=>cond (y56) (some ([],2)) ((iter (fun (s:List Int×List (List Int)×Bool)=>R02_Upto.s2 inputs_ n_ s.1 s.2.1 s.2.2) fuel ([],[],true):Option (List (List Int)⊕(List (List Int)×Int))).bind (Sum.elim (fun (y95:List (List Int))=>some (y95,0)) some)))
def R10_has.s2 (l_:List Int) (n_:Int) (i67:Nat):Option (Nat⊕(Unit⊕Bool)) :=
 cond (decide ((↑i67:Int)<(↑(List.length l_):Int))) (idxn l_ i67 fun e73=>cond (decide (e73=n_)) (some (.inr (.inr true))) (some (.inl (i67+1)))) (some (.inr (.inl ())))
def R10_has (l_:List Int) (n_:Int):Option (Bool) :=
 (iter (fun (s:Nat)=>R10_has.s2 l_ n_ s) fuel 0:Option (Unit⊕Bool)).bind (Sum.elim (fun (_:Unit)=>some false) some)
def zc0 (w_:List Int) (a_:Int):Option (List Int) :=
 chk (capOk (List.length w_) 8) (chk (capOk (List.length w_+1) 8) (some (w_++[a_])))
def za8.s18 (m_:zaa) (i408:Nat) (y550:List Int) (y551:List (List Int)) (a552:Nat):Option ((List Int×List (List Int)×Nat)⊕(List Int×List (List Int))) :=
 cond (decide ((↑a552:Int)<m_.Inputs)) (idxn y550 i408 fun e567=>idx m_.Next e567 fun e568=>idxn e568 a552 fun e569=>(R10_has y550 e569).bind fun c570=>cond ((!c570)) (chk (capOk (List.length y550+1) 8) (idxn y551 i408 fun e573=>(zc0 e573 (↑a552:Int)).bind fun c574=>chk (capOk (List.length y551+1) 24) (chk (inR ((↑a552:Int)+1)) (some (.inl ((y550++[e569]),(y551++[c574]),(a552+1))))))) (chk (inR ((↑a552:Int)+1)) (some (.inl (y550,y551,(a552+1)))))) (some (.inr (y550,y551)))
def za8.k19 (i408:Nat) (y538:List Int) (y539:List (List Int)):Option ((List Int×List (List Int)×Nat)⊕(List Int×List (List Int))) :=
 some (.inl (y538,y539,(i408+1)))
def za8.s20 (m_:zaa) (y406:List Int) (y407:List (List Int)) (i408:Nat):Option ((List Int×List (List Int)×Nat)⊕(List Int×List (List Int))) :=
 cond (decide ((↑i408:Int)<(↑(List.length y406):Int))) ((iter (fun (s:List Int×List (List Int)×Nat)=>za8.s18 m_ i408 s.1 s.2.1 s.2.2) fuel (y406,y407,0):Option (List Int×List (List Int))).bind (fun (s:List Int×List (List Int))=>za8.k19 i408 s.1 s.2)) (some (.inr (y406,y407)))
def za8.k21 (y318:List Int) (y319:List (List Int)):Option (List Int×List (List Int)×Int) :=
 some (y318,y319,0)
def za8 (m_:zaa):Option (List Int×List (List Int)×Int) :=
 (zbf m_).bind fun c51=>cond (decide (c51≠0)) (some ([],[],c51)) ((iter (fun (s:List Int×List (List Int)×Nat)=>za8.s20 m_ s.1 s.2.1 s.2.2) fuel ([m_.Start],[[]],0):Option (List Int×List (List Int))).bind (fun (s:List Int×List (List Int))=>za8.k21 s.1 s.2))
def zc3 (m_:zaa):Option (List (List Int)×Int) :=
 (za8 m_).bind fun c51=>some (c51.2.1,c51.2.2)
def zdp (m_:zaa) (extra_:Int):Option (zaa×List (List Int)×List (List Int)×Int) :=
 (R08_Min m_).bind fun c51=>cond (decide (c51.2≠0)) (some ((⟨0,0,[],[]⟩:zaa),[],[],c51.2)) ((cond (decide (extra_<0)) (some true) (some (decide (3<extra_))):Option (Bool)).bind (fun (y56:Bool)=>cond (y56) (some ((⟨0,0,[],[]⟩:zaa),[],[],2)) (chk (inR (extra_+1)) ((R02_Upto m_.Inputs (extra_+1)).bind fun c62=>cond (decide (c62.2≠0)) (some ((⟨0,0,[],[]⟩:zaa),[],[],c62.2)) ((zc3 c51.1).bind fun c64=>some (c51.1,c64.1,c62.1,0))))))
def zd6 (m_:zaa):Option (Bool) :=
 (R08_Min m_).bind fun c51=>(cond (decide (c51.2=0)) (some (decide ((↑(List.length c51.1.Next):Int)=(↑(List.length m_.Next):Int)))) (some false):Option (Bool)).bind (fun (y55:Bool)=>some y55)
def zf9 (m_:zaa):Option (Int) :=
 (zbf m_).bind fun c51=>cond (decide (c51≠0)) (some c51) ((zd6 m_).bind fun c53=>cond ((!c53)) (some 1) (some 0))
def zbc.s84 (y2202:List zai) (e2279:Int) (e2282:Int) (known2308:Bool) (k2309:Nat):Option ((Bool×Nat)⊕Bool) :=
 cond (decide ((↑k2309:Int)<(↑(List.length y2202):Int))) (cond (known2308) (some (.inl (true,(k2309+1)))) (idxn y2202 k2309 fun e2318=>cond (decide (e2318.S=e2279)) (idxn y2202 k2309 fun e2320=>some (.inl (decide (e2320.T=e2282),(k2309+1)))) (some (.inl (false,(k2309+1)))))) (some (.inr known2308))
def zbc.s85 (a_:zaa) (b_:zaa) (i1569:Nat) (y2202:List zai) (x2203:Nat):Option ((List zai×Nat)⊕(List zai⊕((List zai×Nat)⊕(Unit⊕(List Int×Bool))))) :=
 cond (decide ((↑x2203:Int)<a_.Inputs)) (idxn y2202 i1569 fun e2268=>(zc0 e2268.Word (↑x2203:Int)).bind fun c2269=>idxn y2202 i1569 fun e2270=>idx a_.Out e2270.S fun e2271=>idxn e2271 x2203 fun e2272=>idxn y2202 i1569 fun e2273=>idx b_.Out e2273.T fun e2274=>idxn e2274 x2203 fun e2275=>cond (decide (e2272≠e2275)) (some (.inr (.inr (.inr (.inr (c2269,true)))))) (idxn y2202 i1569 fun e2277=>idx a_.Next e2277.S fun e2278=>idxn e2278 x2203 fun e2279=>idxn y2202 i1569 fun e2280=>idx b_.Next e2280.T fun e2281=>idxn e2281 x2203 fun e2282=>(iter (fun (s:Bool×Nat)=>zbc.s84 y2202 e2279 e2282 s.1 s.2) fuel (false,0):Option (Bool)).bind (fun (known2303:Bool)=>cond ((!known2303)) (chk (capOk (List.length y2202+1) 40) (chk (inR ((↑x2203:Int)+1)) (some (.inl ((y2202++[(⟨e2279,e2282,c2269⟩:zai)]),(x2203+1)))))) (chk (inR ((↑x2203:Int)+1)) (some (.inl (y2202,(x2203+1)))))))) (some (.inr (.inl y2202)))
def zbc.s86 (a_:zaa) (b_:zaa) (y1568:List zai) (i1569:Nat):Option ((List zai×Nat)⊕(Unit⊕(List Int×Bool))) :=
 cond (decide ((↑i1569:Int)<(↑(List.length y1568):Int))) ((iter (fun (s:List zai×Nat)=>zbc.s85 a_ b_ i1569 s.1 s.2) fuel (y1568,0):Option (List zai⊕((List zai×Nat)⊕(Unit⊕(List Int×Bool))))).bind (Sum.elim (fun (y2141:List zai)=>some (.inl (y2141,(i1569+1)))) some)) (some (.inr (.inl ())))
def zbc (a_:zaa) (b_:zaa) (s_:Int) (t_:Int):Option (List Int×Bool) :=
 (iter (fun (s:List zai×Nat)=>zbc.s86 a_ b_ s.1 s.2) fuel ([(⟨s_,t_,[]⟩:zai)],0):Option (Unit⊕(List Int×Bool))).bind (Sum.elim (fun (_:Unit)=>some ([],false)) some)
def zer (m_:zaa) (s_:Int) (t_:Int):Option (List Int×Bool×Int) :=
 (zbf m_).bind fun c51=>cond (decide (c51≠0)) (some ([],false,c51)) ((cond (decide (s_<0)) (some true) (cond (decide ((↑(List.length m_.Next):Int)≤s_)) (some true) (cond (decide (t_<0)) (some true) (some (decide ((↑(List.length m_.Next):Int)≤t_))))):Option (Bool)).bind (fun (y58:Bool)=>cond (y58) (some ([],false,2)) ((zbc m_ m_ s_ t_).bind fun c63=>some (c63.1,c63.2,0))))
def zax.s13 (m_:zaa) (s204:Nat) (y267:List (List Int)) (t268:Nat):Option ((List (List Int)×Nat)⊕List (List Int)) :=
 cond (decide ((↑t268:Int)<(↑(List.length m_.Next):Int))) (cond (decide ((↑t268:Int)≠(↑s204:Int))) ((zer m_ (↑s204:Int) (↑t268:Int)).bind fun c276=>chk (capOk (List.length y267+1) 24) (some (.inl ((y267++[c276.1]),(t268+1))))) (some (.inl (y267,(t268+1))))) (some (.inr y267))
def zax.s14 (m_:zaa) (y203:List (List (List Int))) (s204:Nat):Option ((List (List (List Int))×Nat)⊕List (List (List Int))) :=
 cond (decide ((↑s204:Int)<(↑(List.length m_.Next):Int))) ((iter (fun (s:List (List Int)×Nat)=>zax.s13 m_ s204 s.1 s.2) fuel ([],0):Option (List (List Int))).bind (fun (y263:List (List Int))=>(zb9 y263).bind fun c282=>chk (capOk (List.length y203+1) 24) (some (.inl ((y203++[c282]),(s204+1)))))) (some (.inr y203))
def zax (m_:zaa):Option (List (List (List Int))×Int) :=
 (zf9 m_).bind fun c51=>cond (decide (c51≠0)) (some ([],c51)) ((iter (fun (s:List (List (List Int))×Nat)=>zax.s14 m_ s.1 s.2) fuel ([],0):Option (List (List (List Int)))).bind (fun (y169:List (List (List Int)))=>some (y169,0)))
def zcx (m_:zaa) (extra_:Int):Option (List (List Int)×Int) :=
 (zdp m_ extra_).bind fun c51=>cond (decide (c51.2.2.2≠0)) (some ([],c51.2.2.2)) ((zax c51.1).bind fun c53=>(R30_Made c51.1 c51.2.1 c51.2.2.1 c53.1).bind fun c54=>some (c54.1,c54.2))
def R50_New (m_:zaa) (extra_:Int):Option (zbh×Int) :=
 (zcx m_ extra_).bind fun c51=>cond (decide (c51.2≠0)) (some ((⟨(⟨0,0,[],[]⟩:zaa),[]⟩:zbh),c51.2)) ((R08_Min m_).bind fun c53=>cond (decide (c53.2≠0)) (some ((⟨(⟨0,0,[],[]⟩:zaa),[]⟩:zbh),c53.2)) (some ((⟨c53.1,c51.1⟩:zbh),0)))
def zcf.s2 (r_:zaf) (w_:List Int) (i71:Nat):Option (Nat⊕(Unit⊕Bool)) :=
 cond (decide ((↑i71:Int)<(↑(List.length r_.Changes):Int))) (idxn r_.Changes i71 fun e78=>(zc1 w_ e78.In).bind fun c79=>cond (c79) (some (.inr (.inr true))) (some (.inl (i71+1)))) (some (.inr (.inl ())))
def zcf (r_:zaf) (w_:List Int):Option (Bool) :=
 (iter (fun (s:Nat)=>zcf.s2 r_ w_ s) fuel 0:Option (Unit⊕Bool)).bind (Sum.elim (fun (_:Unit)=>some false) some)
def R01_Join.s2 (parts_:List (List Int)) (y70:List Int) (i71:Nat):Option ((List Int×Nat)⊕List Int) :=
 cond (decide ((↑i71:Int)<(↑(List.length parts_):Int))) (idxn parts_ i71 fun e77=>chk (capOk (List.length y70+List.length e77) 8) (some (.inl ((y70++e77),(i71+1))))) (some (.inr y70))
def R01_Join (parts_:List (List Int)):Option (List Int) :=
 (iter (fun (s:List Int×Nat)=>R01_Join.s2 parts_ s.1 s.2) fuel ([],0):Option (List Int)).bind (fun (y66:List Int)=>some y66)
def R50_with (r_:zaf) (m_:zaa) (w_:List Int) (out_:List Int):Option (zaf) :=
 chk (inR (r_.Run+1)) ((R06_Outs m_ m_.Start w_).bind fun c52=>(zb0 c52.1 out_).bind fun c53=>(cond (decide (c53<(↑(List.length c52.1):Int))) (chk (inR (c53+1)) (chk ((0:Int)≤(c53+1)∧(c53+1)≤(↑(List.length w_):Int)) ((R01_Join [(List.take (Int.toNat (c53+1)) w_)]).bind fun c68=>chk (inR (c53+1)) (chk ((0:Int)≤(c53+1)∧(c53+1)≤(↑(List.length out_):Int)) ((R01_Join [(List.take (Int.toNat (c53+1)) out_)]).bind fun c71=>chk (capOk (List.length r_.Changes+1) 48) (some (r_.Changes++[(⟨c68,c71⟩:zad)]))))))) (some r_.Changes):Option (List zad)).bind (fun (y64:List zad)=>some (⟨(r_.Run+1),y64⟩:zaf)))
def za9.s2 (b_:zaa) (c51:zbh×Int) (y99:Int) (y100:List zad) (i101:Nat):Option ((Int×List zad×Nat)⊕(Int×List zad)) :=
 cond (decide ((↑i101:Int)<(↑(List.length c51.1.Words):Int))) (idxn c51.1.Words i101 fun e112=>(zcf (⟨y99,y100⟩:zaf) e112).bind fun c113=>cond ((!c113)) (idxn c51.1.Words i101 fun e115=>(R06_Outs b_ b_.Start e115).bind fun c116=>idxn c51.1.Words i101 fun e117=>(R50_with (⟨y99,y100⟩:zaf) c51.1.M e117 c116.1).bind fun c118=>some (.inl (c118.Run,c118.Changes,(i101+1)))) (some (.inl (y99,y100,(i101+1))))) (some (.inr (y99,y100)))
def za9.k3 (y89:Int) (y90:List zad):Option (zaf×Int) :=
 some ((⟨y89,y90⟩:zaf),0)
def za9 (a_:zaa) (b_:zaa) (extra_:Int):Option (zaf×Int) :=
 (R50_New a_ extra_).bind fun c51=>cond (decide (c51.2≠0)) (some ((⟨0,[]⟩:zaf),c51.2)) ((zbf b_).bind fun c53=>cond (decide (c53≠0)) (some ((⟨0,[]⟩:zaf),c53)) (cond (decide (a_.Inputs≠b_.Inputs)) (some ((⟨0,[]⟩:zaf),15)) ((iter (fun (s:Int×List zad×Nat)=>za9.s2 b_ c51 s.1 s.2.1 s.2.2) fuel (0,[],0):Option (Int×List zad)).bind (fun (s:Int×List zad)=>za9.k3 s.1 s.2))))
def R06_Same (a_:zaa) (b_:zaa):Option (Bool) :=
 (cond (decide (a_.Inputs=b_.Inputs)) (cond (decide (a_.Start=b_.Start)) ((zb3 a_.Next b_.Next).bind fun c61=>cond (c61) ((zb3 a_.Out b_.Out).bind fun c63=>some c63) (some false)) (some false)) (some false):Option (Bool)).bind (fun (y58:Bool)=>some y58)
def zbi.s2 (a_:List zad) (b_:List zad) (i141:Nat):Option (Nat⊕(Unit⊕Bool)) :=
 cond (decide ((↑i141:Int)<(↑(List.length a_):Int))) ((idxn a_ i141 fun e175=>idxn b_ i141 fun e176=>(R06_Ints e175.In e176.In).bind fun c177=>cond ((!c177)) (some true) (idxn a_ i141 fun e179=>idxn b_ i141 fun e180=>(R06_Ints e179.Out e180.Out).bind fun c181=>some (!c181)):Option (Bool)).bind (fun (y174:Bool)=>cond (y174) (some (.inr (.inr false))) (some (.inl (i141+1))))) (some (.inr (.inl ())))
def zbi (a_:List zad) (b_:List zad):Option (Bool) :=
 cond (decide ((↑(List.length a_):Int)≠(↑(List.length b_):Int))) (some false) ((iter (fun (s:Nat)=>zbi.s2 a_ b_ s) fuel 0:Option (Unit⊕Bool)).bind (Sum.elim (fun (_:Unit)=>some true) some))
def zcc (a_:zaf) (b_:zaf):Option (Bool) :=
 (cond (decide (a_.Run=b_.Run)) ((zbi a_.Changes b_.Changes).bind fun c57=>some c57) (some false):Option (Bool)).bind (fun (y55:Bool)=>some y55)
def zc4 (a_:zaa) (b_:zaa) (extra_:Int):Option (Bool) :=
 ((zhj a_ extra_).bind fun c57=>cond ((!c57)) (some true) ((zf7 b_).bind fun c59=>some c59):Option (Bool)).bind (fun (y56:Bool)=>cond (y56) ((zf2).bind fun c61=>some c61) ((zb7 a_ extra_).bind fun c62=>(R50_New a_ extra_).bind fun c63=>(zaj a_ b_ extra_).bind fun c64=>(za9 a_ b_ extra_).bind fun c65=>((R06_Same c62.1.M c63.1.M).bind fun c78=>cond (c78) ((zb3 c62.1.Words c63.1.Words).bind fun c80=>cond (c80) (cond (decide (c62.2=c63.2)) ((zcc c64.1 c65.1).bind fun c83=>cond (c83) (cond (decide (c64.2=c65.2)) ((zf2).bind fun c86=>some c86) (some false)) (some false)) (some false)) (some false)) (some false):Option (Bool)).bind (fun (y77:Bool)=>some y77)))
end Go.Proofs.YtcneaiejdidooaaGreat.Sym

/-
 Laws of rounds: what a loop comes to, in plain words. No program in sight.
-/
namespace Go.Proofs.YtcneaiejdidooaaGreat.Sym
section
variable {S R A B α β:Type}
theorem za4 {step:S→Option (S⊕R)} (I:S→Prop) (m:S→Nat) (Q:R→Prop) (h:∀ s,I s→(∃ s',step s=some (.inl s')∧I s'∧m s'<m s)∨∃ r,step s=some (.inr r)∧Q r) :
  ∀ (n:Nat) (s:S),I s→m s<n→∃ r,iter step n s=some r∧Q r
 | 0,_,_,hm=>absurd hm (Nat.not_lt_zero _)
 | n+1,s,hi,hm=>by
  unfold iter
  rcases h s hi with ⟨s',e,hi',hm'⟩ | ⟨r,e,hq⟩
  ·rw [e]
   exact za4 I m Q h n s' hi' (by omega)
  ·rw [e]
   exact ⟨r,rfl,hq⟩
theorem iter_eq {step:S→Option (S⊕R)} {r:R} (I:S→Prop) (m:S→Nat) (h:∀ s,I s→(∃ s',step s=some (.inl s')∧I s'∧m s'<m s)∨step s=some (.inr r)) {n:Nat} {s:S} (hi:I s) (hm:m s<n):iter step n s=some r:=by
 obtain ⟨r',e,rfl⟩:=za4 I m (fun r'=>r'=r) (fun s hs=>(h s hs).imp id fun e=>⟨r,e,rfl⟩) n s hi hm
 exact e
def walk (g:A→Nat→α→Option (A⊕R)) (fin:A→Option R):A→Nat→List α→Option R
 | a,_,[]=>fin a
 | a,i,x::l=>(g a i x).bind (Sum.elim (fun a'=>walk g fin a' (i+1) l) some)
theorem idxn_at {l:List α} {i:Nat} {x:α} {k:α→Option β} (h:l[i]?=some x):idxn l i k=k x:=by unfold idxn;rw [h]
theorem idx_at {l:List α} {n:Int} {i:Nat} {x:α} {k:α→Option β} (hn:n=(i:Int)) (h:l[i]?=some x):idx l n k=k x:=by
 subst hn
 unfold idx
 rw [if_pos (by omega),Int.toNat_natCast,h]
theorem chk_pos {c:Prop} [Decidable c] {k:Option α} (h:c):chk c k=k:=by unfold chk;rw [if_pos h]
theorem obind {a:α} {f:α→Option β}:(some a).bind f=f a:=(Option.bind_some a f).trans (Eq.trans rfl rfl)
theorem fuel_big:100000000000000<fuel:=by unfold fuel;omega
theorem dec_lt {l:List α} {i:Nat} {x:α} (h:l[i]?=some x):decide ((↑i:Int)<(↑l.length:Int))=true:=by
 have:=(List.getElem?_eq_some_iff.1 h).1
 simpa using this
theorem dec_end (l:List α):decide ((↑l.length:Int)<(↑l.length:Int))=false:=by simp
def scan (g:Nat→α→Option R):Nat→List α→Option R
 | _,[]=>none
 | i,x::l=>match g i x with | some r=>some r | none=>scan g (i+1) l
theorem zds {g:Nat→α→Option R}:∀ {l:List α} {j:Nat},scan g j l=none↔∀ i x,l[i]?=some x→g (j+i) x=none
 | [],j=>by simp [scan]
 | y::l,j=>by
  constructor
  ·intro h i x hx
   unfold scan at h
   cases e:g j y with
   | some r=>rw [e] at h;cases h
   | none =>
    rw [e] at h
    match i,hx with
    | 0,hx =>
     simp at hx
     subst hx
     exact e
    | i+1,hx =>
     have:=(zds (g:=g) (l:=l) (j:=j+1)).1 h i x (by simpa using hx)
     rwa [show j+1+i=j+(i+1) by omega] at this
  ·intro h
   unfold scan
   have h0:=h 0 y rfl
   rw [Nat.add_zero] at h0
   rw [h0]
   exact (zds (g:=g) (l:=l) (j:=j+1)).2 fun i x hx=>by
    have:=h (i+1) x (by simpa using hx)
    rwa [show j+(i+1)=j+1+i by omega] at this
theorem zcz {step:Nat→Option (Nat⊕(Unit⊕R))} {l:List α} (g:Nat→α→Option R) (h1:∀ i x,l[i]?=some x→step i=some (match g i x with | some r=>.inr (.inr r) | none=>.inl (i+1))) (h2:step l.length=some (.inr (.inl ()))) (hl:l.length≤100000000000000) :
  iter step fuel 0=some (match scan g 0 l with | some r=>.inr r | none=>.inl ()):=by
 have key:∀ (n i:Nat),i≤l.length→l.length-i<n→iter step n i=some (match scan g i (l.drop i) with | some r=>.inr r | none=>.inl ()):=by
  intro n
  induction n with
  | zero=>intro i _ h;omega
  | succ n ih =>
   intro i hi hn
   rcases Nat.lt_or_ge i l.length with h | h
   ·rw [List.drop_eq_getElem_cons h]
    unfold iter scan
    rw [h1 i _ (List.getElem?_eq_getElem h)]
    cases g i l[i] with
    | some r=>rfl
    | none=>exact ih (i+1) h (by omega)
   ·have e:i=l.length:=by omega
    subst e
    rw [List.drop_length]
    unfold iter scan
    rw [h2]
 exact key fuel 0 (Nat.zero_le _) (by have:=fuel_big;omega)
def foldi (f:A→Nat→α→A):A→Nat→List α→A
 | a,_,[]=>a
 | a,i,x::l=>foldi f (f a i x) (i+1) l
theorem iter_fold {step:A×Nat→Option ((A×Nat)⊕R)} {l:List α} (f:A→Nat→α→A) (fin:A→R) (Inv:A→Nat→Prop) (h1:∀ a i x,Inv a i→l[i]?=some x→step (a,i)=some (.inl (f a i x,i+1))∧Inv (f a i x) (i+1))
  (h2:∀ a,Inv a l.length→step (a,l.length)=some (.inr (fin a))) (hl:l.length≤100000000000000) {a0:A} (h0:Inv a0 0):iter step fuel (a0,0)=some (fin (foldi f a0 0 l))∧Inv (foldi f a0 0 l) l.length:=by
 have key:∀ (n i:Nat) (a:A),Inv a i→i≤l.length→l.length-i<n→iter step n (a,i)=some (fin (foldi f a i (l.drop i)))∧Inv (foldi f a i (l.drop i)) l.length:=by
  intro n
  induction n with
  | zero=>intro i _ _ _ h;omega
  | succ n ih =>
   intro i a hv hi hn
   rcases Nat.lt_or_ge i l.length with h | h
   ·rw [List.drop_eq_getElem_cons h]
    unfold iter foldi
    obtain ⟨e,hv'⟩:=h1 a i _ hv (List.getElem?_eq_getElem h)
    rw [e]
    exact ih (i+1) _ hv' h (by omega)
   ·have e:i=l.length:=by omega
    subst e
    rw [List.drop_length]
    unfold iter foldi
    rw [h2 a hv]
    exact ⟨rfl,hv⟩
 exact key fuel 0 a0 h0 (Nat.zero_le _) (by have:=fuel_big;omega)
theorem foldi_eq {f:A→α→A}:∀ (l:List α) (a:A) (i:Nat),foldi (fun a _ x=>f a x) a i l=l.foldl f a
 | [],_,_=>rfl
 | x::l,a,i=>by unfold foldi;exact foldi_eq l (f a x) (i+1)
end
end Go.Proofs.YtcneaiejdidooaaGreat.Sym

/-
 The comparisons of words are what they say; they may be handed to a sort.
-/
namespace Go.Proofs.YtcneaiejdidooaaGreat.Sym
open Go.RowKit
set_option maxRecDepth 100000
theorem zed (x y:Int):cmp_Compare_int x y=some (cmpI x y):=by
 unfold cmp_Compare_int cmp_isNaN_int cmpI
 by_cases h1:x<y
 ·simp [h1]
 ·by_cases h2:y<x<;>simp [h1,h2]
theorem zex (s t:List Int) (hs:s.length≤100000000000000):zau s t=some (lexI s t):=by
 have key:=za4 (step:=fun k=>zau.s2 s t k) (fun k=>k≤s.length∧k≤t.length∧lexI s t=lexI (s.drop k) (t.drop k)) (fun k=>s.length-k)
  (fun r=>Sum.elim (fun (_:Unit)=>cond (decide ((↑(List.length s):Int)<(↑(List.length t):Int))) (some (-1:Int)) (some 0)) some r=some (lexI s t)) (fun k ⟨h1,h2,h3⟩=>by
   unfold zau.s2
   rcases Nat.lt_or_ge k s.length with h | h
   ·have hx:=List.getElem?_eq_getElem h
    rw [dec_lt hx,cond_true,idxn_at hx]
    by_cases h4:t.length≤k
    ·right
     refine ⟨.inr 1,by simp [h4],?_⟩
     rw [h3,lexI_long h h4]
     rfl
    ·have hy:=List.getElem?_eq_getElem (show k<t.length by omega)
     have hst:=lexI_step hx hy
     have d4:decide ((↑(List.length t):Int)≤(↑k:Int))=false:=by simp;omega
     rw [d4,cond_false,idxn_at hy,zed]
     by_cases h5:cmpI s[k] t[k]=0
     ·left
      rw [if_pos h5] at hst
      exact ⟨k+1,by simp [h5],⟨by omega,by omega,by rw [h3,hst]⟩,by omega⟩
     ·right
      rw [if_neg h5] at hst
      exact ⟨.inr (cmpI s[k] t[k]),by simp [h5],by rw [h3,hst];rfl⟩
   ·right
    have e:k=s.length:=by omega
    subst e
    rw [dec_end,cond_false]
    refine ⟨.inl (),rfl,?_⟩
    rw [h3,lexI_end (Nat.le_refl _)]
    by_cases h4:s.length<t.length<;>simp [h4]) fuel 0 ⟨Nat.zero_le _,Nat.zero_le _,rfl⟩ (by have:=fuel_big;simp only [Nat.sub_zero];omega)
 obtain ⟨r,e,hq⟩:=key
 unfold zau
 rw [e]
 exact hq
theorem cmp_Or_two (x y:Int):zb1 [x,y]=some (if x≠0 then x else y):=by
 unfold zb1
 have e:fuel=(fuel-3)+1+1+1:=by unfold fuel;omega
 rw [e]
 by_cases h1:x=0
 ·by_cases h2:y=0
  ·simp [iter,zb1.s2,idxn,h1,h2]
  ·simp [iter,zb1.s2,idxn,h1,h2]
 ·simp [iter,zb1.s2,idxn,h1]
theorem zjp (s t:List Int) (hs:s.length≤100000000000000):word_Lex s t=some (lexI s t):=by
 unfold word_Lex
 rw [zex s t hs]
 rfl
theorem zfm (s t:List Int) (hs:s.length≤100000000000000):zch s t=some (cmpW s t):=by
 unfold zch
 rw [zex s t hs,zed]
 show (zb1 [cmpI s.length t.length,lexI s t]).bind some=_
 rw [cmp_Or_two]
 show some _=some _
 congr 1
 unfold cmpI cmpW
 by_cases h1:s.length<t.length
 ·simp [h1]
 ·by_cases h2:t.length<s.length
  ·simp [h1,h2]
  ·simp [h1,h2]
theorem cmpE_word_Lex:CmpE Tryz.prog 61 (fun x=>nL cI x) (fun x y=>word_Lex x y) :=
 ⟨fun args w=>zdx rfl rfl rfl args w,cmpG_lex fun x y r hx h=>by rw [zjp x y (by omega)] at h;injection h with h;exact h.symm⟩
theorem zh8:CmpE Tryz.prog 83 (fun x=>nL cI x) (fun x y=>zch x y) :=
 ⟨fun args w=>zdx rfl rfl rfl args w,cmpG_compare fun x y r hx h=>by rw [zfm x y (by omega)] at h;injection h with h;exact h.symm⟩
end Go.Proofs.YtcneaiejdidooaaGreat.Sym

/-
 What the basic functions on words come to: plain laws.
-/
namespace Go.Proofs.YtcneaiejdidooaaGreat.Sym
set_option maxRecDepth 100000
section
variable {α β R:Type}
theorem get_at {l:List α} {i:Nat} (h:i<l.length):l[i]?=some l[i]:=List.getElem?_eq_getElem h
theorem iter_all2 [DecidableEq α] {a b:List α} {step:Nat→Option (Nat⊕(Unit⊕Bool))} (hlen:a.length=b.length) (h1:∀ i x y,a[i]?=some x→b[i]?=some y→step i=some (if x=y then .inl (i+1) else .inr (.inr false)))
  (h2:step a.length=some (.inr (.inl ()))) (hl:a.length≤100000000000000):(iter step fuel 0).bind (Sum.elim (fun _=>some true) some)=some (decide (a=b)):=by
 rw [zcz (l:=a) (fun i x=>if b[i]?=some x then none else some false) (fun i x hx=>?_) h2 hl]
 ·cases e:scan (fun i x=>if b[i]?=some x then none else some false) 0 a with
  | none =>
   have:=zds.1 e
   have hab:a=b:=by
    apply List.ext_getElem?
    intro i
    rcases Nat.lt_or_ge i a.length with h | h
    ·have h3:=this i _ (get_at h)
     rw [Nat.zero_add] at h3
     split at h3
     ·rename_i h4
      rw [get_at h,h4]
     ·cases h3
    ·rw [List.getElem?_eq_none h,List.getElem?_eq_none (by omega)]
   simp [hab]
  | some r =>
   have hne:a≠b:=fun hab=>by
    subst hab
    have:scan (fun i x=>if a[i]?=some x then none else some false) 0 a=none:=zds.2 fun i x hx=>by rw [Nat.zero_add,if_pos hx]
    rw [this] at e
    cases e
   have hr:r=false:=by
    have key:∀ (l:List α) (j:Nat),scan (fun i x=>if b[i]?=some x then none else some false) j l=some r→r=false:=by
     intro l
     induction l with
     | nil=>intro j h;cases h
     | cons x l ih =>
      intro j h
      unfold scan at h
      split at h
      ·rename_i r' h3
       injection h with h
       subst h
       split at h3
       ·cases h3
       ·injection h3 with h3
        exact h3.symm
      ·exact ih _ h
    exact key a 0 e
   subst hr
   simp [hne]
 ·have hi:=(List.getElem?_eq_some_iff.1 hx).1
  have hy:=get_at (l:=b) (i:=i) (by omega)
  rw [h1 i x _ hx hy]
  by_cases h:x=b[i]'(by omega)
  ·rw [if_pos h,hy,if_pos (by rw [h])]
  ·rw [if_neg h,hy,if_neg (fun h3=>h (by injection h3 with h3;exact h3.symm))]
end
theorem zgw (a b:List Int) (hl:a.length≤100000000000000):R06_Ints a b=some (decide (a=b)):=by
 unfold R06_Ints
 by_cases hlen:a.length=b.length
 ·rw [show decide ((↑(List.length a):Int)≠(↑(List.length b):Int))=false by simp [hlen],cond_false]
  refine iter_all2 hlen (fun i x y hx hy=>?_) ?_ hl
  ·simp only [R06_Ints.s2]
   rw [dec_lt hx,cond_true,idxn_at hx,idxn_at hy]
   by_cases h:x=y<;>simp [h]
  ·simp only [R06_Ints.s2]
   rw [dec_end]
   rfl
 ·rw [show decide ((↑(List.length a):Int)≠(↑(List.length b):Int))=true by simp;omega,cond_true]
  have:a≠b:=fun h=>hlen (by rw [h])
  simp [this]
theorem zga (a b:List (List Int)) (hl:a.length≤100000000000000) (hw:∀ x∈a,x.length≤100000000000000):zb3 a b=some (decide (a=b)):=by
 unfold zb3
 by_cases hlen:a.length=b.length
 ·rw [show decide ((↑(List.length a):Int)≠(↑(List.length b):Int))=false by simp [hlen],cond_false]
  refine iter_all2 hlen (fun i x y hx hy=>?_) ?_ hl
  ·simp only [zb3.s2]
   rw [dec_lt hx,cond_true,idxn_at hx,idxn_at hy,zgw x y (hw x (List.mem_of_getElem? hx))]
   by_cases h:x=y<;>simp [h]
  ·simp only [zb3.s2]
   rw [dec_end]
   rfl
 ·rw [show decide ((↑(List.length a):Int)≠(↑(List.length b):Int))=true by simp;omega,cond_true]
  have:a≠b:=fun h=>hlen (by rw [h])
  simp [this]
def SmW (x:List Int):Prop:=x.length≤2000000
def SmL (l:List (List Int)):Prop:=l.length≤2000000∧∀ x∈l,SmW x
theorem R01_Size_eq (n:Int):R01_Size n=some (decide (1≤n∧n≤1024)):=by
 unfold R01_Size
 by_cases h1:1≤n<;>by_cases h2:n≤1024<;>simp [h1,h2]
theorem zij (n:Int):zc6 n=some (decide (1≤n∧n≤1024)):=by
 unfold zc6
 by_cases h1:1≤n<;>by_cases h2:n≤1024<;>simp [h1,h2]
theorem scan_all {α R:Type} {p:α→Bool} {r:R}:∀ (l:List α) (j:Nat),scan (fun _ x=>if p x=true then none else some r) j l=if l.all p=true then none else some r
 | [],_=>rfl
 | x::l,j=>by
  unfold scan
  by_cases h:p x=true
  ·simp only [h,if_true,List.all_cons,Bool.true_and]
   exact scan_all l (j+1)
  ·simp [h]
theorem R01_Check_eq (w:List Int) (n:Int) (hl:SmW w):zcb w n=some (checkI w n):=by
 unfold zcb checkI
 rw [R01_Size_eq]
 by_cases h1:1≤n∧n≤1024
 ·rw [if_pos h1]
  simp only [Option.bind_some,h1,and_self,decide_true,Bool.not_true,cond_false]
  by_cases h2:1024<w.length
  ·rw [if_pos h2,show decide ((1024:Int)<(↑(List.length w):Int))=true from decide_eq_true (by omega),cond_true]
  ·rw [if_neg h2,show decide ((1024:Int)<(↑(List.length w):Int))=false from decide_eq_false (by omega),cond_false]
   have key:=zcz (step:=fun s=>zcb.s2 w n s) (l:=w) (fun _ x=>if decide (0≤x∧x<n)=true then none else some (1:Int)) (fun i x hx=>by
    simp only [zcb.s2]
    rw [dec_lt hx,cond_true,idxn_at hx,idxn_at hx]
    by_cases a1:x<0
    ·simp [a1,show ¬ (0≤x) by omega]
    ·by_cases a2:n≤x
     ·simp [a1,a2,show ¬ (x<n) by omega]
     ·simp [a1,a2,show 0≤x by omega,show x<n by omega]) (by
    simp only [zcb.s2]
    rw [dec_end]
    rfl) (by unfold SmW at hl;omega)
   rw [key,scan_all (p:=fun x=>decide (0≤x∧x<n))]
   by_cases h:(w.all fun x=>decide (0≤x∧x<n))=true
   ·rw [if_pos h,if_pos h];rfl
   ·rw [if_neg h,if_neg h];rfl
 ·rw [if_neg h1]
  simp [h1]
theorem word_Check_eq (w:List Int) (n:Int) (hl:SmW w):zdj w n=some (checkI w n):=by
 unfold zdj checkI zbn zao
 rw [zij]
 by_cases h1:1≤n∧n≤1024
 ·rw [if_pos h1]
  simp only [Option.bind_some,h1,and_self,decide_true,Bool.not_true,cond_false]
  by_cases h2:1024<w.length
  ·rw [if_pos h2,show decide ((1024:Int)<(↑(List.length w):Int))=true from decide_eq_true (by omega),cond_true]
  ·rw [if_neg h2,show decide ((1024:Int)<(↑(List.length w):Int))=false from decide_eq_false (by omega),cond_false]
   have key:=zcz (step:=fun s=>zao.s2 w (fun u0=>zdc u0 n) s) (l:=w) (fun i x=>if decide (0≤x∧x<n)=true then none else some (i:Int)) (fun i x hx=>by
    simp only [zao.s2,zdc]
    rw [dec_lt hx,cond_true,idxn_at hx]
    by_cases a1:x<0
    ·simp [a1,show ¬ (0≤x) by omega]
    ·by_cases a2:n≤x
     ·simp [a1,a2,show ¬ (x<n) by omega]
     ·simp [a1,a2,show 0≤x by omega,show x<n by omega]) (by
    simp only [zao.s2]
    rw [dec_end]
    rfl) (by unfold SmW at hl;omega)
   rw [key]
   cases e:scan (fun i x=>if decide (0≤x∧x<n)=true then none else some (i:Int)) 0 w with
   | none =>
    have h3:=zds.1 e
    have h:(w.all fun x=>decide (0≤x∧x<n))=true:=List.all_eq_true.2 fun x hx=>by
     obtain ⟨i,hi,rfl⟩:=List.mem_iff_getElem.1 hx
     have:=h3 i _ (get_at hi)
     split at this
     ·assumption
     ·cases this
    rw [if_pos h]
    simp
   | some r =>
    have h:¬ (w.all fun x=>decide (0≤x∧x<n))=true:=fun h=>by
     have:scan (fun i x=>if decide (0≤x∧x<n)=true then none else some (i:Int)) 0 w=none:=zds.2 fun i x hx=>if_pos (List.all_eq_true.1 h x (List.mem_of_getElem? hx))
     rw [this] at e
     cases e
    have hr:0≤r:=by
     have key:∀ (l:List Int) (j:Nat),scan (fun i x=>if decide (0≤x∧x<n)=true then none else some (i:Int)) j l=some r→0≤r:=by
      intro l
      induction l with
      | nil=>intro j h;cases h
      | cons x l ih =>
       intro j h
       unfold scan at h
       split at h
       ·rename_i r' h3
        injection h with h
        subst h
        split at h3
        ·cases h3
        ·injection h3 with h3
         omega
       ·exact ih _ h
     exact key w 0 e
    rw [if_neg h]
    simp [hr]
 ·rw [if_neg h1]
  simp [h1]
theorem zd1 (a b:List Int) (ha:SmW a):zb0 a b=some (common a b:Int):=by
 unfold zb0
 rw [iter_eq (r:=common a b) (fun k=>k≤a.length∧common a b=common (a.drop k) (b.drop k)+k) (fun k=>a.length-k) (fun k ⟨h1,h2⟩=>?_) ⟨Nat.zero_le _,by simp⟩ (by have:=fuel_big;unfold SmW at ha;omega)]
 ·rfl
 ·simp only [zb0.s2]
  rcases Nat.lt_or_ge k a.length with h | h
  ·have hx:=get_at h
   rcases Nat.lt_or_ge k b.length with h' | h'
   ·have hy:=get_at h'
    rw [dec_lt hx,dec_lt hy,cond_true,cond_true,idxn_at hx,idxn_at hy]
    rw [List.drop_eq_getElem_cons h,List.drop_eq_getElem_cons h'] at h2
    by_cases e:a[k]=b[k]
    ·left
     unfold SmW at ha
     refine ⟨k+1,?_,⟨h,?_⟩,by omega⟩
     ·rw [chk_pos (by unfold inR;omega)]
      simp [e]
     ·rw [h2,e]
      simp [common]
      omega
    ·right
     simp only [common,e,if_false,Nat.zero_add] at h2
     simp [e,h2]
   ·right
    rw [dec_lt hx,cond_true,show decide ((↑k:Int)<(↑(List.length b):Int))=false by simp;omega]
    rw [zic (Or.inr h'),Nat.zero_add] at h2
    simp [h2]
  ·right
   rw [show decide ((↑k:Int)<(↑(List.length a):Int))=false by simp;omega]
   rw [zic (Or.inl h),Nat.zero_add] at h2
   simp [h2]
theorem zks (a b:List Int) (ha:SmW a):R01_Same a b=some (decide (a=b)):=by
 unfold R01_Same
 rw [zd1 a b ha]
 have h:=same_iff a b
 by_cases h1:a.length=b.length
 ·rw [show decide ((↑(List.length a):Int)=(↑(List.length b):Int))=true from decide_eq_true (by omega),cond_true]
  by_cases h2:common a b=a.length
  ·have:a=b:=h.1 ⟨h1,h2⟩
   subst this
   simp [ze9]
  ·have:a≠b:=fun e=>h2 (h.2 e).2
   simp only [Option.bind_some,this,decide_false]
   rw [decide_eq_false (by omega)]
 ·have:a≠b:=fun e=>h1 (by rw [e])
  rw [show decide ((↑(List.length a):Int)=(↑(List.length b):Int))=false from decide_eq_false (by omega),cond_false]
  simp [this]
theorem R01_Lex_eq (a b:List Int) (ha:SmW a):R01_Lex a b=some (lexI a b):=by
 unfold R01_Lex
 rw [zd1 a b ha]
 have hle:=zf5 a b
 have hlc:=zjj a b
 rw [hlc]
 simp only [Option.bind_some]
 by_cases h1:common a b=a.length
 ·rw [show decide ((↑(common a b):Int)=↑a.length)=true from decide_eq_true (by omega),cond_true,cond_true]
  by_cases h2:common a b=b.length
  ·rw [show decide ((↑(common a b):Int)=↑b.length)=true from decide_eq_true (by omega),if_pos ⟨h1,h2⟩]
   rfl
  ·rw [show decide ((↑(common a b):Int)=↑b.length)=false from decide_eq_false (by omega),if_neg (fun h=>h2 h.2),if_pos (Or.inl h1)]
   rfl
 ·rw [show decide ((↑(common a b):Int)=↑a.length)=false from decide_eq_false (by omega),cond_false,cond_false,if_neg (fun h=>h1 h.1)]
  by_cases h2:common a b=b.length
  ·rw [show decide ((↑(common a b):Int)<(↑(List.length b):Int))=false from decide_eq_false (by omega),if_neg (fun h=>by omega)]
   rfl
  ·have hx:=get_at (l:=a) (i:=common a b) (by omega)
   have hy:=get_at (l:=b) (i:=common a b) (by omega)
   rw [show decide ((↑(common a b):Int)<(↑(List.length b):Int))=true from decide_eq_true (by omega),cond_true,idx_at rfl hx,idx_at rfl hy]
   rw [List.getD_eq_getElem?_getD,List.getD_eq_getElem?_getD,hx,hy]
   by_cases h3:a[common a b]'(by omega)<b[common a b]'(by omega)
   ·rw [if_pos (Or.inr ⟨by omega,h3⟩)]
    simp [h3]
   ·rw [if_neg (fun h=>by
     rcases h with h | ⟨_,h⟩
     ·omega
     ·exact h3 h)]
    simp [h3]
theorem zlc (a b:List Int) (ha:SmW a):zd5 a b=some (cmpW a b):=by
 unfold zd5 cmpW
 rw [R01_Lex_eq a b ha]
 by_cases h1:a.length<b.length
 ·rw [show decide ((↑(List.length a):Int)<(↑(List.length b):Int))=true from decide_eq_true (by omega),if_pos h1]
  rfl
 ·rw [show decide ((↑(List.length a):Int)<(↑(List.length b):Int))=false from decide_eq_false (by omega),if_neg h1,cond_false]
  by_cases h2:b.length<a.length
  ·rw [show decide ((↑(List.length b):Int)<(↑(List.length a):Int))=true from decide_eq_true (by omega),if_pos h2]
   rfl
  ·rw [show decide ((↑(List.length b):Int)<(↑(List.length a):Int))=false from decide_eq_false (by omega),if_neg h2]
   rfl
end Go.Proofs.YtcneaiejdidooaaGreat.Sym

/-
 Plain laws on the random numbers: the mixing is one to one, so that a draw below 10000 ends after at most 1617 numbers. No program in sight.
-/
namespace Go.Proofs.YtcneaiejdidooaaGreat
def M64:Nat:=18446744073709551616
def gold:Nat:=11400714819323198485
def mulA:Nat:=13787848793156543929
def mulB:Nat:=10723151780598845931
def mix (y:Nat):Nat :=
 let z:=(y ^^^ (y >>> 30))*mulA%M64
 let u:=(z ^^^ (z >>> 27))*mulB%M64
 u ^^^ (u >>> 31)
theorem few:∀ (k a:Nat) (l:List Nat),l.Nodup→(∀ x∈l,a≤x∧x<a+k)→l.length≤k
 | 0,a,l,_,h=>by
  cases l with
  | nil=>simp
  | cons x l=>have:=h x (by simp);omega
 | k+1,a,l,hn,h=>by
  have h1:=few k a (l.erase (a+k)) (hn.erase _) fun x hx=>by
   have h2:=(hn.mem_erase_iff).1 hx
   have h3:=h x h2.2
   have h4:=h2.1
   omega
  by_cases hm:a+k∈l
  ·have:=List.length_erase_of_mem hm
   omega
  ·rw [List.erase_of_not_mem hm] at h1
   omega
def drawF:Nat→Nat→Nat×Nat
 | 0,s=>(0,s)
 | f+1,s=>if mix ((s+gold)%M64)<M64-1616 then (mix ((s+gold)%M64)%10000,(s+gold)%M64) else drawF f ((s+gold)%M64)
def draw (s:Nat):Nat×Nat:=drawF 1617 s
end Go.Proofs.YtcneaiejdidooaaGreat

/-
 Random numbers: the draws below 10000 end, and are the document's.
-/
namespace Go.Proofs.YtcneaiejdidooaaGreat.Sym
set_option maxRecDepth 100000
def goOn (good:Nat→Bool) (nx:Nat→Nat):Nat→Nat→Nat
 | 0,s=>s
 | f+1,s=>cond (good s) s (goOn good nx f (nx s))
def steps (nx:Nat→Nat):Nat→Nat→Nat
 | 0,s=>s
 | j+1,s=>steps nx j (nx s)
def nxt (s:Nat):Nat:=(s+gold)%M64
def hitN (s:Nat):Bool:=decide (mix s<M64-1616)
def drawS (s:Nat):Nat:=goOn (fun s=>hitN (nxt s)) nxt 1617 s
def drawN (s:Nat):Nat×Nat:=(mix (nxt (drawS s))%10000,nxt (drawS s))
theorem nxt_lt (s:Nat):nxt s<18446744073709551616:=Nat.mod_lt _ (by decide)
theorem draw_lt (s:Nat):(drawN s).1<10000∧(drawN s).2<18446744073709551616:=⟨Nat.mod_lt _ (by decide),nxt_lt _⟩
end Go.Proofs.YtcneaiejdidooaaGreat.Sym

/-
 Tables: the first one, and what makes a table valid: the program's answer and the document's are one plain number.
-/
namespace Go.Proofs.YtcneaiejdidooaaGreat.Sym
set_option maxRecDepth 100000
section
variable {κ ν:Type} [BEq κ]
theorem zgt {k:κ} {v:ν} (hb:∀ a b:κ,(a==b)=true↔a=b):∀ m:List (κ×ν),mget k (mset k v m)=some v
 | []=>by
  unfold mset mget
  rw [(hb k k).2 rfl]
 | p::m=>by
  unfold mset
  cases h:k==p.1 with
  | true =>
   show mget k ((k,v)::m)=_
   unfold mget
   rw [(hb k k).2 rfl]
  | false =>
   show mget k (p::mset k v m)=_
   unfold mget
   rw [h]
   exact zgt hb m
theorem zgd {k k':κ} {v:ν} (hb:∀ a b:κ,(a==b)=true↔a=b) (hne:¬ k'=k):∀ m:List (κ×ν),mget k' (mset k v m)=mget k' m
 | []=>by
  have e:(k'==k)=false:=by
   cases e:k'==k with
   | true=>exact absurd ((hb _ _).1 e) hne
   | false=>rfl
  unfold mset mget
  simp only [e]
  rfl
 | p::m=>by
  unfold mset
  cases h:k==p.1 with
  | true =>
   have e1:k=p.1:=(hb _ _).1 h
   show mget k' ((k,v)::m)=mget k' (p::m)
   have e:(k'==k)=false:=by
    cases e:k'==k with
    | true=>exact absurd ((hb _ _).1 e) hne
    | false=>rfl
   unfold mget
   rw [← e1]
   simp only [e]
  | false =>
   show mget k' (p::mset k v m)=mget k' (p::m)
   unfold mget
   rw [zgd hb hne m]
end
end Go.Proofs.YtcneaiejdidooaaGreat.Sym

/-
 The examples of the chapter, reckoned.
-/
namespace Go.Proofs.YtcneaiejdidooaaGreat.Sym
set_option maxRecDepth 100000
end Go.Proofs.YtcneaiejdidooaaGreat.Sym

/-
 Tables: the program's own checks, the first table, and the law of both.
-/
namespace Go.Proofs.YtcneaiejdidooaaGreat.Sym
set_option maxRecDepth 100000
theorem zez {w:List Int} {n:Int} (h:checkI w n=0):∀ a∈w,0≤a∧a<n:=by
 unfold checkI at h
 split at h
 ·split at h
  ·cases h
  ·split at h
   ·rename_i h3
    intro a ha
    exact of_decide_eq_true (List.all_eq_true.1 h3 a ha)
   ·cases h
 ·cases h
end Go.Proofs.YtcneaiejdidooaaGreat.Sym

/-
 Sorted lists of words, duplicates struck: plain laws.
-/
namespace Go.Proofs.YtcneaiejdidooaaGreat
structure TotalCmp (cf:List Int→List Int→Int):Prop where
 range:∀ a b,cf a b=-1∨cf a b=0∨cf a b=1
 zero:∀ a b,cf a b=0↔a=b
 swap:∀ a b,cf b a=- cf a b
 trans:∀ a b c,cf a b=-1→cf b c=-1→cf a c=-1
theorem cmpW_total:TotalCmp cmpW:=⟨zie,zj2,zjd,zgi⟩
theorem lexI_total:TotalCmp lexI:=⟨zii,zhi,zha,zig⟩
def dedupA (l:List (List Int)):List (List Int):=l.foldl (fun acc x=>if acc.getLast?=some x then acc else acc++[x]) []
theorem zka (l:List (List Int)) (x:List Int):dedupA (l++[x])=if (dedupA l).getLast?=some x then dedupA l else dedupA l++[x]:=by
 unfold dedupA
 rw [List.foldl_append]
 rfl
theorem zkr:∀ (l acc:List (List Int)),(l.foldl (fun acc x=>if acc.getLast?=some x then acc else acc++[x]) acc).getLast?=if l=[] then acc.getLast? else l.getLast?
 | [],acc=>by rw [if_pos rfl];rfl
 | x::l,acc=>by
  have hx:(if acc.getLast?=some x then acc else acc++[x]).getLast?=some x:=by
   split
   ·assumption
   ·simp
  rw [List.foldl_cons,zkr l,if_neg (show ¬ x::l=[] by simp)]
  cases l with
  | nil=>rw [if_pos rfl,hx];rfl
  | cons y l =>
   rw [if_neg (show ¬ y::l=[] by simp),List.getLast?_cons_cons]
theorem dedupA_last (l:List (List Int)):(dedupA l).getLast?=l.getLast?:=by
 unfold dedupA
 rw [zkr]
 split
 ·rename_i h;rw [h]
 ·rfl
theorem zju {l:List (List Int)} {k:Nat} {x y:List Int} (hy:l[k]?=some y) (hx:l[k+1]?=some x) :
  dedupA (l.take (k+1+1))=if x=y then dedupA (l.take (k+1)) else dedupA (l.take (k+1))++[x]:=by
 rw [zbz hx,zka,dedupA_last,zbz hy]
 simp only [List.getLast?_append,List.getLast?_singleton,Option.some_or]
 by_cases h:y=x
 ·subst h;simp
 ·have h':¬ x=y:=fun e=>h e.symm
  simp [h,h']
theorem ziy {l:List (List Int)} (h:l.length≤1):dedupA l=l:=by
 match l,h with
 | [],_=>rfl
 | [x],_=>rfl
theorem dedup_asc {cf:List Int→List Int→Int} (T:TotalCmp cf):∀ {l:List (List Int)},l.Pairwise (fun a b=>0≤cf b a)→(dedupA l).Pairwise (fun a b=>cf a b=-1)∧∀ x,x∈dedupA l↔x∈l:=by
 intro l
 -- from the end of the list
 suffices H:∀ n (l:List (List Int)),l.length=n→l.Pairwise (fun a b=>0≤cf b a)→(dedupA l).Pairwise (fun a b=>cf a b=-1)∧∀ x,x∈dedupA l↔x∈l from H _ l rfl
 intro n
 induction n with
 | zero =>
  intro l hl _
  have:l=[]:=List.eq_nil_of_length_eq_zero hl
  subst this
  exact ⟨List.Pairwise.nil,fun x=>Iff.rfl⟩
 | succ n ih =>
  intro l hl hp
  obtain ⟨m,x,rfl⟩:∃ m x,l=m++[x]:=by
   have hne:l≠[]:=by intro e;rw [e] at hl;simp at hl
   exact ⟨l.dropLast,l.getLast hne,(List.dropLast_concat_getLast hne).symm⟩
  have hml:m.length=n:=by simpa using hl
  rw [List.pairwise_append] at hp
  obtain ⟨hp1,_,hp3⟩:=hp
  obtain ⟨h1,h2⟩:=ih m hml hp1
  rw [zka]
  by_cases h:(dedupA m).getLast?=some x
  ·rw [if_pos h]
   refine ⟨h1,fun y=>?_⟩
   have hx:x∈m:=(h2 x).1 (List.mem_of_getLast? h)
   rw [h2,List.mem_append,List.mem_singleton]
   constructor
   ·exact Or.inl
   ·rintro (h' | rfl)
    ·exact h'
    ·exact hx
  ·rw [if_neg h]
   refine ⟨?_,fun y=>by rw [List.mem_append,List.mem_append,h2]⟩
   rw [List.pairwise_append]
   refine ⟨h1,by simp,fun a ha b hb=>?_⟩
   rw [List.mem_singleton] at hb
   subst hb
   have ha':a∈m:=(h2 a).1 ha
   have hle:0≤cf b a:=hp3 a ha' b (by simp)
   have hr:=T.range b a
   have hsw:=T.swap b a
   by_cases e:cf b a=0
   ·-- a would be the last one
    exfalso
    have hab:b=a:=(T.zero _ _).1 e
    subst hab
    -- the last of m is the greatest, and b is in m and not less than it
    have hne:dedupA m≠[]:=fun e=>by rw [e] at ha;cases ha
    have hl2:=List.getLast?_eq_some_getLast hne
    have hlast:(dedupA m).getLast hne∈m:=(h2 _).1 (List.getLast_mem hne)
    have h3:0≤cf b ((dedupA m).getLast hne):=hp3 _ hlast b (by simp)
    have hsplit:dedupA m=(dedupA m).dropLast++[(dedupA m).getLast hne]:=(List.dropLast_concat_getLast hne).symm
    have h4:b=(dedupA m).getLast hne∨cf b ((dedupA m).getLast hne)=-1:=by
     rw [hsplit] at ha h1
     rw [List.pairwise_append] at h1
     rcases List.mem_append.1 ha with h5 | h5
     ·exact Or.inr (h1.2.2 b h5 _ (by simp))
     ·exact Or.inl (List.mem_singleton.1 h5)
    rcases h4 with h4 | h4
    ·exact h (by rw [hl2,← h4])
    ·omega
   ·omega
theorem dedupA_length (l:List (List Int)):(dedupA l).length≤l.length:=by
 suffices H:∀ (l acc:List (List Int)),(l.foldl (fun acc x=>if acc.getLast?=some x then acc else acc++[x]) acc).length≤acc.length+l.length by
  simpa [dedupA] using H l []
 intro l
 induction l with
 | nil=>intro acc;simp
 | cons x l ih =>
  intro acc
  rw [List.foldl_cons]
  refine Nat.le_trans (ih _) ?_
  split
  ·simp
  ·simp;omega
end Go.Proofs.YtcneaiejdidooaaGreat

/-
 Prefixes, suffixes and maximal words: plain laws.
-/
namespace Go.Proofs.YtcneaiejdidooaaGreat
def prefixes (x:List Int):List (List Int):=(List.range (x.length+1)).map x.take
def suffixes (x:List Int):List (List Int):=(List.range (x.length+1)).map x.drop
def topB (all:List (List Int)) (x:List Int):Bool:=all.all fun y=>decide (y=x∨¬ x <+: y)
def maxR (l:List (List Int)):List (List Int):=(sortW l).filter (topB (sortW l))
def tailB (x:List Int) (l:List (List Int)):Bool:=l.all fun y=>decide (y.length=x.length∨¬ x <+: y)
theorem top_eq {all:List (List Int)} (hs:Asc all) {k:Nat} {x:List Int} (hx:all[k]?=some x):tailB x (all.drop (k+1))=topB all x:=by
 rw [Bool.eq_iff_iff,tailB,topB,List.all_eq_true,List.all_eq_true]
 simp only [decide_eq_true_eq]
 constructor
 ·intro h y hy
  obtain ⟨i,hi⟩:=List.getElem?_of_mem hy
  rcases Nat.lt_trichotomy i k with hik | hik | hik
  ·right
   intro hp
   have hc:=hs.get hik hi hx
   have hl:=hp.length_le
   have:x=y:=hp.eq_of_length_le (by
    unfold cmpW at hc
    split at hc
    ·omega
    ·split at hc
     ·omega
     ·omega)
   rw [this,zhy] at hc
   omega
  ·left
   rw [hik,hx] at hi
   injection hi with hi
   exact hi.symm
  ·have hmem:y∈all.drop (k+1):=by
    have:(all.drop (k+1))[i-(k+1)]?=some y:=by rw [List.getElem?_drop,show k+1+(i-(k+1))=i by omega];exact hi
    exact List.mem_of_getElem? this
   rcases h y hmem with h1 | h1
   ·by_cases hp:x <+: y
    ·left
     exact (hp.eq_of_length h1.symm).symm
    ·exact Or.inr hp
   ·exact Or.inr h1
 ·intro h y hy
  obtain ⟨i,hi⟩:=List.getElem?_of_mem hy
  rw [List.getElem?_drop] at hi
  rcases h y (List.mem_of_getElem? hi) with h1 | h1
  ·have hc:=hs.get (show k<k+1+i by omega) hx hi
   rw [h1,zhy] at hc
   omega
  ·exact Or.inr h1
theorem tailB_step {x y:List Int} {all:List (List Int)} {k j:Nat} (hk:k+1≤j) (hy:all[j]?=some y) :
  tailB x ((all.take (j+1)).drop (k+1))=(tailB x ((all.take j).drop (k+1))&&decide (y.length=x.length∨¬ x <+: y)):=by
 have hj:j<all.length:=(List.getElem?_eq_some_iff.1 hy).1
 rw [zbz hy,List.drop_append_of_le_length (by rw [List.length_take];omega)]
 simp [tailB,List.all_append]
theorem filter_step {p:List Int→Bool} {all:List (List Int)} {k:Nat} {x:List Int} (h:all[k]?=some x):(all.take (k+1)).filter p=(all.take k).filter p++(if p x=true then [x] else []):=by
 rw [zbz h,List.filter_append]
 by_cases hp:p x=true<;>simp [hp]
theorem mem_maxR {l:List (List Int)} {x:List Int} (h:x∈maxR l):x∈l:=by
 unfold maxR at h
 exact (zdq l x).1 (List.mem_filter.1 h).1
theorem zja (l:List (List Int)):(maxR l).length≤l.length:=Nat.le_trans (List.length_filter_le _ _) (zf6 l)
def keepM:List (List Int)→List (List Int)
 | []=>[]
 | [x]=>[x]
 | x::y::l=>if x <+: y then keepM (y::l) else x::keepM (y::l)
theorem keepM_end {L:List (List Int)} {k:Nat} {x:List Int} (hx:L[k]?=some x) (hl:k+1=L.length):keepM (L.drop k)=x::keepM (L.drop (k+1)):=by
 obtain ⟨h1,h2⟩:=List.getElem?_eq_some_iff.1 hx
 rw [List.drop_eq_getElem_cons h1,h2,List.drop_eq_nil_of_le (by omega)]
 rfl
theorem keepM_step {L:List (List Int)} {k:Nat} {x y:List Int} (hx:L[k]?=some x) (hy:L[k+1]?=some y):keepM (L.drop k)=if x <+: y then keepM (L.drop (k+1)) else x::keepM (L.drop (k+1)):=by
 obtain ⟨h1,h2⟩:=List.getElem?_eq_some_iff.1 hx
 obtain ⟨h3,h4⟩:=List.getElem?_eq_some_iff.1 hy
 rw [List.drop_eq_getElem_cons h1,h2,List.drop_eq_getElem_cons h3,h4]
 rfl
theorem zjb:∀ L:List (List Int),(keepM L).Sublist L
 | []=>List.Sublist.refl _
 | [x]=>List.Sublist.refl _
 | x::y::l=>by
  rw [keepM]
  split
  ·exact (zjb (y::l)).cons x
  ·exact (zjb (y::l)).cons_cons x
theorem zjw:∀ (x z y:List Int),lexI x z=-1→(z=y∨lexI z y=-1)→x <+: y→x <+: z
 | [],z,_,_,_,_=>List.nil_prefix
 | a::x,[],_,h,_,_=>by simp [lexI] at h
 | a::x,b::z,[],_,_,h=>by simp at h
 | a::x,b::z,c::y,h1,h2,h3=>by
  rw [List.cons_prefix_cons] at h3
  obtain ⟨rfl,h3⟩:=h3
  simp only [lexI] at h1
  have hle:b≤a:=by
   rcases h2 with h2 | h2
   ·injection h2 with e1 e2;omega
   ·simp only [lexI] at h2
    split at h2
    ·omega
    ·split at h2
     ·omega
     ·omega
  have hab:a=b:=by
   split at h1
   ·omega
   ·split at h1
    ·omega
    ·omega
  subst hab
  rw [if_neg (by omega),if_neg (by omega)] at h1
  rw [List.cons_prefix_cons]
  refine ⟨rfl,zjw x z y h1 ?_ h3⟩
  rcases h2 with h2 | h2
  ·injection h2 with e1 e2;exact Or.inl e2
  ·simp only [lexI] at h2
   rw [if_neg (by omega),if_neg (by omega)] at h2
   exact Or.inr h2
theorem zlt:∀ (x y:List Int),x <+: y→x≠y→lexI x y=-1
 | [],[],_,h=>absurd rfl h
 | [],_::_,_,_=>rfl
 | a::x,[],h,_=>by simp at h
 | a::x,b::y,h,hne=>by
  rw [List.cons_prefix_cons] at h
  obtain ⟨rfl,h⟩:=h
  simp only [lexI]
  rw [if_neg (by omega),if_neg (by omega)]
  exact zlt x y h (fun e=>hne (by rw [e]))
theorem mem_keepM:∀ {L:List (List Int)},L.Pairwise (fun a b=>lexI a b=-1)→∀ x,x∈keepM L↔x∈L∧∀ y∈L,y=x∨¬ x <+: y
 | [],_,x=>by simp [keepM]
 | [z],_,x=>by
  simp only [keepM,List.mem_singleton]
  constructor
  ·rintro rfl;exact ⟨rfl,fun y hy=>Or.inl hy⟩
  ·exact fun h=>h.1
 | z::y::l,h,x=>by
  obtain ⟨h1,h2⟩:=List.pairwise_cons.1 h
  have ih:=mem_keepM (L:=y::l) h2
  have hzl:∀ t∈y::l,z≠t:=fun t ht e=>by
   have:=h1 t ht
   rw [e,lexI_refl] at this
   omega
  have hlow:∀ t∈y::l,¬ t <+: z:=fun t ht hp=>by
   have h3:=h1 t ht
   have h4:=zlt t z hp (fun e=>hzl t ht e.symm)
   rw [zha] at h4
   omega
  have hyl:∀ t∈y::l,y=t∨lexI y t=-1:=fun t ht=>by
   rcases List.mem_cons.1 ht with e | e
   ·exact Or.inl e.symm
   ·exact Or.inr ((List.pairwise_cons.1 h2).1 t e)
  rw [keepM]
  by_cases hp:z <+: y
  ·rw [if_pos hp,ih]
   constructor
   ·rintro ⟨ha,hb⟩
    refine ⟨List.mem_cons_of_mem _ ha,fun t ht=>?_⟩
    rcases List.mem_cons.1 ht with rfl | ht
    ·exact Or.inr (hlow x ha)
    ·exact hb t ht
   ·rintro ⟨ha,hb⟩
    rcases List.mem_cons.1 ha with rfl | ha
    ·rcases hb y (by simp) with e | e
     ·exact absurd e.symm (hzl y (by simp))
     ·exact absurd hp e
    ·exact ⟨ha,fun t ht=>hb t (List.mem_cons_of_mem _ ht)⟩
  ·rw [if_neg hp,List.mem_cons,ih]
   constructor
   ·rintro (rfl | ⟨ha,hb⟩)
    ·refine ⟨by simp,fun t ht=>?_⟩
     rcases List.mem_cons.1 ht with rfl | ht
     ·exact Or.inl rfl
     ·exact Or.inr fun hpt=>hp (zjw x y t (h1 y (by simp)) (hyl t ht) hpt)
    ·refine ⟨List.mem_cons_of_mem _ ha,fun t ht=>?_⟩
     rcases List.mem_cons.1 ht with rfl | ht
     ·exact Or.inr (hlow x ha)
     ·exact hb t ht
   ·rintro ⟨ha,hb⟩
    rcases List.mem_cons.1 ha with rfl | ha
    ·exact Or.inl rfl
    ·exact Or.inr ⟨ha,fun t ht=>hb t (List.mem_cons_of_mem _ ht)⟩
theorem mem_maxR_iff (l:List (List Int)) (x:List Int):x∈maxR l↔x∈l∧∀ y∈l,y=x∨¬ x <+: y:=by
 unfold maxR
 rw [List.mem_filter,zdq,topB,List.all_eq_true]
 simp only [zdq,decide_eq_true_eq]
theorem maxR_asc (l:List (List Int)):Asc (maxR l):=List.Pairwise.sublist List.filter_sublist (zfo l)
theorem sortW_keepM {L l:List (List Int)} (h:L.Pairwise fun a b=>lexI a b=-1) (hm:∀ x,x∈L↔x∈l):sortW (keepM L)=maxR l :=
 asc_ext (zfo _) (maxR_asc l) fun x=>by
  rw [zdq,mem_keepM h,mem_maxR_iff]
  simp only [hm]
end Go.Proofs.YtcneaiejdidooaaGreat

/-
 What the functions on lists of words come to: plain laws.
-/
namespace Go.Proofs.YtcneaiejdidooaaGreat.Sym
set_option maxRecDepth 100000
theorem zem {α:Type} {l:List (List α)} {i:Nat} {x:List α} (h:l[i]?=some x):(l.take (i+1)).flatten=(l.take i).flatten++x:=by
 rw [zbz h]
 simp
theorem zfa {α:Type} {l:List (List α)} (i:Nat):(l.take i).flatten.length≤l.flatten.length:=by
 have h:l.flatten=(l.take i).flatten++(l.drop i).flatten:=by rw [← List.flatten_append,List.take_append_drop]
 rw [h,List.length_append]
 omega
theorem concat_ints (l:List (List Int)) (hl:l.length≤100000000) (hf:l.flatten.length≤1000000000):zal l=some l.flatten:=by
 unfold zal
 rw [iter_eq (r:=l.flatten.length) (fun s=>s.2≤l.length∧s.1=(l.take s.2).flatten.length) (fun s=>l.length-s.2) (fun s ⟨h1,h2⟩=>by
  simp only [zal.s2]
  by_cases h3:s.2<l.length
  ·left
   have hx:=get_at h3
   have h4:=zem hx
   have h5:=zfa (l:=l) (s.2+1)
   rw [h4,List.length_append] at h5
   refine ⟨((l.take (s.2+1)).flatten.length,s.2+1),?_,⟨by omega,rfl⟩,by simp only;omega⟩
   rw [dec_lt hx,cond_true,idxn_at hx,chk_pos (by unfold inR;omega),decide_eq_false (by omega),cond_false,h4,List.length_append,h2]
  ·right
   have e:s.2=l.length:=by omega
   rw [decide_eq_false (by omega),cond_false,h2,e,List.take_length]) (s:=(0,0)) ⟨Nat.zero_le _,by simp⟩ (by have:=fuel_big;simp only;omega)]
 simp only [Option.bind_some]
 unfold zfx
 rw [chk_pos (by omega)]
 simp only [Option.bind_some]
 rw [iter_eq (r:=l.flatten) (fun s=>s.2≤l.length∧s.1=(l.take s.2).flatten) (fun s=>l.length-s.2) (fun s ⟨h1,h2⟩=>by
  simp only [zal.s4]
  by_cases h3:s.2<l.length
  ·left
   have hx:=get_at h3
   have h4:=zem hx
   have h5:=zfa (l:=l) (s.2+1)
   rw [h4,List.length_append] at h5
   refine ⟨((l.take (s.2+1)).flatten,s.2+1),?_,⟨by omega,rfl⟩,by simp only;omega⟩
   rw [dec_lt hx,cond_true,idxn_at hx,chk_pos (by rw [h2];unfold capOk;omega),h4,h2]
  ·right
   have e:s.2=l.length:=by omega
   rw [decide_eq_false (by omega),cond_false,h2,e,List.take_length]) (s:=([],0)) ⟨Nat.zero_le _,by simp⟩ (by have:=fuel_big;simp only;omega)]
 rfl
theorem zdr (l:List (List Int)) (hl:l.length≤100000000) (hf:l.flatten.length≤1000000000):zcq l=some l.flatten:=by
 unfold zcq
 rw [concat_ints l hl hf]
 rfl
theorem totB_of {cf:List Int→List Int→Int} (T:TotalCmp cf) {f:List Int→List Int→Option Int} {l:List (List Int)} (hf:∀ a∈l,∀ b∈l,f a b=some (cf a b)):totB f l=true:=by
 refine List.all_eq_true.2 fun a ha=>List.all_eq_true.2 fun b hb=>?_
 rw [hf a ha b hb,hf b hb a ha]
 simp only [Bool.and_eq_true]
 refine ⟨⟨⟨?_,?_⟩,?_⟩,List.all_eq_true.2 fun c hc=>?_⟩
 ·rw [beq_iff_eq]
  have:=T.zero a b
  by_cases h:a=b
  ·simp [h,this.2 h]
   rw [← h]
   exact (T.zero a a).2 rfl
  ·have h2:¬ cf a b=0:=fun e=>h (this.1 e)
   simp [h,h2]
 ·rw [beq_iff_eq]
  have:=T.swap a b
  by_cases h:cf a b<0
  ·simp [h];omega
  ·simp [h];omega
 ·have:=T.range a b
  exact decide_eq_true (by omega)
 ·rw [hf b hb c hc,hf a ha c hc]
  have r1:=T.range a b
  have r2:=T.range b c
  by_cases h1:cf a b<0
  ·by_cases h2:cf b c<0
   ·have:=T.trans a b c (by omega) (by omega)
    simp [h1,h2,this]
   ·simp [h1,h2]
  ·simp [h1]
theorem libSort_eq {cf:List Int→List Int→Int} (T:TotalCmp cf) {f:List Int→List Int→Option Int} {l:List (List Int)} (hl:l.length≤1000000000) (hf:∀ a∈l,∀ b∈l,f a b=some (cf a b)) :
  ∃ S,libSort l f=some S∧S.Perm l∧S.Pairwise (fun a b=>0≤cf b a):=by
 refine ⟨isortF f l,?_,zcm f l,?_⟩
 ·unfold libSort
  rw [chk_pos hl,totB_of T hf]
  rfl
 ·have h:=ze6 (totB_iff (totB_of T hf))
  rw [List.pairwise_iff_getElem] at h ⊢
  intro i j hi hj hij
  have:=h i j hi hj hij
  have m1:=(zcm f l).mem_iff.1 (List.getElem_mem hi)
  have m2:=(zcm f l).mem_iff.1 (List.getElem_mem hj)
  unfold NGt cfv at this
  rw [hf _ m2 _ m1] at this
  simp only [Option.getD_some] at this
  omega
theorem compact_eq {q:List Int→List Int→Option Bool} {l:List (List Int)} (hl:l.length≤1000000000) (hq:∀ a∈l,∀ b∈l,q a b=some (decide (a=b))):zae l q=some (dedupA l):=by
 unfold zae
 by_cases h2:l.length<2
 ·rw [decide_eq_true (by omega),cond_true,ziy (by omega)]
 rw [decide_eq_false (by omega),cond_false]
 have key:=za4 (step:=fun k=>zae.s20 l q k) (fun k=>1≤k∧k≤l.length∧dedupA (l.take k)=l.take k) (fun k=>l.length-k) (fun r=>Sum.elim (fun (_:Unit)=>some l) some r=some (dedupA l)) (fun k ⟨h1,h3,h4⟩=>by
  simp only [zae.s20]
  by_cases h5:k<l.length
  ·have hx:=get_at h5
   have hp:=get_at (l:=l) (i:=k-1) (by omega)
   have hst:=zju (l:=l) (k:=k-1) (x:=l[k]) hp (by rw [show k-1+1=k by omega];exact hx)
   rw [show k-1+1=k by omega] at hst
   rw [dec_lt hx,cond_true,idxn_at hx,idx_at (i:=k-1) (by omega) hp,hq _ (List.getElem_mem _) _ (List.getElem_mem _)]
   simp only [Option.bind_some]
   by_cases h6:l[k]=l[k-1]'(by omega)
   ·right
    rw [if_pos h6] at hst
    rw [decide_eq_true h6,cond_true,chk_pos (by omega)]
    have inner:=za4 (step:=fun (s:List (List Int)×Nat×Nat)=>zae.s18 q k s.1 s.2.1 s.2.2) (fun s=>1≤s.2.2∧k+s.2.2≤l.length∧s.1.length=l.length∧s.2.1=(dedupA (l.take (k+s.2.2))).length∧s.2.1<k+s.2.2∧s.1.take s.2.1=dedupA (l.take (k+s.2.2))∧∀ j,s.2.1≤j→s.1[j]?=l[j]?) (fun s=>l.length-(k+s.2.2))
     (fun r=>r.2≤l.length∧r.1.length=l.length∧r.1.take r.2=dedupA l) (fun s ⟨g1,g2,g3,g4,g5,g6,g7⟩=>by
      obtain ⟨y,kk,t⟩:=s
      simp only at g1 g2 g3 g4 g5 g6 g7
      simp only [zae.s18]
      by_cases g8:k+t<l.length
      ·left
       have gx:=get_at (l:=l) (i:=k+t) g8
       have gp:=get_at (l:=l) (i:=k+(t-1)) (by omega)
       have yx:y[k+t]?=some l[k+t]:=by rw [g7 _ (by omega)];exact gx
       have yp:y[k+(t-1)]?=some (l[k+(t-1)]'(by omega)):=by rw [g7 _ (by omega)];exact gp
       have hst2:=zju (l:=l) (k:=k+(t-1)) (x:=l[k+t]) gp (by rw [show k+(t-1)+1=k+t by omega];exact gx)
       rw [show k+(t-1)+1=k+t by omega] at hst2
       rw [decide_eq_true (show (↑t:Int)<(↑(List.length y-k):Int) by omega),cond_true,idxn_at yx,chk_pos (by omega),show Int.toNat ((↑t:Int)-1)=t-1 by omega,idxn_at yp,hq _ (List.getElem_mem _) _ (List.getElem_mem _)]
       simp only [Option.bind_some]
       by_cases g9:l[k+t]=l[k+(t-1)]'(by omega)
       ·rw [if_pos g9] at hst2
        refine ⟨(y,kk,t+1),by rw [decide_eq_true g9];rfl,⟨by simp only;omega,by simp only;omega,g3,?_,by simp only;omega,?_,g7⟩,by simp only;omega⟩
        ·simp only
         rw [show k+(t+1)=k+t+1 by omega,hst2]
         exact g4
        ·simp only
         rw [show k+(t+1)=k+t+1 by omega,hst2]
         exact g6
       ·rw [if_neg g9] at hst2
        have yk:=get_at (l:=y) (i:=kk) (by omega)
        refine ⟨(y.set kk l[k+t],kk+1,t+1),?_,⟨by simp only;omega,by simp only;omega,by simp only [List.length_set];exact g3,?_,by simp only;omega,?_,fun j hj=>?_⟩,by simp only;omega⟩
        ·rw [decide_eq_false g9]
         simp only [Bool.not_false,cond_true]
         rw [idxn_at yx,idxn_at yk,chk_pos (by unfold inR;omega)]
        ·simp only
         rw [show k+(t+1)=k+t+1 by omega,hst2,List.length_append,← g4]
         rfl
        ·simp only
         have e1:(y.set kk l[k+t])[kk]?=some l[k+t]:=by rw [List.getElem?_set];simp;omega
         rw [show k+(t+1)=k+t+1 by omega,hst2,zbz e1,List.take_set_of_le (Nat.le_refl _),g6]
        ·simp only at hj
         rw [List.getElem?_set_ne (by omega)]
         exact g7 j (by omega)
      ·right
       have e:k+t=l.length:=by omega
       refine ⟨(y,kk),?_,by simp only;omega,g3,?_⟩
       ·rw [decide_eq_false (by omega),cond_false]
       ·simp only
        rw [e,List.take_length] at g6
        exact g6) fuel (l,k,1) ⟨Nat.le_refl _,by simp only;omega,rfl,by simp only;rw [hst,h4,List.length_take];omega,by simp only;omega,by simp only;rw [hst,h4],fun j _=>rfl⟩ (by have:=fuel_big;simp only;omega)
    obtain ⟨⟨y,kk⟩,e,g1,g2,g3⟩:=inner
    simp only at g1 g2 g3
    refine ⟨.inr (dedupA l),?_,rfl⟩
    rw [e]
    simp only [Option.bind_some,zae.k19]
    have e2:(List.take kk y++List.replicate (List.length y-kk) ([]:List Int)).length=l.length:=by
     rw [List.length_append,List.length_take,List.length_replicate]
     omega
    rw [chk_pos (by omega),chk_pos (by omega),chk_pos (by rw [e2];omega),List.take_append_of_le_length (by rw [List.length_take];omega),List.take_take,Nat.min_self,g3]
   ·left
    rw [if_neg h6] at hst
    refine ⟨k+1,by rw [decide_eq_false h6];rfl,⟨by omega,by omega,?_⟩,by omega⟩
    rw [hst,h4,zbz hx]
  ·right
   have e:k=l.length:=by omega
   subst e
   refine ⟨.inl (),?_,?_⟩
   ·rw [dec_end];rfl
   ·rw [List.take_length] at h4
    rw [h4]
    rfl) fuel 1 ⟨Nat.le_refl _,by omega,ziy (by rw [List.length_take];omega)⟩ (by have:=fuel_big;omega)
 obtain ⟨r,e,hr⟩:=key
 rw [e]
 exact hr
theorem zhs {w:List Int} (h:SmW w):zcl w=some w:=by
 unfold zcl libClone
 exact chk_pos (by unfold SmW at h;unfold capOk;omega)
theorem zlb {l:List (List Int)} (h:l.length≤2000000):zdf l=some l:=by
 unfold zdf libClone
 exact chk_pos (by unfold capOk;omega)
theorem zlp {cf:List Int→List Int→Int} (T:TotalCmp cf) {f:List Int→List Int→Option Int} {l:List (List Int)} (hl:SmL l) (hf:∀ a∈l,∀ b∈l,f a b=some (cf a b)) :
  ∃ S,zbe l f=some S∧S.Pairwise (fun a b=>cf a b=-1)∧(∀ x,x∈S↔x∈l)∧S.length≤l.length:=by
 have hl1:l.length≤2000000:=hl.1
 obtain ⟨S,e1,hp,hs⟩:=libSort_eq T (by omega:l.length≤1000000000) hf
 obtain ⟨d1,d2⟩:=dedup_asc T hs
 have hm:∀ x,x∈dedupA S↔x∈l:=fun x=>by rw [d2,hp.mem_iff]
 have hlen:(dedupA S).length≤l.length:=by
  have:=dedupA_length S
  rw [hp.length_eq] at this
  exact this
 refine ⟨dedupA S,?_,d1,hm,hlen⟩
 unfold zbe zde
 rw [zlb hl1]
 simp only [Option.bind_some]
 rw [e1]
 simp only [Option.bind_some]
 rw [compact_eq (by rw [hp.length_eq];omega) (fun a ha b hb=>by
  unfold zce
  rw [hf a (hp.mem_iff.1 ha) b (hp.mem_iff.1 hb)]
  simp only [Option.bind_some]
  congr 1
  exact decide_eq_decide.2 (T.zero a b))]
 simp only [Option.bind_some]
 rw [iter_eq (r:=dedupA S) (fun s=>s.1=dedupA S) (fun s=>(dedupA S).length-s.2) (fun s h1=>by
  simp only [zbe.s2]
  by_cases h3:s.2<(dedupA S).length
  ·left
   have hx:=get_at h3
   have hxs:SmW ((dedupA S)[s.2]):=hl.2 _ ((hm _).1 (List.getElem_mem _))
   refine ⟨(dedupA S,s.2+1),?_,rfl,by simp only;omega⟩
   rw [dec_lt hx,cond_true,h1,idxn_at hx,zhs hxs]
   simp only [Option.bind_some]
   rw [idxn_at hx,chk_pos (by unfold inR;omega),List.set_getElem_self]
  ·right
   rw [decide_eq_false (by omega),cond_false,h1]) (s:=(dedupA S,0)) rfl (by have:=fuel_big;simp only;omega)]
 rfl
theorem zeo {l:List (List Int)} (hl:SmL l):zct l=some (sortW l):=by
 obtain ⟨S,e,h1,h2,_⟩:=zlp cmpW_total (f:=fun u0 u1=>zch u0 u1) hl fun a ha b hb=>zfm a b (by have:SmW a:=hl.2 a ha;unfold SmW at this;omega)
 unfold zct
 rw [e]
 show some S=_
 congr 1
 exact asc_ext h1 (zfo l) fun x=>by rw [h2,zdq]
theorem sml_sort {l:List (List Int)} (h:SmL l):SmL (sortW l):=⟨Nat.le_trans (zf6 l) h.1,fun x hx=>h.2 x ((zdq l x).1 hx)⟩
theorem R02_place_eq {l:List (List Int)} {w:List Int} (hA:Asc l) (hl:SmL l):zcy l w=some (↑(placeL l w):Int):=by
 have hl1:l.length≤2000000:=hl.1
 have hsp:=zfc l w
 have hle:=placeL_le l w
 unfold zcy
 rw [iter_eq (r:=placeL l w) (fun s=>s.1≤placeL l w∧placeL l w≤s.2∧s.2≤l.length) (fun s=>s.2-s.1) (fun s ⟨h1,h2,h3⟩=>by
  obtain ⟨lo,hi⟩:=s
  simp only at h1 h2 h3
  simp only [zcy.s2]
  by_cases h4:lo<hi
  ·left
   have hx:=get_at (l:=l) (i:=(lo+hi) / 2) (by omega)
   rw [decide_eq_true (by omega),cond_true,chk_pos (by unfold inR;omega),chk_pos (by unfold inR;omega),idxn_at hx,zlc _ _ (hl.2 _ (List.getElem_mem _))]
   simp only [Option.bind_some]
   by_cases h5:cmpW (l[(lo+hi) / 2]'(by omega)) w<0
   ·refine ⟨((lo+hi) / 2+1,hi),by rw [decide_eq_true h5,cond_true,chk_pos (by unfold inR;omega)],⟨?_,h2,h3⟩,by simp only;omega⟩
    simp only
    rcases Nat.lt_or_ge ((lo+hi) / 2) (placeL l w) with h | h
    ·exact h
    ·exfalso
     have hp:=get_at (l:=l) (i:=placeL l w) (by omega)
     have hne:=hsp.2 _ hp
     have r1:=zie (l[(lo+hi) / 2]'(by omega)) w
     rcases Nat.lt_or_ge (placeL l w) ((lo+hi) / 2) with h' | h'
     ·have:=hA.get h' hp hx
      exact hne (zgi _ _ _ this (by omega))
     ·have e:placeL l w=(lo+hi) / 2:=by omega
      simp only [e] at hne
      omega
   ·refine ⟨(lo,(lo+hi) / 2),by rw [decide_eq_false h5,cond_false],⟨h1,?_,by simp only;omega⟩,by simp only;omega⟩
    simp only
    rcases Nat.lt_or_ge ((lo+hi) / 2) (placeL l w) with h | h
    ·exfalso
     have:=hsp.1 _ _ h hx
     omega
    ·exact h
  ·right
   rw [decide_eq_false (by omega),cond_false,show lo=placeL l w by omega]) (s:=(0,l.length)) ⟨Nat.zero_le _,hle,Nat.le_refl _⟩ (by have:=fuel_big;simp only;omega)]
 rfl
theorem R02_with_eq {l:List (List Int)} {w:List Int} (hA:Asc l) (hl:SmL l) (hw:SmW w):R02_with l w=some (insW l w):=by
 have hl1:l.length≤2000000:=hl.1
 have hw1:w.length≤2000000:=hw
 have hle:=placeL_le l w
 have hmp:=hA.mem_place w
 unfold R02_with
 rw [R02_place_eq hA hl]
 simp only [Option.bind_some]
 by_cases hm:w∈l
 ·have hx:=hmp.1 hm
  have hlt:=(List.getElem?_eq_some_iff.1 hx).1
  rw [decide_eq_true (show (↑(placeL l w):Int)<(↑(List.length l):Int) by omega),cond_true,idx_at rfl hx,zks _ _ hw]
  unfold insW
  rw [if_pos hm]
  simp
 ·have hc:(cond (decide ((↑(placeL l w):Int)<(↑(List.length l):Int))) (idx l (↑(placeL l w):Int) fun e59=>(R01_Same e59 w).bind fun c60=>some c60) (some false):Option Bool)=some false:=by
   by_cases hlt:placeL l w<l.length
   ·have hx:=get_at hlt
    rw [decide_eq_true (by omega),cond_true,idx_at rfl hx,zks _ _ (hl.2 _ (List.getElem_mem _))]
    have:¬ l[placeL l w]=w:=fun e=>hm (hmp.2 (by rw [hx,e]))
    simp [this]
   ·rw [decide_eq_false (by omega),cond_false]
  rw [hc]
  simp only [Option.bind_some,cond_false]
  have hlen:(l++[([]:List Int)]).length=l.length+1:=by simp
  rw [chk_pos (by unfold capOk;omega),chk_pos (by rw [hlen];unfold inR;omega)]
  have key:=za4 (step:=fun (s:List (List Int)×Int)=>R02_with.s2 (↑(placeL l w):Int) s.1 s.2) (fun s=>∃ i:Nat,s.2=(i:Int)∧placeL l w≤i∧i≤l.length∧∃ z,s.1=stage l z i) (fun s=>s.2.toNat-placeL l w) (fun r=>∃ z,r=stage l z (placeL l w)) (fun s ⟨i,h1,h2,h3,z,h4⟩=>by
   obtain ⟨y,i'⟩:=s
   simp only at h1 h4
   subst h1 h4
   simp only [R02_with.s2]
   by_cases h5:placeL l w<i
   ·left
    have hx:=get_at (l:=l) (i:=i-1) (by omega)
    have e1:(stage l z i)[i-1]?=some (l[i-1]'(by omega)):=by rw [stage_before (by omega) h3];exact hx
    have e2:(stage l z i)[i]?=some z:=stage_at h3
    refine ⟨(stage l (l[i-1]'(by omega)) (i-1),↑(i-1:Nat)),?_,⟨i-1,rfl,by omega,by omega,_,rfl⟩,by simp only;omega⟩
    rw [decide_eq_true (by omega),cond_true,chk_pos (by unfold inR;omega),idx_at (i:=i-1) (by omega) e1,idx_at rfl e2,chk_pos (by unfold inR;omega),Int.toNat_natCast,stage_set h3]
    have h6:=stage_down (us:=l) (j:=i-1) hx
    rw [show i-1+1=i by omega] at h6
    rw [h6,show (↑i:Int)-1=((i-1:Nat):Int) by omega]
   ·right
    have e:i=placeL l w:=by omega
    subst e
    refine ⟨_,by rw [decide_eq_false (by omega),cond_false],z,rfl⟩) fuel (l++[[]],(↑(l++[([]:List Int)]).length:Int)-1) ⟨l.length,by simp only [hlen];omega,hle,Nat.le_refl _,[],(stage_end l []).symm⟩ (by have:=fuel_big;simp only [hlen];omega)
  obtain ⟨r,e,z,hz⟩:=key
  subst hz
  rw [e]
  simp only [Option.bind_some]
  have e2:(stage l z (placeL l w))[placeL l w]?=some z:=stage_at hle
  rw [chk_pos (by unfold capOk;simp;omega),idx_at rfl e2,Int.toNat_natCast,stage_set hle,List.nil_append]
  unfold insW
  rw [if_neg hm]
  rfl
theorem zhx {l:List (List Int)} (hl:SmL l):zb9 l=some (sortW l):=by
 have hl1:l.length≤2000000:=hl.1
 unfold zb9
 rw [iter_eq (r:=sortW l) (fun s=>s.2≤l.length∧s.1=sortW (l.take s.2)) (fun s=>l.length-s.2) (fun s ⟨h1,h2⟩=>by
  obtain ⟨y,i⟩:=s
  simp only at h1 h2
  subst h2
  simp only [zb9.s2]
  by_cases h3:i<l.length
  ·left
   have hx:=get_at h3
   have hsm:SmL (sortW (l.take i)):=sml_sort ⟨by rw [List.length_take];omega,fun x hx=>hl.2 x (List.mem_of_mem_take hx)⟩
   refine ⟨(sortW (l.take (i+1)),i+1),?_,⟨h3,rfl⟩,by simp only;omega⟩
   rw [dec_lt hx,cond_true,idxn_at hx,R02_with_eq (zfo _) hsm (hl.2 _ (List.getElem_mem _)),zbz hx,sortW_snoc]
   rfl
  ·right
   have e:i=l.length:=by omega
   subst e
   rw [decide_eq_false (by omega),cond_false,List.take_length]) (s:=([],0)) ⟨Nat.zero_le _,by simp [sortW]⟩ (by have:=fuel_big;simp only;omega)]
 rfl
end Go.Proofs.YtcneaiejdidooaaGreat.Sym

/-
 Tables that grow: the program's Prefix and Suffix are the document's. Plain laws.
-/
namespace Go.Proofs.YtcneaiejdidooaaGreat.Sym
set_option maxRecDepth 100000
theorem R01_Join_eq (l:List (List Int)) (hl:l.length≤100000000) (hf:l.flatten.length≤1000000000):R01_Join l=some l.flatten:=by
 unfold R01_Join
 rw [iter_eq (r:=l.flatten) (fun s=>s.2≤l.length∧s.1=(l.take s.2).flatten) (fun s=>l.length-s.2) (fun s ⟨h1,h2⟩=>by
  simp only [R01_Join.s2]
  by_cases h3:s.2<l.length
  ·left
   have hx:=get_at h3
   have h4:=zem hx
   have h5:=zfa (l:=l) (s.2+1)
   rw [h4,List.length_append] at h5
   refine ⟨((l.take (s.2+1)).flatten,s.2+1),?_,⟨by omega,rfl⟩,by simp only;omega⟩
   rw [dec_lt hx,cond_true,idxn_at hx,chk_pos (by rw [h2];unfold capOk;omega),h4,h2]
  ·right
   have e:s.2=l.length:=by omega
   rw [decide_eq_false (by omega),cond_false,h2,e,List.take_length]) (s:=([],0)) ⟨Nat.zero_le _,by simp⟩ (by have:=fuel_big;simp only;omega)]
 rfl
end Go.Proofs.YtcneaiejdidooaaGreat.Sym

/-
 Observations: what makes them valid, and their answers. Plain laws.
-/
namespace Go.Proofs.YtcneaiejdidooaaGreat.Sym
set_option maxRecDepth 100000
def SmO (o:zbv):Prop:=o.Traces.length≤1100000∧∀ t∈o.Traces,t.In.length≤1100000∧t.Out.length≤2000000
theorem zfg (w p:List Int) (hw:SmW w):zc1 w p=some (decide (p <+: w)):=by
 unfold zc1
 rw [zd1 w p hw,obind]
 congr 1
 exact decide_eq_decide.2 (by rw [← zh6 w p];omega)
theorem zgp (a b:List Int) (ha:SmW a):zbw a b=some (common a b:Int):=by
 have ha':a.length≤2000000:=ha
 have hle:=zf5 a b
 unfold zbw
 have key:=za4 (step:=fun k=>zbw.s2 a b k) (fun k=>k≤a.length∧k≤b.length∧common a b=common (a.drop k) (b.drop k)+k) (fun k=>a.length-k) (fun r=>Sum.elim (fun (_:Unit)=>some (min (↑(List.length a):Int) (↑(List.length b):Int))) some r=some (common a b:Int)) (fun k ⟨h1,h2,h3⟩=>by
  simp only [zbw.s2]
  by_cases h4:k<a.length∧k<b.length
  ·have hx:=get_at h4.1
   have hy:=get_at h4.2
   rw [decide_eq_true (show (↑k:Int)<min (↑(List.length a):Int) (↑(List.length b):Int) by omega),cond_true,idxn_at hx,idxn_at hy]
   rw [List.drop_eq_getElem_cons h4.1,List.drop_eq_getElem_cons h4.2] at h3
   by_cases e:a[k]=b[k]
   ·left
    refine ⟨k+1,by simp [e],⟨h4.1,h4.2,?_⟩,by omega⟩
    rw [h3,e]
    simp [common]
    omega
   ·right
    simp only [common,e,if_false,Nat.zero_add] at h3
    exact ⟨.inr (k:Int),by simp [e],by rw [h3];rfl⟩
  ·right
   rw [decide_eq_false (by omega),cond_false]
   refine ⟨.inl (),rfl,?_⟩
   rw [zic (by omega),Nat.zero_add] at h3
   simp only [Sum.elim_inl]
   congr 1
   omega) fuel 0 ⟨Nat.zero_le _,Nat.zero_le _,by simp⟩ (by have:=fuel_big;omega)
 obtain ⟨r,e,hq⟩:=key
 rw [e]
 exact hq
theorem zep (w p:List Int) (hw:SmW w):zcs w p=some (decide (p <+: w)):=by
 unfold zcs
 rw [zgp w p hw,obind]
 congr 1
 exact decide_eq_decide.2 (by rw [← zh6 w p];omega)
def PropT (n:Int) (t:zad):Prop:=checkI t.In n=0∧t.Out.length=t.In.length∧∀ y∈t.Out,0≤y∧y≤1048576
def Agree (a b:zad):Prop:=a.Out.take (common a.In b.In)=b.Out.take (common a.In b.In)
structure ObsOk (o:zbv):Prop where
 inp:1≤o.Inputs∧o.Inputs≤64
 num:o.Traces.length≤10000
 prop:∀ t∈o.Traces,PropT o.Inputs t∧t.In≠[]
 asc:∀ (i j:Nat) a b,i<j→o.Traces[i]?=some a→o.Traces[j]?=some b→cmpW a.In b.In=-1
 apart:∀ (i j:Nat) a b,i<j→o.Traces[i]?=some a→o.Traces[j]?=some b→¬ a.In <+: b.In∧Agree a b
end Go.Proofs.YtcneaiejdidooaaGreat.Sym

/-
 Answers and rows: the program's finder answers as the document's observations do. Plain laws.
-/
namespace Go.Proofs.YtcneaiejdidooaaGreat.Sym
set_option maxRecDepth 100000
def ansO (o:zbv) (w:List Int):Option (List Int) :=
 if w=[] then some [] else (o.Traces.find? fun t=>decide (w <+: t.In)).map fun t=>t.Out.take w.length
end Go.Proofs.YtcneaiejdidooaaGreat.Sym

/-
 Observations that grow: the program's Add is the document's, and keeps valid observations valid. Plain laws.
-/
namespace Go.Proofs.YtcneaiejdidooaaGreat.Sym
set_option maxRecDepth 100000
theorem scan_idx {α:Type} {p:α→Bool}:∀ (l:List α) (j:Nat),scan (fun i x=>if p x=true then some (↑i:Int) else none) j l=if l.any p=true then some (↑(j+l.findIdx p):Int) else none
 | [],_=>rfl
 | x::l,j=>by
  unfold scan
  by_cases h:p x=true
  ·simp [h,List.findIdx_cons]
  ·have hf:p x=false:=by simpa using h
   rw [if_neg h]
   simp only
   rw [scan_idx l (j+1)]
   simp only [List.any_cons,hf,Bool.false_or,List.findIdx_cons,cond_false]
   split
   ·congr 2
    omega
   ·rfl
theorem tindex_eq {l:List zad} {f:zad→Option Bool} {p:zad→Bool} (hl:l.length≤100000000000000) (hf:∀ x∈l,f x=some (p x)) :
  zag l f=some (if l.any p=true then (↑(l.findIdx p):Int) else -1):=by
 unfold zag
 have key:=zcz (step:=fun s=>zag.s2 l f s) (l:=l) (fun i x=>if p x=true then some (↑i:Int) else none) (fun i x hx=>by
  simp only [zag.s2]
  rw [dec_lt hx,cond_true,idxn_at hx,hf x (List.mem_of_getElem? hx),obind]
  cases p x<;>rfl) (by
  simp only [zag.s2]
  rw [dec_end]
  rfl) hl
 rw [key,scan_idx,obind]
 by_cases h:l.any p=true
 ·rw [if_pos h,if_pos h,Nat.zero_add]
  rfl
 ·rw [if_neg h,if_neg h]
  rfl
theorem zjl:∀ a b:List Int,common a b=common b a
 | [],[]=>rfl
 | [],_::_=>rfl
 | _::_,[]=>rfl
 | x::a,y::b=>by
  unfold common
  by_cases h:x=y
  ·rw [if_pos h,if_pos h.symm,zjl a b]
  ·rw [if_neg h,if_neg fun e=>h e.symm]
theorem Agree.symm {a b:zad} (h:Agree a b):Agree b a:=by
 unfold Agree at h ⊢
 rw [zjl]
 exact h.symm
def clashO (l:List zad) (t:zad):Prop:=∃ u∈l,¬ Agree u t
instance (a b:zad):Decidable (Agree a b):=by unfold Agree;infer_instance
instance (l:List zad) (t:zad):Decidable (clashO l t):=by unfold clashO;infer_instance
end Go.Proofs.YtcneaiejdidooaaGreat.Sym

/-
 Observations that grow: what the program's Add and the document's Add come to. Plain laws.
-/
namespace Go.Proofs.YtcneaiejdidooaaGreat.Sym
set_option maxRecDepth 100000
def SmX (t:zad):Prop:=SmW t.In∧SmW t.Out
def SmTr (l:List zad):Prop:=l.length≤1200000∧∀ t∈l,SmX t
theorem SmO.tr {o:zbv} (h:SmO o):SmTr o.Traces:=⟨by have:=h.1;omega,fun t ht=>⟨by have:=(h.2 t ht).1;unfold SmW;omega,(h.2 t ht).2⟩⟩
end Go.Proofs.YtcneaiejdidooaaGreat.Sym

/-
 Rows, missing queries and maximal words: the program's are the document's. Plain laws.
-/
namespace Go.Proofs.YtcneaiejdidooaaGreat.Sym
set_option maxRecDepth 100000
theorem zlg {l:List (List Int)} (hl:SmL l):zbd l=some (maxR l):=by
 have hA:=zfo l
 have hs:=sml_sort hl
 have hs1:(sortW l).length≤2000000:=hs.1
 unfold zbd maxR
 rw [zhx hl,obind]
 have inner:∀ (i:Nat) (x:List Int),(sortW l)[i]?=some x→iter (fun (s:Bool×Nat)=>zbd.s13 (sortW l) i s.1 s.2) fuel (true,i+1)=some (topB (sortW l) x):=by
  intro i x hx
  have hi:=(List.getElem?_eq_some_iff.1 hx).1
  refine iter_eq (fun s=>i+1≤s.2∧s.2≤(sortW l).length∧s.1=tailB x (((sortW l).take s.2).drop (i+1))) (fun s=>(sortW l).length-s.2) (fun s ⟨g1,g2,g3⟩=>?_) ⟨Nat.le_refl _,by simp only;omega,by simp [tailB]⟩ (by have:=fuel_big;simp only;omega)
  obtain ⟨b,k⟩:=s
  simp only at g1 g2 g3
  simp only [zbd.s13]
  by_cases g4:k<(sortW l).length
  ·left
   have hy:=get_at g4
   have hst:=tailB_step (x:=x) g1 hy
   rw [← g3] at hst
   refine ⟨(tailB x (((sortW l).take (k+1)).drop (i+1)),k+1),?_,⟨by simp only;omega,by simp only;omega,rfl⟩,by simp only;omega⟩
   rw [dec_lt hy,cond_true,hst]
   cases b with
   | false=>rfl
   | true =>
    rw [cond_true,idxn_at hy,idxn_at hx,Bool.true_and]
    by_cases g5:(sortW l)[k].length=x.length
    ·rw [decide_eq_true (by omega),cond_true,decide_eq_true (Or.inl g5)]
    ·rw [decide_eq_false (by omega),cond_false,idxn_at hy,idxn_at hx,zfg _ _ (hs.2 _ (List.getElem_mem _)),obind]
     by_cases g6:x <+: (sortW l)[k]
     ·rw [decide_eq_true g6,decide_eq_false (fun h=>h.elim g5 fun h=>h g6)];rfl
     ·rw [decide_eq_false g6,decide_eq_true (Or.inr g6)];rfl
  ·right
   have e:k=(sortW l).length:=by omega
   subst e
   rw [decide_eq_false (by omega),cond_false,g3,List.take_length,top_eq hA hx]
 have key:=iter_eq (step:=fun (s:List (List Int)×Nat)=>zbd.s14 (sortW l) s.1 s.2) (r:=(sortW l).filter (topB (sortW l))) (fun s=>s.2≤(sortW l).length∧s.1=((sortW l).take s.2).filter (topB (sortW l))) (fun s=>(sortW l).length-s.2) (fun s ⟨g1,g2⟩=>by
  obtain ⟨y,i⟩:=s
  simp only at g1 g2
  subst g2
  simp only [zbd.s14]
  by_cases g4:i<(sortW l).length
  ·left
   have hx:=get_at g4
   have hst:=filter_step (p:=topB (sortW l)) hx
   have hfl:=List.length_filter_le (topB (sortW l)) ((sortW l).take i)
   rw [List.length_take] at hfl
   refine ⟨(((sortW l).take (i+1)).filter (topB (sortW l)),i+1),?_,⟨by simp only;omega,rfl⟩,by simp only;omega⟩
   rw [dec_lt hx,cond_true,inner i _ hx,obind,hst]
   cases topB (sortW l) (sortW l)[i] with
   | true =>
    rw [cond_true,idxn_at hx,chk_pos (by unfold capOk;omega)]
    rfl
   | false=>simp
  ·right
   have e:i=(sortW l).length:=by omega
   subst e
   rw [decide_eq_false (by omega),cond_false,List.take_length]) (n:=fuel) (s:=([],0)) ⟨Nat.zero_le _,by simp⟩ (by have:=fuel_big;simp only;omega)
 rw [key,obind]
theorem zhp {l:List (List Int)} (hl:SmL l):zbb l=some (maxR l):=by
 have hl1:l.length≤2000000:=hl.1
 obtain ⟨L,e1,h1,h2,h3⟩:=zlp lexI_total (f:=fun u0 u1=>word_Lex u0 u1) hl fun a ha b hb=>zjp a b (by have:SmW a:=hl.2 a ha;unfold SmW at this;omega)
 have hLs:∀ x∈L,SmW x:=fun x hx=>hl.2 x ((h2 x).1 hx)
 unfold zbb
 rw [e1,obind]
 have key:=iter_eq (step:=fun (s:List (List Int)×Nat)=>zbb.s2 L s.1 s.2) (r:=keepM L) (fun s=>s.2≤L.length∧s.1.length≤s.2∧keepM L=s.1++keepM (L.drop s.2)) (fun s=>L.length-s.2) (fun s ⟨g1,g2,g3⟩=>by
  obtain ⟨y,i⟩:=s
  simp only at g1 g2 g3
  simp only [zbb.s2]
  by_cases g4:i<L.length
  ·left
   have hx:=get_at g4
   rw [dec_lt hx,cond_true,idxn_at hx]
   by_cases g5:i+1=L.length
   ·rw [keepM_end hx g5] at g3
    refine ⟨(y++[L[i]],i+1),?_,⟨by simp only;omega,by simp;omega,by simp only;rw [g3];simp⟩,by simp only;omega⟩
    rw [decide_eq_true (by omega),cond_true,obind,cond_true,chk_pos (by unfold capOk;omega)]
   ·have hy:=get_at (l:=L) (i:=i+1) (by omega)
    rw [keepM_step hx hy] at g3
    rw [decide_eq_false (by omega),cond_false,idxn_at hy,zep _ _ (hLs _ (List.getElem_mem _)),obind,obind]
    by_cases g6:L[i] <+: (L[i+1]'(by omega))
    ·rw [if_pos g6] at g3
     refine ⟨(y,i+1),?_,⟨by simp only;omega,by simp only;omega,g3⟩,by simp only;omega⟩
     rw [decide_eq_true g6]
     rfl
    ·rw [if_neg g6] at g3
     refine ⟨(y++[L[i]],i+1),?_,⟨by simp only;omega,by simp;omega,by simp only;rw [g3];simp⟩,by simp only;omega⟩
     rw [decide_eq_false g6,Bool.not_false,cond_true,chk_pos (by unfold capOk;omega)]
  ·right
   have e:i=L.length:=by omega
   subst e
   rw [List.drop_length] at g3
   rw [decide_eq_false (by omega),cond_false,g3]
   simp [keepM]) (n:=fuel) (s:=([],0)) ⟨Nat.zero_le _,by simp,by simp⟩ (by have:=fuel_big;simp only;omega)
 have hk:=zjb L
 have hkl:SmL (keepM L):=⟨by have:=hk.length_le;omega,fun x hx=>hLs x (hk.mem hx)⟩
 rw [key,obind,zeo hkl,obind,sortW_keepM h1 h2]
end Go.Proofs.YtcneaiejdidooaaGreat.Sym

/-
 Machines: validity and runs. Plain laws.
-/
namespace Go.Proofs.YtcneaiejdidooaaGreat.Sym
set_option maxRecDepth 100000
structure MacOk (m:zaa):Prop where
 i1:1≤m.Inputs
 i2:m.Inputs≤64
 n1:0<m.Next.length
 n2:m.Next.length≤128
 st:0≤m.Start∧m.Start<(↑m.Next.length:Int)
 ol:m.Out.length=m.Next.length
 row:∀ s,s<m.Next.length→∃ x y,m.Next[s]?=some x∧m.Out[s]?=some y∧(↑x.length:Int)=m.Inputs∧(↑y.length:Int)=m.Inputs∧(∀ u∈x,0≤u∧u<(↑m.Next.length:Int))∧∀ v∈y,0≤v∧v≤1048576
def nx (m:zaa) (s a:Nat):Nat:=((((m.Next[s]?).getD [])[a]?).getD 0).toNat
def ot (m:zaa) (s a:Nat):Int:=(((m.Out[s]?).getD [])[a]?).getD 0
section
variable {m:zaa}
theorem MacOk.at (H:MacOk m) {s a:Nat} (hs:s<m.Next.length) (ha:a<m.Inputs.toNat):nx m s a<m.Next.length∧0≤ot m s a∧ot m s a≤1048576∧∃ x y,m.Next[s]?=some x∧m.Out[s]?=some y∧x[a]?=some (↑(nx m s a):Int)∧y[a]?=some (ot m s a):=by
 obtain ⟨x,y,h1,h2,h3,h4,h5,h6⟩:=H.row s hs
 have hx:=get_at (l:=x) (i:=a) (by omega)
 have hy:=get_at (l:=y) (i:=a) (by omega)
 have e1:nx m s a=(x[a]'(by omega)).toNat:=by
  unfold nx
  rw [h1,Option.getD_some,hx,Option.getD_some]
 have e2:ot m s a=y[a]'(by omega):=by
  unfold ot
  rw [h2,Option.getD_some,hy,Option.getD_some]
 have g1:=h5 _ (List.getElem_mem (by omega:a<x.length))
 have g2:=h6 _ (List.getElem_mem (by omega:a<y.length))
 refine ⟨by rw [e1];omega,by rw [e2];exact g2.1,by rw [e2];exact g2.2,x,y,h1,h2,?_,by rw [e2];exact hy⟩
 rw [hx,e1]
 congr 1
 omega
def outs (m:zaa):Nat→List Int→List Int
 | _,[]=>[]
 | s,a::w=>ot m s a.toNat::outs m (nx m s a.toNat) w
def dest (m:zaa):Nat→List Int→Nat
 | s,[]=>s
 | s,a::w=>dest m (nx m s a.toNat) w
def WOk (n:Int) (w:List Int):Prop:=∀ a∈w,0≤a∧a<n
theorem zc9:∀ (w v:List Int) (s:Nat),outs m s (w++v)=outs m s w++outs m (dest m s w) v
 | [],_,_=>rfl
 | a::w,v,s=>by
  show ot m s a.toNat::outs m (nx m s a.toNat) (w++v)=_
  rw [zc9 w v]
  rfl
theorem zck:∀ (w v:List Int) (s:Nat),dest m s (w++v)=dest m (dest m s w) v
 | [],_,_=>rfl
 | _::w,v,_=>zck w v _
theorem outs_len:∀ (w:List Int) (s:Nat),(outs m s w).length=w.length
 | [],_=>rfl
 | a::w,s=>by
  show (outs m (nx m s a.toNat) w).length+1=w.length+1
  rw [outs_len w]
theorem WOk.tail {n:Int} {a:Int} {w:List Int} (h:WOk n (a::w)):WOk n w:=fun x hx=>h x (List.mem_cons_of_mem _ hx)
theorem WOk.head {n:Int} {a:Int} {w:List Int} (h:WOk n (a::w)):0≤a∧a<n:=h a (by simp)
theorem WOk.take {n:Int} {w:List Int} (h:WOk n w) (k:Nat):WOk n (w.take k):=fun x hx=>h x (List.mem_of_mem_take hx)
theorem WOk.append {n:Int} {w v:List Int} (h:WOk n w) (g:WOk n v):WOk n (w++v):=fun x hx=>(List.mem_append.1 hx).elim (h x) (g x)
theorem MacOk.dest (H:MacOk m):∀ {w:List Int} {s:Nat},WOk m.Inputs w→s<m.Next.length→dest m s w<m.Next.length
 | [],_,_,hs=>hs
 | a::w,s,hw,hs=>by
  have:=hw.head
  exact H.dest (w:=w) hw.tail (H.at hs (a:=a.toNat) (by omega)).1
theorem zkn (H:MacOk m) {s:Nat} (hs:s<m.Next.length) {w:List Int} (hw:WOk m.Inputs w) (hl:w.length≤100000000):R06_Outs m (↑s:Int) w=some (outs m s w,(↑(dest m s w):Int)):=by
 unfold R06_Outs
 have key:=iter_eq (step:=fun (q:Int×List Int×Nat)=>R06_Outs.s2 m w q.1 q.2.1 q.2.2) (r:=((↑(dest m s w):Int),outs m s w)) (fun q=>q.2.2≤w.length∧q.1=(↑(dest m s (w.take q.2.2)):Int)∧q.2.1=outs m s (w.take q.2.2)) (fun q=>w.length-q.2.2) (fun q ⟨g1,g2,g3⟩=>by
  obtain ⟨st,y,k⟩:=q
  simp only at g1 g2 g3
  subst g2
  subst g3
  simp only [R06_Outs.s2]
  by_cases g4:k<w.length
  ·left
   have hx:=get_at g4
   obtain ⟨x0,x1⟩:=hw _ (List.getElem_mem g4)
   have ha:w[k].toNat<m.Inputs.toNat:=by omega
   have hd:Sym.dest m s (w.take k)<m.Next.length:=H.dest (hw.take k) hs
   obtain ⟨_,_,_,x,y,e1,e2,e3,e4⟩:=H.at hd ha
   refine ⟨((↑(Sym.dest m s (w.take (k+1))):Int),outs m s (w.take (k+1)),k+1),?_,⟨g4,rfl,rfl⟩,by simp only;omega⟩
   rw [dec_lt hx,cond_true,idx_at rfl e2,idxn_at hx,idx_at (i:=w[k].toNat) (by omega) e4,chk_pos (by unfold capOk;rw [outs_len,List.length_take];omega),idx_at rfl e1,idxn_at hx,idx_at (i:=w[k].toNat) (by omega) e3,zbz hx,zck,zc9]
   rfl
  ·right
   have e:k=w.length:=by omega
   subst e
   rw [decide_eq_false (by omega),cond_false,List.take_length]) (n:=fuel) (s:=((↑s:Int),[],0)) ⟨Nat.zero_le _,rfl,rfl⟩ (by have:=fuel_big;simp only;omega)
 rw [key,obind]
 rfl
def RowRng (n:Nat) (u v:Int):Prop:=(0≤u∧u<(↑n:Int))∧0≤v∧v≤1048576
theorem R06_row_tot (h1:m.Inputs≤64) {s:Nat} (hs:s<m.Next.length) (ho:m.Out.length=m.Next.length):∃ e,R06_row m (↑s:Int)=some e∧(e=0→∃ x y,m.Next[s]?=some x∧m.Out[s]?=some y∧(↑x.length:Int)=m.Inputs∧(↑y.length:Int)=m.Inputs∧(∀ u∈x,0≤u∧u<(↑m.Next.length:Int))∧∀ v∈y,0≤v∧v≤1048576):=by
 obtain ⟨x,hx⟩:∃ x,m.Next[s]?=some x:=⟨_,get_at hs⟩
 obtain ⟨y,hy⟩:∃ y,m.Out[s]?=some y:=⟨_,get_at (l:=m.Out) (i:=s) (by omega)⟩
 unfold R06_row
 rw [idx_at rfl hx]
 by_cases g1:(↑x.length:Int)=m.Inputs
 ·by_cases g2:(↑y.length:Int)=m.Inputs
  ·rw [decide_eq_false (fun h=>h g1),cond_false,idx_at rfl hy,decide_eq_false (fun h=>h g2),obind,cond_false]
   obtain ⟨r,hr,hq⟩:=za4 (step:=fun a=>R06_row.s2 m (↑s:Int) a) (fun a=>a≤x.length∧∀ b u v,b<a→x[b]?=some u→y[b]?=some v→RowRng m.Next.length u v) (fun a=>x.length-a) (fun r=>r=.inr 2∨(r=.inl ()∧∀ b u v,b<x.length→x[b]?=some u→y[b]?=some v→RowRng m.Next.length u v)) (fun a ⟨q1,q2⟩=>by
    simp only [R06_row.s2]
    by_cases q3:a<x.length
    ·obtain ⟨u,ha⟩:∃ u,x[a]?=some u:=⟨_,get_at q3⟩
     obtain ⟨v,hb⟩:∃ v,y[a]?=some v:=⟨_,get_at (l:=y) (i:=a) (by omega)⟩
     rw [decide_eq_true (by omega),cond_true,idx_at rfl hx,idxn_at ha]
     by_cases z1:u<0
     ·right
      exact ⟨.inr 2,by rw [decide_eq_true z1];rfl,Or.inl rfl⟩
     rw [decide_eq_false z1,cond_false,idx_at rfl hx,idxn_at ha]
     by_cases z2:(↑m.Next.length:Int)≤u
     ·right
      exact ⟨.inr 2,by rw [decide_eq_true z2];rfl,Or.inl rfl⟩
     rw [decide_eq_false z2,cond_false,idx_at rfl hy,idxn_at hb]
     by_cases z3:v<0
     ·right
      exact ⟨.inr 2,by rw [decide_eq_true z3];rfl,Or.inl rfl⟩
     rw [decide_eq_false z3,cond_false,idx_at rfl hy,idxn_at hb]
     by_cases z4:1048576<v
     ·right
      exact ⟨.inr 2,by rw [decide_eq_true z4];rfl,Or.inl rfl⟩
     left
     refine ⟨a+1,by rw [decide_eq_false z4,obind,cond_false,chk_pos (by unfold inR;omega)],⟨q3,fun b u' v' hb' hu hv=>?_⟩,by omega⟩
     rcases Nat.lt_or_ge b a with h | h
     ·exact q2 b u' v' h hu hv
     ·have e:b=a:=by omega
      subst e
      rw [ha] at hu
      rw [hb] at hv
      injection hu with hu
      injection hv with hv
      subst hu
      subst hv
      exact ⟨⟨by omega,by omega⟩,by omega,by omega⟩
    ·right
     have e:a=x.length:=by omega
     subst e
     exact ⟨.inl (),by rw [decide_eq_false (by omega),cond_false],Or.inr ⟨rfl,q2⟩⟩) fuel 0 ⟨Nat.zero_le _,fun b _ _ h=>absurd h (Nat.not_lt_zero _)⟩ (by have:=fuel_big;omega)
   rw [hr,obind]
   rcases hq with rfl | ⟨rfl,hq⟩
   ·exact ⟨2,rfl,fun h=>by cases h⟩
   ·refine ⟨0,rfl,fun _=>⟨x,y,hx,hy,g1,g2,fun u hu=>?_,fun v hv=>?_⟩⟩
    ·obtain ⟨b,hb,rfl⟩:=List.mem_iff_getElem.1 hu
     exact (hq b _ _ hb (get_at hb) (get_at (l:=y) (by omega))).1
    ·obtain ⟨b,hb,rfl⟩:=List.mem_iff_getElem.1 hv
     exact (hq b _ _ (by omega) (get_at (l:=x) (by omega)) (get_at hb)).2
  ·exact ⟨1,by rw [decide_eq_false (fun h=>h g1),cond_false,idx_at rfl hy,decide_eq_true g2];rfl,fun h=>by cases h⟩
 ·exact ⟨1,by rw [decide_eq_true g1];rfl,fun h=>by cases h⟩
theorem R06_Valid_tot (m:zaa):∃ e,zbf m=some e∧(e=0→MacOk m):=by
 unfold zbf
 by_cases c1:m.Inputs<1
 ·exact ⟨2,by rw [decide_eq_true c1];rfl,fun h=>by cases h⟩
 rw [decide_eq_false c1,cond_false]
 by_cases c2:64<m.Inputs
 ·exact ⟨2,by rw [decide_eq_true c2];rfl,fun h=>by cases h⟩
 rw [decide_eq_false c2,obind,cond_false]
 by_cases c3:(↑m.Next.length:Int)=0
 ·exact ⟨19,by rw [decide_eq_true c3];rfl,fun h=>by cases h⟩
 rw [decide_eq_false c3,cond_false]
 by_cases c4:128<(↑m.Next.length:Int)
 ·exact ⟨11,by rw [decide_eq_true c4];rfl,fun h=>by cases h⟩
 rw [decide_eq_false c4,cond_false]
 by_cases c5:m.Start<0
 ·exact ⟨2,by rw [decide_eq_true c5];rfl,fun h=>by cases h⟩
 rw [decide_eq_false c5,cond_false]
 by_cases c6:(↑m.Next.length:Int)≤m.Start
 ·exact ⟨2,by rw [decide_eq_true c6];rfl,fun h=>by cases h⟩
 rw [decide_eq_false c6,obind,cond_false]
 by_cases c7:(↑m.Out.length:Int)=(↑m.Next.length:Int)
 ·rw [decide_eq_false (fun h=>h c7),cond_false]
  have ho:m.Out.length=m.Next.length:=by omega
  obtain ⟨r,hr,hq⟩:=za4 (step:=fun s=>zbf.s2 m s) (fun a=>a≤m.Next.length∧∀ s,s<a→∃ x y,m.Next[s]?=some x∧m.Out[s]?=some y∧(↑x.length:Int)=m.Inputs∧(↑y.length:Int)=m.Inputs∧(∀ u∈x,0≤u∧u<(↑m.Next.length:Int))∧∀ v∈y,0≤v∧v≤1048576) (fun a=>m.Next.length-a) (fun r=>(∃ e,r=.inr e∧e≠0)∨(r=.inl ()∧∀ s,s<m.Next.length→∃ x y,m.Next[s]?=some x∧m.Out[s]?=some y∧(↑x.length:Int)=m.Inputs∧(↑y.length:Int)=m.Inputs∧(∀ u∈x,0≤u∧u<(↑m.Next.length:Int))∧∀ v∈y,0≤v∧v≤1048576)) (fun a ⟨q1,q2⟩=>by
   simp only [zbf.s2]
   by_cases q3:a<m.Next.length
   ·obtain ⟨e,he,hz⟩:=R06_row_tot (m:=m) (by omega) q3 ho
    rw [decide_eq_true (by omega),cond_true,he,obind]
    by_cases z:e=0
    ·left
     refine ⟨a+1,by rw [decide_eq_false (fun h=>h z),cond_false],⟨q3,fun s hs=>?_⟩,by omega⟩
     rcases Nat.lt_or_ge s a with h | h
     ·exact q2 s h
     ·have e2:s=a:=by omega
      subst e2
      exact hz z
    ·right
     exact ⟨.inr e,by rw [decide_eq_true z,cond_true],Or.inl ⟨e,rfl,z⟩⟩
   ·right
    have e:a=m.Next.length:=by omega
    subst e
    exact ⟨.inl (),by rw [decide_eq_false (by omega),cond_false],Or.inr ⟨rfl,q2⟩⟩) fuel 0 ⟨Nat.zero_le _,fun s h=>absurd h (Nat.not_lt_zero _)⟩ (by have:=fuel_big;omega)
  rw [hr,obind]
  rcases hq with ⟨e,rfl,hz⟩ | ⟨rfl,hq⟩
  ·exact ⟨e,rfl,fun h=>absurd h hz⟩
  ·exact ⟨0,rfl,fun _=>⟨by omega,by omega,by omega,by omega,⟨by omega,by omega⟩,ho,hq⟩⟩
 ·exact ⟨1,by rw [decide_eq_true c7];rfl,fun h=>by cases h⟩
theorem macOk_of (h:zbf m=some 0):MacOk m:=by
 obtain ⟨e,he,hz⟩:=R06_Valid_tot m
 rw [h] at he
 injection he with he
 exact hz he.symm
end
end Go.Proofs.YtcneaiejdidooaaGreat.Sym

/-
 Devices: what the program's and the document's Query come to. Plain laws.
-/
namespace Go.Proofs.YtcneaiejdidooaaGreat.Sym
set_option maxRecDepth 100000
theorem zli {m:zaa} (H:MacOk m):zat m=some 0:=by
 have i1:=H.i1
 have i2:=H.i2
 have n1:=H.n1
 have n2:=H.n2
 have st:=H.st
 have ol:=H.ol
 unfold zat
 rw [decide_eq_false (by omega),cond_false,decide_eq_false (by omega),obind,cond_false,decide_eq_false (by omega),cond_false,decide_eq_false (by omega),cond_false,decide_eq_false (by omega),cond_false,decide_eq_false (by omega),obind,cond_false,decide_eq_false (by omega),cond_false]
 have inner:∀ s,s<m.Next.length→iter (fun (a:Nat)=>zat.s13 m s a) fuel 0=some (.inl ()):=fun s hs =>
  iter_eq (fun a=>a≤m.Inputs.toNat) (fun a=>m.Inputs.toNat-a) (fun a ha=>by
   simp only [zat.s13]
   by_cases g:a<m.Inputs.toNat
   ·left
    obtain ⟨h1,h2,h3,x,y,hx,hy,hxa,hya⟩:=H.at hs g
    refine ⟨a+1,?_,g,by omega⟩
    rw [decide_eq_true (by omega),cond_true,idxn_at hx,idxn_at hxa,idxn_at hy,idxn_at hya,decide_eq_false (by omega),cond_false,decide_eq_false (by omega),cond_false,decide_eq_false (by omega),cond_false,decide_eq_false (by omega),obind,cond_false,chk_pos (by unfold inR;omega)]
   ·right
    rw [decide_eq_false (by omega),cond_false]) (Nat.zero_le _) (by have:=fuel_big;omega)
 have outer:iter (fun (s:Nat)=>zat.s14 m s) fuel 0=some (.inl ()) :=
  iter_eq (fun s=>s≤m.Next.length) (fun s=>m.Next.length-s) (fun s hs=>by
   simp only [zat.s14]
   by_cases g:s<m.Next.length
   ·left
    obtain ⟨x,y,hx,hy,hl1,hl2,_,_⟩:=H.row s g
    refine ⟨s+1,?_,g,by omega⟩
    rw [decide_eq_true (by omega),cond_true,idxn_at hx,decide_eq_false (by omega),cond_false,idxn_at hy,decide_eq_false (by omega),obind,cond_false,inner s g,obind]
    rfl
   ·right
    rw [decide_eq_false (by omega),cond_false]) (Nat.zero_le _) (by have:=fuel_big;omega)
 rw [outer,obind]
 rfl
abbrev costOk (l:zhf):Prop:=(∀ c∈l.Step,0≤c∧c≤1048576)∧0≤l.Reset∧l.Reset≤1048576
abbrev cntOk (n:Int):Prop:=0≤n∧n≤1125899906842624
abbrev faultOk (f:zej):Prop:=(0≤f.Lost∧f.Lost≤10000)∧(0≤f.Wrong∧f.Wrong≤10000)∧(0≤f.Crash∧f.Crash≤10000)∧f.Lost+f.Wrong+f.Crash≤10000
structure DevOk (d:za7):Prop where
 v6:zbf d.M=some 0
 st:0≤d.State∧d.State<(↑d.M.Next.length:Int)
 ll:(↑d.Latency.Step.length:Int)=d.M.Inputs
 lc:costOk d.Latency
 fl:faultOk d.Faults
 c1:cntOk d.Steps
 c2:cntOk d.Resets
 c3:cntOk d.Time
theorem DevOk.mac {d:za7} (H:DevOk d):MacOk d.M:=macOk_of H.v6
def resetD (d:za7):za7×Int :=
 if cntOk (d.Resets+1)∧cntOk (d.Time+d.Latency.Reset) then (⟨d.M,d.M.Start,true,d.Latency,d.Faults,d.Seed,d.Steps,d.Resets+1,d.Time+d.Latency.Reset⟩,0) else (d,11)
def costD (d:za7) (a:Int):Int:=(d.Latency.Step[a.toNat]?).getD 0
def outD (f:zej) (x o:Int):Int:=if x<f.Lost then -1 else if x<f.Lost+f.Wrong then (if o=1048576 then o-1 else o+1) else o
def readyD (f:zej) (x:Int) (b:Bool):Bool:=if x<f.Lost+f.Wrong then b else if x<f.Lost+f.Wrong+f.Crash then false else b
def stepD (d:za7) (a:Int):za7×Int×Int :=
 if d.Ready=false then (d,0,10) else if cntOk (d.Steps+1)∧cntOk (d.Time+costD d a) then
  (⟨d.M,(↑(nx d.M d.State.toNat a.toNat):Int),readyD d.Faults (↑(drawN d.Seed.toNat).1:Int) d.Ready,d.Latency,d.Faults,(↑(drawN d.Seed.toNat).2:Int),d.Steps+1,d.Resets,d.Time+costD d a⟩,outD d.Faults (↑(drawN d.Seed.toNat).1:Int) (ot d.M d.State.toNat a.toNat),0)
 else (d,0,11)
section
variable {d:za7}
theorem resetD_ok (H:DevOk d):DevOk (resetD d).1:=by
 unfold resetD
 split
 ·rename_i h
  exact ⟨H.v6,H.mac.st,H.ll,H.lc,H.fl,H.c1,h.1,h.2⟩
 ·exact H
theorem stepD_ok (H:DevOk d) (hs:0≤d.Seed∧d.Seed<18446744073709551616) {a:Int} (ha:0≤a∧a<d.M.Inputs):DevOk (stepD d a).1∧(0≤(stepD d a).1.Seed∧(stepD d a).1.Seed<18446744073709551616)∧(stepD d a).1.M=d.M∧(-1≤(stepD d a).2.1∧(stepD d a).2.1≤1048576):=by
 have st:=H.st
 obtain ⟨h1,h2,h3,_⟩:=H.mac.at (s:=d.State.toNat) (a:=a.toNat) (by omega) (by omega)
 have hd:=draw_lt d.Seed.toNat
 unfold stepD
 split
 ·exact ⟨H,hs,rfl,by simp,by simp⟩
 split
 ·rename_i h
  refine ⟨⟨H.v6,⟨by simp only;omega,by simp only;omega⟩,H.ll,H.lc,H.fl,h.1,H.c2,h.2⟩,⟨by simp only;omega,by simp only;omega⟩,rfl,?_⟩
  simp only
  unfold outD
  split
  ·decide
  ·split
   ·split<;>omega
   ·omega
 ·exact ⟨H,hs,rfl,by simp,by simp⟩
end
end Go.Proofs.YtcneaiejdidooaaGreat.Sym

/-
 Devices are asked a word; answers are voted for. Plain laws.
-/
namespace Go.Proofs.YtcneaiejdidooaaGreat.Sym
set_option maxRecDepth 100000
theorem MacOk.sml {m:zaa} (H:MacOk m):SmL m.Next∧SmL m.Out:=by
 have n2:=H.n2
 have ol:=H.ol
 have i2:=H.i2
 refine ⟨⟨by omega,fun x hx=>?_⟩,⟨by omega,fun x hx=>?_⟩⟩
 all_goals
  obtain ⟨s,hs,rfl⟩:=List.mem_iff_getElem.1 hx
  obtain ⟨x,y,h1,h2,h3,h4,_⟩:=H.row s (by omega)
  unfold SmW
 ·rw [get_at hs] at h1
  injection h1 with h1
  rw [h1]
  omega
 ·rw [get_at hs] at h2
  injection h2 with h2
  rw [h2]
  omega
def qryD:za7→List Int→List Int→za7×List Int×Int
 | d,ys,[]=>(d,ys,0)
 | d,ys,a::w=>if (stepD d a).2.2≠0 then ((stepD d a).1,[],(stepD d a).2.2) else if (stepD d a).2.1<0∨((stepD d a).1.Ready=false∧w≠[]) then ((stepD d a).1,[],14) else qryD (stepD d a).1 (ys++[(stepD d a).2.1]) w
def queryD (d:za7) (w:List Int):za7×List Int×Int :=
 if (resetD d).2≠0 then (d,[],(resetD d).2) else qryD (resetD d).1 [] w
abbrev SeedOk (d:za7):Prop:=0≤d.Seed∧d.Seed<18446744073709551616
theorem qryD_ok:∀ (w ys:List Int) (d:za7),DevOk d→SeedOk d→WOk d.M.Inputs w→(∀ y∈ys,0≤y∧y≤1048576) →
  DevOk (qryD d ys w).1∧SeedOk (qryD d ys w).1∧(qryD d ys w).1.M=d.M∧((qryD d ys w).2.2=0→(qryD d ys w).2.1.length=ys.length+w.length∧∀ y∈(qryD d ys w).2.1,0≤y∧y≤1048576)∧((qryD d ys w).2.2=0∨(qryD d ys w).2.2=10∨(qryD d ys w).2.2=11∨(qryD d ys w).2.2=14)
 | [],ys,d,H,S,_,hy=>⟨H,S,rfl,fun _=>⟨rfl,hy⟩,.inl rfl⟩
 | a::w,ys,d,H,S,hw,hy=>by
  obtain ⟨h1,h2,h3,h4⟩:=stepD_ok H S hw.head
  unfold qryD
  by_cases g1:(stepD d a).2.2≠0
  ·rw [if_pos g1]
   refine ⟨h1,h2,h3,fun e=>absurd e g1,?_⟩
   simp only
   unfold stepD
   split
   ·exact .inr (.inl rfl)
   ·split
    ·exact .inl rfl
    ·exact .inr (.inr (.inl rfl))
  ·rw [if_neg g1]
   by_cases g2:(stepD d a).2.1<0∨((stepD d a).1.Ready=false∧w≠[])
   ·rw [if_pos g2]
    exact ⟨h1,h2,h3,fun e=>(by cases e),.inr (.inr (.inr rfl))⟩
   ·rw [if_neg g2]
    obtain ⟨k1,k2,k3,k4,k5⟩:=qryD_ok w (ys++[(stepD d a).2.1]) (stepD d a).1 h1 h2 (by rw [h3];exact hw.tail) fun y hy'=>by
     rcases List.mem_append.1 hy' with e | e
     ·exact hy y e
     ·rw [List.mem_singleton.1 e]
      exact ⟨by omega,h4.2⟩
    refine ⟨k1,k2,by rw [k3,h3],fun e=>⟨?_,(k4 e).2⟩,k5⟩
    rw [(k4 e).1,List.length_append,List.length_cons]
    simp
    omega
section
variable {d:za7} {w ys:List Int}
end
theorem check_wok {w:List Int} {n:Int} (h:checkI w n=0):WOk n w:=zez h
theorem queryD_ok {d:za7} {w:List Int} (H:DevOk d) (S:SeedOk d) (hw:checkI w d.M.Inputs=0) :
  DevOk (queryD d w).1∧SeedOk (queryD d w).1∧(queryD d w).1.M=d.M∧((queryD d w).2.2=0→(queryD d w).2.1.length=w.length∧∀ y∈(queryD d w).2.1,0≤y∧y≤1048576):=by
 have hM:(resetD d).1.M=d.M∧SeedOk (resetD d).1:=by
  unfold resetD
  split
  ·exact ⟨rfl,S⟩
  ·exact ⟨rfl,S⟩
 unfold queryD
 split
 ·rename_i g
  exact ⟨H,S,rfl,fun e=>absurd e g⟩
 ·obtain ⟨k1,k2,k3,k4,_⟩:=qryD_ok w [] (resetD d).1 (resetD_ok H) hM.2 (by rw [hM.1];exact check_wok hw) fun y hy=>by simp at hy
  exact ⟨k1,k2,by rw [k3,hM.1],fun e=>⟨by rw [(k4 e).1];simp,(k4 e).2⟩⟩
def WrdOk (w:List Int):Prop:=w.length≤100000∧∀ x∈w,inR x
def Few (need:Int) (l:List (List Int)):Prop:=∀ w,(↑(l.count w):Int)<need
theorem few_add {need:Int} {l:List (List Int)} {x:List Int} (h:Few need l) (hx:(↑((l++[x]).count x):Int)<need):Few need (l++[x]):=fun w=>by
 by_cases e:x=w
 ·rw [← e]
  exact hx
 ·have:=h w
  rw [List.count_append]
  simp [e]
  exact this
end Go.Proofs.YtcneaiejdidooaaGreat.Sym

/-
 Oracles: what the program's and the document's Ask come to. Plain laws.
-/
namespace Go.Proofs.YtcneaiejdidooaaGreat.Sym
set_option maxRecDepth 100000
structure OrOk (q:zb6):Prop where
 dev:DevOk q.Device
 seed:SeedOk q.Device
 obs:ObsOk q.Obs
 tr:SmTr q.Obs.Traces
 inp:q.Obs.Inputs=q.Device.M.Inputs
 v1:1≤q.Votes
 v2:q.Votes≤9
 t1:q.Votes≤q.Tries
 t2:q.Tries≤64
structure TryOk (q:zb6) (w:List Int) (d:za7) (ys:List (List Int)) (i:Int):Prop where
 dev:DevOk d
 seed:SeedOk d
 mac:d.M=q.Device.M
 i0:0≤i
 i1:i≤q.Tries
 len:(↑ys.length:Int)≤i
 wrd:∀ y∈ys,WrdOk y
 few:Few q.Votes ys
section
variable {q:zb6} {w:List Int} {d:za7} {ys:List (List Int)} {i n:Int}
theorem TryOk.out (Q:OrOk q) (hw:checkI w q.Device.M.Inputs=0) (hl:w.length≤1024) (T:TryOk q w d ys i) (h:(queryD d w).2.2=0):WrdOk (queryD d w).2.1∧(queryD d w).2.1.length=w.length∧∀ y∈(queryD d w).2.1,0≤y∧y≤1048576:=by
 have hM:=T.mac
 obtain ⟨_,_,_,k4⟩:=queryD_ok (w:=w) T.dev T.seed (by rw [hM];exact hw)
 obtain ⟨g1,g2⟩:=k4 h
 exact ⟨⟨by omega,fun x hx=>by have:=g2 x hx;unfold inR;omega⟩,g1,g2⟩
theorem TryOk.next (Q:OrOk q) (hw:checkI w q.Device.M.Inputs=0) (hl:w.length≤1024) (T:TryOk q w d ys i) (hi:i<q.Tries):TryOk q w (queryD d w).1 ys (i+1):=by
 have hM:=T.mac
 have h0:=T.i0
 have h1:=T.len
 obtain ⟨k1,k2,k3,_⟩:=queryD_ok (w:=w) T.dev T.seed (by rw [hM];exact hw)
 exact ⟨k1,k2,by rw [k3,hM],by omega,by omega,by omega,T.wrd,T.few⟩
theorem TryOk.more (Q:OrOk q) (hw:checkI w q.Device.M.Inputs=0) (hl:w.length≤1024) (T:TryOk q w d ys i) (hi:i<q.Tries) (h:(queryD d w).2.2=0) (hc:(↑((ys++[(queryD d w).2.1]).count (queryD d w).2.1):Int)<q.Votes):TryOk q w (queryD d w).1 (ys++[(queryD d w).2.1]) (i+1):=by
 have T2:=T.next Q hw hl hi
 have h1:=T.len
 refine ⟨T2.dev,T2.seed,T2.mac,T2.i0,T2.i1,by rw [List.length_append,List.length_singleton];omega,fun y hy=>?_,few_add T.few hc⟩
 rcases List.mem_append.1 hy with e | e
 ·exact T.wrd y e
 ·rw [List.mem_singleton.1 e]
  exact (T.out Q hw hl h).1
end
end Go.Proofs.YtcneaiejdidooaaGreat.Sym

/-
 The examples of the chapter on oracles, reckoned.
-/
namespace Go.Proofs.YtcneaiejdidooaaGreat.Sym
set_option maxRecDepth 100000
end Go.Proofs.YtcneaiejdidooaaGreat.Sym

/-
 Oracles: the plain laws of OracleAsks and OracleTries.
-/
namespace Go.Proofs.YtcneaiejdidooaaGreat.Sym
set_option maxRecDepth 100000
structure SmQ (q:zb6):Prop where
 n:q.Device.M.Next.length≤2000000
 s:q.Device.Latency.Step.length≤2000000
 o:SmO q.Obs
 seed:SeedOk q.Device
theorem zgx {l:List zad} (h:SmTr l):zbi l l=some true:=by
 have hl:=h.1
 unfold zbi
 have key:=zcz (step:=fun s=>zbi.s2 l l s) (l:=l) (fun _ _=>(none:Option Bool)) (fun i x hx=>by
  have hs:=h.2 x (List.mem_of_getElem? hx)
  have h1:=hs.1
  have h2:=hs.2
  unfold SmW at h1 h2
  simp only [zbi.s2]
  rw [dec_lt hx,cond_true,idxn_at hx,idxn_at hx,zgw _ _ (by omega),obind,decide_eq_true rfl,Bool.not_true,cond_false,idxn_at hx,idxn_at hx,zgw _ _ (by omega),obind,decide_eq_true rfl]
  rfl) (by
  simp only [zbi.s2]
  rw [dec_end]
  rfl) (by omega)
 have hn:∀ (m:List zad) (j:Nat),scan (fun _ _=>(none:Option Bool)) j m=none:=by
  intro m
  induction m with
  | nil=>intro j;rfl
  | cons x m ih =>
   intro j
   unfold scan
   exact ih _
 rw [key,hn,decide_eq_false (by simp),cond_false]
 rfl
theorem R06_Same_self {m:zaa} (H:MacOk m):R06_Same m m=some true:=by
 have h1:=H.sml.1
 have h2:=H.sml.2
 have l1:=h1.1
 have l2:=h2.1
 unfold R06_Same
 rw [zga _ _ (by omega) fun x hx=>by have:=h1.2 x hx;unfold SmW at this;omega,zga _ _ (by omega) fun x hx=>by have:=h2.2 x hx;unfold SmW at this;omega]
 simp
section
variable {q:zb6} {w:List Int}
theorem check_pre {p:List Int} {n:Int} (h:p <+: w) (hw:checkI w n=0) (hn:1≤n∧n≤1024):checkI p n=0:=by
 unfold checkI at hw ⊢
 rw [if_pos hn] at hw ⊢
 have hle:=h.length_le
 split at hw
 ·cases hw
 ·rw [if_neg (by omega)]
  split at hw
  ·rename_i h3
   rw [if_pos (List.all_eq_true.2 fun x hx=>List.all_eq_true.1 h3 x (h.subset hx))]
  ·cases hw
end
end Go.Proofs.YtcneaiejdidooaaGreat.Sym

/-
 Oracles: the plain law of OracleAll.
-/
namespace Go.Proofs.YtcneaiejdidooaaGreat.Sym
set_option maxRecDepth 100000
section
variable {q:zb6} {ws:List (List Int)}
end
end Go.Proofs.YtcneaiejdidooaaGreat.Sym

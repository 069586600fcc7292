/-
  Parts of the proof, behind each other.
-/
import Derived.Test.YteigfkncoiiaiaaGreatDoorM2
import Derived.Test.YteigfkncoiiaiaaGreatDoorCards
import Derived.Test.YteigfkncoiiaiaaGreatDoorTie
import Derived.ProofKit
import Derived.OpenShut
import Derived.Deep.DeepHandedRow
import Derived.Lib.LaidTab
import Derived.Deep.Slices
import Derived.WalkKit
import Derived.Deep.AppendLies
import Derived.Deep.Draws
import Derived.Maps.AppendAt
import Derived.Deep.QuietTactic
import Derived.BigQuiet
import Derived.WalkSpells
import Derived.Outline
import Derived.Lib.Hide
import Derived.Test.YteigfkncoiiaiaaGreatDoorProg
import Derived.Lib.AppendZeros
import Derived.Shelf.SlSortCmp.NoneTotal
import Derived.Lib.OwnBridge
import Derived.Laws.OwnMore
import Derived.Lib.BufferRead
import Derived.WalkSmall
import Derived.Shelf.SlSortCmp.Whole1
import Derived.Shelf.SlSortCmp.WholeK
import Derived.Shelf.SlGeneric
import Derived.Ground.SlsfProg
set_option linter.all false
set_option maxRecDepth 100000
namespace Go.Proofs.YteigfkncoiiaiaaGreatDoor.Sym
section
open Go.RowKit
def OkOc:Oc->Prop
 | .im x=>Ok x
 | .ow (.row _ _ es)=>OkL es
 | .ow (.grid _ _ _ gs _)=>gs.length<=17592186044416
 | .ow _=>True
def OkOcs:List Oc->Prop
 | []=>True
 | c::l=>OkOc c∧OkOcs l
def OkA:Arg->Prop
 | .im x=>Ok x
 | .ow k=>OkOc (.ow k)
 | .box _ cs=>OkOcs cs
 | .lent k=>OkOc (.ow k)
def OkAs:List Arg->Prop
 | []=>True
 | x::l=>OkA x∧OkAs l
theorem okOc_of {w:World} {S:Nat->Prop} {u:Value}:∀ {c:Oc} {F:List Nat},OcOk w S u c F->OkOc c
 | .im x,_,h=>⟨w,S,u,h.1⟩
 | .ow (.row _ _ es),_,⟨_,_,⟨ws,h1,h2,h3,h4,h5,h6,h7⟩,_⟩=>⟨h3,ok_flat h5 h7⟩
 | .ow (.grid _ _ _ gs _),_,⟨_,_,⟨_,_,_,h,_⟩,_⟩=>h
 | .ow (.map _),_,_=>trivial
 | .ow .dead,_,_=>trivial
 | .ow (.box _ _),_,_=>trivial
 | .ow (.que _ _ _),_,_=>trivial
theorem okOcs_of {w:World} {S:Nat->Prop}:∀ {us:List Value} {cs:List Oc} {F:List Nat},zmg w S us cs F->OkOcs cs
 | [],[],_,_=>trivial
 | _::_,_::_,_,⟨_,_,h1,h2,_⟩=>⟨okOc_of h1,okOcs_of h2⟩
 | [],_::_,_,h=>h.elim
 | _::_,[],_,h=>h.elim
theorem okA_of {w:World} {S:Nat->Prop} {u:Value}:∀ {x:Arg} {F:List Nat},ArgOk w S u x F->OkA x
 | .im x,_,h=>⟨w,S,u,h.1⟩
 | .ow k,_,h=>okOc_of (c:=.ow k) h
 | .box _ _,_,⟨_,_,_,_,_,_,h,_⟩=>okOcs_of h
 | .lent k,_,h=>okOc_of (c:=.ow k) h
theorem oks_of {w:World} {S:Nat->Prop}:∀ {us:List Value} {xs:List Arg} {F:List Nat},zea w S us xs F->OkAs xs
 | [],[],_,_=>trivial
 | _::_,_::_,_,⟨_,_,h1,h2,_⟩=>⟨okA_of h1,oks_of h2⟩
 | [],_::_,_,h=>h.elim
 | _::_,[],_,h=>h.elim
theorem zb6 {P:Program} {f:FuncId} {fn:Func} {c:Code} {xs:List Arg} {r:Rs} (hm:P.follows .mixedOrders=true) (own:List Nat) (hf:P.funcs[f]?=some fn) (hname:(fn.name=="runtime.NumGoroutine")=false) (hb:fn.body=some c)
  (hn:xs.length<=fn.ntmps) (hok:entOk xs=true) (h:OkAs xs->frcW (entW xs) 0 sig0 fun _ σ=>zkm P (SpX P) fn.ntmps own c (retK P fn.results.toList xs r) σ):Sp P f xs r :=
 sp_of_code hm (C:=SpX P) (fun _ _ _ h=>h) hf hname hb hn hok fun _ _ _ _ ha=>by
  have:=h (oks_of ha);rw [frcW_eq] at this;exact this
theorem sp_ofA {P:Program} {f:FuncId} {fn:Func} {c:Code} {xs:List Arg} {r:Rs} (hm:P.follows .mixedOrders=true) (own:List Nat) (t:TypeId) (l:List Oc) (k:Nat) (hl:l.length+k=xs.length) (hf:P.funcs[f]?=some fn) (hname:(fn.name=="runtime.NumGoroutine")=false) (hb:fn.body=some c)
  (hn:xs.length<=fn.ntmps) (hn2:k+1<=fn.ntmps) (hok:entOk xs=true) (h:OkAs xs->frcW (entW xs) 0 sig0 fun m σ=>frcW (entA l.length k σ) m σ fun _ σ'=>zkm P (SpX P) fn.ntmps own c (retKA P t fn.results.toList xs r) σ'):SpX P f (.lent .dead::.box t l::xs) r :=
 sp_ofA_code hm (C:=SpX P) (fun _ _ _ h=>h) hf hname hb hl hn hn2 hok fun _ _ _ _ ha=>by
  have:=h (oks_of ha);rw [frcW_eq,frcW_eq] at this;exact this
inductive FrzL:List Oc->List Oc->Prop
 | nil:FrzL [] []
 | keep (c:Oc) {l l':List Oc} (h:FrzL l l'):FrzL (c::l) (c::l')
 | row {e:TypeId} {k:Nat} {es:List (List IV)} {l l':List Oc} (h:FrzL l l'):FrzL (.ow (.row e k es)::l) (.im (.sl es)::l')
 | grid {e e':TypeId} {k:Nat} {gs:List (List IV)} {l l':List Oc} (h:FrzL l l'):FrzL (.ow (.grid e e' k gs none)::l) (.im (.sl gs)::l')
theorem RepI.up {w:World} {S S':Nat->Prop} (hS:∀ b,S b->S' b) {v:Value} {x:IV} (h:RepI w S v x):RepI w S' v x:=h.mono hS fun _ _ _ h=>h
theorem Sp.frz {P:Program} {g:FuncId} {xs:List Arg} {tp:Bool} {l l':List Oc} {ys:List Arg} (hl:FrzL l l') (h:Sp P g xs (.mk tp l ys)):Sp P g xs (.mk tp l' ys) :=
 ⟨h.1,fun w S vs F hS ha hn hF=>(h.2 w S vs F hS ha hn hF).mono fun e w' ⟨v,F',h1,h2,⟨us,F1,F2,h3,h4,h5,h6⟩,h7,h8⟩=>by
  subst h6
  rw [ybi] at h7
  -- the frozen blocks leave the footprint
  have hlt:∀ b∈F1,(w.heap.size<=b∨b∈F)∧b<w'.heap.size:=fun b hb=>h8 b (yam _ hb)
  have key:∀ (l l':List Oc),FrzL l l'->∀ (us:List Value) (F1:List Nat) (S:Nat->Prop),zmg w' S us l F1->F1.Nodup->∃ Fk,Fk.Sublist F1∧∀ (S':Nat->Prop),(∀ b,S b->S' b)->(∀ b∈F1,b∉Fk->S' b)->zmg w' S' us l' Fk:=by
   intro l l' hl
   induction hl with
   | nil =>
    intro us F1 S h _
    match us,h with
    | [],h=>exact ⟨[],List.nil_sublist _,fun _ _ _=>rfl⟩
   | keep c _ ih =>
    intro us F1 S h a0
    match us,h with
    | u::us,⟨G1,G2,h1,h2,h3⟩ =>
     subst h3
     rw [ybi] at a0
     obtain ⟨Fk,a1,a2⟩:=ih us G2 S h2 a0.2.1
     exact ⟨G1++Fk,List.Sublist.append_left a1 _,fun S' hS hF=>⟨G1,Fk,h1.mono fun u x hr=>hr.up hS,a2 S' hS fun b hb a3=>hF b (by simp [hb]) fun hm=>by
      rcases yak.1 hm with hm | hm
      ·exact a0.2.2 b hm b hb rfl
      ·exact a3 hm,rfl⟩⟩
   | row _ ih =>
    intro us F1 S h a0
    match us,h with
    | u::us,⟨G1,G2,⟨_,inn,h1,e1⟩,h2,h3⟩ =>
     subst h3
     rw [ybi] at a0
     obtain ⟨Fk,a1,a2⟩:=ih us G2 S h2 a0.2.1
     refine ⟨[]++Fk,(ycn Fk).symm ▸ a1.trans (ydj _ _),fun S' hS hF=>⟨[],Fk,⟨zhl.repI h1 (fun b hb=>?_) fun u x hr=>hr.up hS,rfl⟩,a2 S' hS fun b hb a3=>hF b (by simp [hb]) (by simpa using a3),rfl⟩⟩
     have a4:b∈G1:=by rw [e1];simp [fpk,hb]
     exact ⟨hF b (by simp [a4]) fun hm=>a0.2.2 b a4 b (a1.subset (by simpa using hm)) rfl,rfl⟩
   | grid _ ih =>
    intro us F1 S h a0
    match us,h with
    | u::us,⟨G1,G2,⟨_,inn,h1,e1⟩,h2,h3⟩ =>
     subst h3
     rw [ybi] at a0
     obtain ⟨Fk,a1,a2⟩:=ih us G2 S h2 a0.2.1
     refine ⟨[]++Fk,(ycn Fk).symm ▸ a1.trans (ydj _ _),fun S' hS hF=>⟨[],Fk,⟨zi2.repI h1 (fun b hb=>?_) fun u x hr=>hr.up hS,rfl⟩,a2 S' hS fun b hb a3=>hF b (by simp [hb]) (by simpa using a3),rfl⟩⟩
     have a4:b∈G1:=by rw [e1];exact hb
     exact ⟨hF b (by simp [a4]) fun hm=>a0.2.2 b a4 b (a1.subset (by simpa using hm)) rfl,rfl⟩
  obtain ⟨Fk,a1,a2⟩:=key l l' hl us F1 _ h4 h7.1
  have a5:∀ b,b∈Fk++F2->b∈F1++F2:=fun b hb=>by
   rcases yak.1 hb with hb | hb
   ·exact yam _ (a1.subset hb)
   ·exact yaj _ hb
  have a6:∀ b,((S b∨w.heap.size<=b∨b∈F)∧b<w'.heap.size∧b∉F1++F2)->((S b∨w.heap.size<=b∨b∈F)∧b<w'.heap.size∧b∉Fk++F2):=fun b hb=>⟨hb.1,hb.2.1,fun hm=>hb.2.2 (a5 b hm)⟩
  refine ⟨v,Fk++F2,h1,h2,⟨us,Fk,F2,h3,a2 _ a6 fun b hb a3=>⟨.inr (hlt b hb).1,(hlt b hb).2,fun hm=>?_⟩,h5.mono fun u x hr=>hr.up a6,rfl⟩,?_,fun b hb=>h8 b (a5 b hb)⟩
  ·rcases yak.1 hm with hm | hm
   ·exact a3 hm
   ·exact h7.2.2 b hb b hm rfl
  ·rw [ybi]
   exact ⟨a1.nodup h7.1,h7.2.1,fun x hx y hy=>h7.2.2 x (a1.subset hx) y hy⟩⟩
theorem Sp.im {P:Program} {g:FuncId} {xs:List Arg} {e:TypeId} {k:Nat} {es:List (List IV)} (h:Sp P g xs (.row e k es)):Sp P g xs (.im (.sl es)):=Sp.frz (.row .nil) h
theorem Sp.args {P:Program} {g:FuncId} {xs ys:List Arg} {r:Rs} (h:Sp P g xs r) (e:ys=xs):Sp P g ys r:=e ▸ h
abbrev cI (x:Int):List IV:=[.val (.int .i64 x)]
abbrev cB (x:Bool):List IV:=[.val (.bool x)]
abbrev cL {α:Type} (c:α->List IV) (l:List α):List IV:=[.sl (l.map c)]
abbrev nI (n:Int):IV:=.val (.int .i64 n)
abbrev nB (b:Bool):IV:=.val (.bool b)
abbrev nS (s:ByteArray):IV:=.val (.string s)
abbrev nL {α:Type} (c:α->List IV) (l:List α):IV:=.sl (l.map c)
instance (n:Int):Decidable (inR n):=by unfold inR;infer_instance
instance (n b:Nat):Decidable (zaz n b):=by unfold zaz;infer_instance
def fuel:Nat:=1000000000000000000000
section
variable {α β:Type}
def chk (c:Prop) [Decidable c] (k:Option α):Option α:=if c then k else none
def idx (l:List α) (n:Int) (k:α->Option β):Option β:=if 0<=n then (match l[n.toNat]? with | some x=>k x | none=>none) else none
theorem zan {c:Prop} [Decidable c] {k:Option α} {r:α} (h:chk c k=some r):c∧k=some r:=by
 unfold chk at h;split at h
 ·exact ⟨‹_›,h⟩
 ·cases h
theorem zau {l:List α} {n:Int} {k:α->Option β} {r:β} (h:idx l n k=some r):∃ x,0<=n∧l[n.toNat]?=some x∧k x=some r:=by
 unfold idx at h;split at h
 ·split at h
  ·rename_i x hx;exact ⟨x,‹_›,hx,h⟩
  ·cases h
 ·cases h
theorem bind_some {o:Option α} {f:α->Option β} {r:β} (h:o.bind f=some r):∃ x,o=some x∧f x=some r:=by
 cases o with
 | none=>cases h
 | some x=>exact ⟨x,rfl,h⟩
theorem zb8 {Y Z R:Type} {f:Y->Option R} {g:Z->Option R} {y:Y} {r:R} (h:Sum.elim f g (.inl y)=some r):f y=some r:=h
theorem zbm {b:Bool} {x y z:α} (hb:b=true) (h:cond b x y=z):x=z:=by rw [hb] at h;exact h
theorem zbk {b:Bool} {x y z:α} (hb:b=false) (h:cond b x y=z):y=z:=by rw [hb] at h;exact h
def idxn (l:List α) (n:Nat) (k:α->Option β):Option β:=match l[n]? with | some x=>k x | none=>none
theorem zae {l:List α} {n:Nat} {k:α->Option β} {r:β} (h:idxn l n k=some r):∃ x,l[n]?=some x∧k x=some r:=by
 unfold idxn at h;split at h
 ·rename_i x hx;exact ⟨x,hx,h⟩
 ·cases h
theorem zc1 {b:Bool} (h:(b==true)=true):b=true:=by cases b<;>simp_all
theorem zcz {b:Bool} (h:(b==true)=false):b=false:=by cases b<;>simp_all
theorem zdc {b:Bool} (h:(b==false)=true):b=false:=by cases b<;>simp_all
theorem zdd {b:Bool} (h:(b==false)=false):b=true:=by cases b<;>simp_all
theorem zbj {b:Bool} (h:b=true):(b==true)=true:=by rw [h];rfl
theorem zbr {b:Bool} (h:b=false):(b==false)=true:=by rw [h];rfl
theorem zdb {b:Bool} (h:b=true):(b==false)=false:=by rw [h];rfl
theorem zdi {b:Bool} (h:b=false):(b==true)=false:=by rw [h];rfl
theorem zah {l:List α} {c:α->β} {i:Nat} {x:α} (h:l[i]?=some x):(l.map c)[i]?=some (c x):=by rw [yaf,h];rfl
theorem za4 {l:List α} {c:α->β} {i:Nat} {x:α} (h:l[i]?=some x):i<(l.map c).length:=by
 rw [zkK];exact (zkI.1 h).1
theorem zca {l:List α} {c:α->List β} {k:Nat} (h:∀ x,(c x).length=k):∀ e∈l.map c,e.length=k:=fun e he=>by
 obtain ⟨x,_,rfl⟩:=yao.1 he;exact h x
theorem zai {l:List α} {c:α->β}:l.length=(l.map c).length:=(zkK _).symm
theorem zb9 {l m:List α} {c:α->β}:(l++m).map c=l.map c++m.map c:=ya9
theorem take_map {l:List α} {c:α->β} {n:Nat}:(l.take n).map c=((l.map c).take n).drop 0:=by rw [yfh];rfl
theorem drop_map {l:List α} {c:α->β} {n:Nat}:(l.drop n).map c=((l.map c).take ((l.map c).length:Int).toNat).drop n:=by rw [List.map_drop,yah,ybp]
theorem zdq {l:List α} {c:α->List β} {i:Nat} {x y:α} {j:Nat} {xs:List β} (h:c y=splice (c x) j xs):(l.set i y).map c=(l.map c).set i (splice (c x) j xs):=by rw [ye8,h]
end
abbrev wI (n:Int):Value:=.int .i64 n
abbrev wB (b:Bool):Value:=.bool b
abbrev wS (s:ByteArray):Value:=.string s
section
variable {κ ν:Type}
def mapV (f:κ->Value) (g:ν->Value) (m:List (κ×ν)):List (Value×Value):=m.map fun p=>(f p.1,g p.2)
def mget [BEq κ] (k:κ):List (κ×ν)->Option ν
 | []=>none
 | p::m=>match k==p.1 with | true=>some p.2 | false=>mget k m
def mset [BEq κ] (k:κ) (v:ν):List (κ×ν)->List (κ×ν)
 | []=>[(k,v)]
 | p::m=>match k==p.1 with | true=>(k,v)::m | false=>p::mset k v m
theorem find_str (k:ByteArray) (g:ν->Value):∀ m:List (ByteArray×ν),findV .string (.string k) (mapV wS g m)=some ((mget k m).map g)
 | []=>rfl
 | p::m=>by
  have ih:=find_str k g m;unfold mapV at ih ⊢;rw [ya1];unfold findV mget;simp only [Instr.sameNow];cases k==p.1 with
  | true=>rfl
  | false=>exact ih
theorem find_int (k:Int) (g:ν->Value):∀ m:List (Int×ν),findV (.int .i64) (.int .i64 k) (mapV wI g m)=some ((mget k m).map g)
 | []=>rfl
 | p::m=>by
  have ih:=find_int k g m;unfold mapV at ih ⊢;rw [ya1];unfold findV mget;simp only [Instr.sameNow,if_true];cases k==p.1 with
  | true=>rfl
  | false=>exact ih
theorem set_str (k:ByteArray) (v:ν) (g:ν->Value):∀ m:List (ByteArray×ν),setV .string (.string k) (g v) (mapV wS g m)=some (mapV wS g (mset k v m))
 | []=>rfl
 | p::m=>by
  have ih:=set_str k v g m;unfold mapV at ih ⊢;rw [ya1];unfold setV mset;simp only [Instr.sameNow];cases k==p.1 with
  | true=>rfl
  | false=>simp only [ih];rfl
theorem set_int (k:Int) (v:ν) (g:ν->Value):∀ m:List (Int×ν),setV (.int .i64) (.int .i64 k) (g v) (mapV wI g m)=some (mapV wI g (mset k v m))
 | []=>rfl
 | p::m=>by
  have ih:=set_int k v g m;unfold mapV at ih ⊢;rw [ya1];unfold setV mset;simp only [Instr.sameNow,if_true];cases k==p.1 with
  | true=>rfl
  | false=>simp only [ih];rfl
theorem get_arr (ks:yab) (g:ν->Value):∀ m:List (yab×ν),getA ks (m.map fun p=>(p.1,g p.2))=(mget ks m).map g
 | []=>rfl
 | p::m=>by
  rw [ya1];unfold getA mget;rw [show (ks==p.1)=decide (ks=p.1) from by rw [yeq];simp];simp only;cases decide (ks=p.1) with
  | true=>rfl
  | false=>exact get_arr ks g m
theorem set_arr (ks:yab) (v:ν) (g:ν->Value):∀ m:List (yab×ν),setA ks (g v) (m.map fun p=>(p.1,g p.2))=(mset ks v m).map fun p=>(p.1,g p.2)
 | []=>rfl
 | p::m=>by
  rw [ya1];unfold setA mset;rw [show (ks==p.1)=decide (ks=p.1) from by rw [yeq];simp];simp only;cases decide (ks=p.1) with
  | true=>rfl
  | false=>simp only [set_arr ks v g m];rfl
def cA (l:yab):List IV:=l.map fun c=>.val (.int .i64 c)
theorem flat_cA {l:yab}:cA l=(l.map cI).flatten:=by
 induction l with
 | nil=>rfl
 | cons c l ih=>rw [ya1,ybc,<- ih];rfl
theorem len_mapV {κ ν:Type} {f:κ->Value} {g:ν->Value} {m:List (κ×ν)}:m.length=(mapV f g m).length:=(zkK _).symm
theorem keys_arr {n:Nat} {cs:List IV} {ks:yab} {g:ν->Value} {m:List (yab×ν)} (hc:cs=ks.map fun c=>.val (.int .i64 c)) (hn:ks.length=n∧∀ p∈m,p.1.length=n):KeysA n cs (mapV wA g m) ks (m.map fun p=>(p.1,g p.2)) :=
 ⟨hc,hn.1,by unfold mapV;rw [List.map_map];rfl,fun p hp=>by obtain ⟨q,hq,rfl⟩:=yao.1 hp;exact hn.2 q hq⟩
theorem mapA_set (g:ν->Value) (m:List (yab×ν)):mapV wA g m=(m.map fun p=>(p.1,g p.2)).map fun p=>(wA p.1,p.2):=by unfold mapV;rw [List.map_map];rfl
theorem getD_map {g:ν->Value} {d:ν} {z:Value} (h:g d=z) (o:Option ν):g (o.getD d)=(o.map g).getD z:=by cases o<;>simp [h]
theorem zt7 {g:ν->Value} (o:Option ν):o.isSome=(o.map g).isSome:=by cases o<;>rfl
theorem clr_map {α β:Type} {c:α->β} {z:α} {e:β} {l:List α} {k:Nat} (hc:c z=e):(l.take k++List.replicate (l.length-k) z).map c=(l.map c).take k++List.replicate ((l.map c).length-k) e:=by rw [ya9,yfh,List.map_replicate,zkK,hc]
theorem cut_own {α β:Type} {c:α->β} {l:List α} {k:Nat}:(l.take k).map c=(l.map c).take k:=yfh
theorem len_own {α β:Type} {c:α->β} {l:List α} {k:Nat}:l.length-k=(l.map c).length-k:=by rw [zkK]
theorem zfn {α β:Type} {c:α->β} {z:α} {e:β} {n m:Nat} (h:n=m) (hc:c z=e):(List.replicate n z).map c=List.replicate m e:=by rw [List.map_replicate,h,hc]
end
theorem flat_one {v:Value}:flatRs (.mk false [.im (.val v)] []):=⟨fun c hc=>by rcases yar.1 hc with rfl;exact ⟨v,rfl⟩,fun y hy=>by cases hy⟩
theorem zap {α:Type} {c:α->List IV} {l:List α} (h:Ok (.sl (l.map c))):l.length<=17592186044416:=by have:=h.sl.1;rwa [zkK] at this
theorem okl_len {α:Type} {c:α->List IV} {l:List α} (h:OkL (l.map c)):l.length<=17592186044416:=by have:=h.1;rwa [zkK] at this
theorem Holds.avl {σ:St} {α:Type} {c:α->List IV} {l:List α} (t:Nat) (h:σ.av t=.im (.sl (l.map c))):Holds σ (l.length<=17592186044416):=(Holds.av t h).mono zap
theorem Holds.cel {σ:St} {α:Type} {c:α->List IV} {l:List α} (o i:Nat) {t:TypeId} {m:Nat} (hk:σ.kd o=.box t m) (hi:i<m) (h:σ.ce o i=.im (.sl (l.map c))):Holds σ (l.length<=17592186044416):=(Holds.ce o i hk hi h).mono zap
theorem set_grid1 {α:Type} {c:α->List IV} {g:List (List α)} {i:Nat} {r:List α}:(g.set i r).map (cL c)=(g.map (cL c)).set i [.sl (r.map c)]:=by rw [ye8]
theorem zhs {α:Type} {c:α->List IV} {g:List (List α)} {i j k:Nat} {ev:List α} {x y:α} {xs:List IV} (h:c y=splice (c x) k xs):(g.set i (ev.set j y)).map (cL c)=(g.map (cL c)).set i [.sl ((ev.map c).set j (splice (c x) k xs))]:=by
 rw [<- h,ye8];show (g.map (cL c)).set i [.sl ((ev.set j y).map c)]=_;rw [ye8]
theorem Holds.kdg {σ:St} {α:Type} {c:α->List IV} {l:List α} (o:Nat) {e e':TypeId} {k:Nat} {q:Option Nat} (hk:σ.kd o=.grid e e' k (l.map c) q):Holds σ (l.length<=17592186044416):=fun B a w ⟨ρ,hs⟩=>by
 have ho:=hs.obs o;rw [hk] at ho;obtain ⟨_,_,us,h,_⟩:=ho;simpa using h
theorem Holds.kdql {σ:St} {α:Type} {c:α->List IV} {l:List α} (o:Nat) {t:TypeId} {k:Nat} (hk:σ.kd o=.que t k (l.map c)):Holds σ (l.length<=17592186044416):=(Holds.kdq o hk).mono okl_len
theorem Holds.kdl {σ:St} {α:Type} {c:α->List IV} {l:List α} (o:Nat) {t:TypeId} {k:Nat} (hk:σ.kd o=.row t k (l.map c)):Holds σ (l.length<=17592186044416):=(Holds.kd o hk).mono okl_len
def zdo {Y Z:Type} (oc:Y⊕Z) (st:Y->St) (σ':St):Prop:=∃ y,oc=.inl y∧Ent σ' (st y)
theorem Cut.mkS {Y Z:Type} (oc:Y⊕Z) (st:Y->St) (φ:Y->Prop) {body:(St->Prop)->Prop} {rest:St->Prop} (hφ:∀ y,Holds (st y) (φ y)) (h:body (zdo oc st)) (k:∀ y,oc=.inl y->φ y->rest (st y)):Cut body rest:=by
 unfold Cut;have e:zdo oc st=fun σ'=>∃ σ1,Ent σ' σ1∧∃ y,oc=.inl y∧σ1=st y:=funext fun σ'=>propext ⟨fun ⟨y,h1,h2⟩=>⟨_,h2,y,h1,rfl⟩,fun ⟨σ1,h1,y,h2,h3⟩=>⟨y,h2,h3 ▸ h1⟩⟩;rw [e] at h;refine ⟨fun σ1=>∃ y,oc=.inl y∧σ1=st y,h,?_⟩;rintro σ ⟨y,h1,rfl⟩;exact ⟨φ y,hφ y,k y h1⟩
attribute [irreducible] zdo
theorem zdo.mk' {Y Z:Type} {oc:Y⊕Z} {st:Y->St} {σ':St} (y:Y) (h:oc=.inl y) (e:Ent σ' (st y)):zdo oc st σ':=by unfold zdo;exact ⟨y,h,e⟩
abbrev zlA:=@bind_some
abbrev zlB:=@Side.mk
abbrev zlC:=@Both.mk
abbrev zlD:=@Both.yes
abbrev zlE:=@Both.no
abbrev zlF:=@Nf.mk
abbrev zlG:=@Join.mk
abbrev zlH:=@Holds.avl
abbrev zlI:=@Ok.agg_at
abbrev zlJ:=@Cut.mkS
abbrev zlK:=@Nxt.mk
end
section
open Go.RowKit
set_option linter.unusedVariables false
set_option maxHeartbeats 4000000
structure zaa where
 Inputs:Int
 Start:Int
 Next:yaa
 Out:yaa
 deriving DecidableEq
def zad (s:zaa):List IV:=[nI s.Inputs,nI s.Start,nL (cL cI) s.Next,nL (cL cI) s.Out]
structure zoj where
 Step:yab
 Reset:Int
 deriving DecidableEq
structure zpk where
 Lost:Int
 Wrong:Int
 Crash:Int
 deriving DecidableEq
structure zif where
 M:zaa
 State:Int
 Ready:Bool
 Latency:zoj
 Faults:zpk
 Seed:Int
 Steps:Int
 Resets:Int
 Time:Int
 deriving DecidableEq
structure zab where
 In:yab
 Out:yab
 deriving DecidableEq
def zag (s:zab):List IV:=[nL cI s.In,nL cI s.Out]
structure zar where
 Inputs:Int
 Traces:List zab
 deriving DecidableEq
def zb0 (s:zar):List IV:=[nI s.Inputs,nL zag s.Traces]
structure T_api_Oracle where
 Device:zif
 Obs:zar
 Votes:Int
 Tries:Int
 Asked:Int
 Hits:Int
 deriving DecidableEq
structure zrb where
 Inputs:Int
 Prefixes:yaa
 Suffixes:yaa
 deriving DecidableEq
structure T_api_Baseline where
 M:zaa
 Words:yaa
 deriving DecidableEq
structure T_api_Report where
 Run:Int
 Changes:List zab
 deriving DecidableEq
structure zpi where
 Inputs:Int
 Abstract:Int
 Start:Int
 Next:yaa
 Sym:yaa
 deriving DecidableEq
structure T_api_Clash where
 Word:yab
 First:Int
 Second:Int
 deriving DecidableEq
structure T_api_Hyp where
 M:zaa
 Access:yaa
 deriving DecidableEq
structure zac where
 Inputs:Int
 Start:Int
 Next:yaa
 Out:yaa
 deriving DecidableEq
def zat (s:zac):List IV:=[nI s.Inputs,nI s.Start,nL (cL cI) s.Next,nL (cL cI) s.Out]
structure ztu where
 Inputs:Int
 Short:yaa
 Suffixes:yaa
 deriving DecidableEq
structure T_api_Split where
 Prefix:yab
 Symbol:Int
 Suffix:yab
 deriving DecidableEq
structure T_learnerlaw28_Case where
 M:zaa
 O:zar
 L:ztu
 S:T_api_Split
 deriving DecidableEq
structure T_learnerlaw35_Parts where
 P:zac
 W:yab
 S:Int
 T:Int
 Out:Int
 deriving DecidableEq
structure zrr where
 Mealy:zaa
 deriving DecidableEq
structure T_mealy_runner where
 machine:zrr
 at_:Int
 deriving DecidableEq
structure T_api_Mutation where
 Kind:Int
 State:Int
 Input:Int
 Value:Int
 Value2:Int
 deriving DecidableEq
structure T_regress_runner where
 m:zaa
 report:T_api_Report
 deriving DecidableEq
structure T_table_view where
 rows:List (yaa)
 zjp:yab
 next:yaa
 number:List (ByteArray×Int)
 deriving DecidableEq
structure T_refine_reached where
 m:zaa
 states:yab
 words:yaa
 class_:yab
 deriving DecidableEq
structure T_mapper_set where
 list:yab
 word:yab
 deriving DecidableEq
structure T_mapper_builder where
 m:zaa
 p:zpi
 sets:List T_mapper_set
 of:List (ByteArray×Int)
 deriving DecidableEq
structure T_evidence_candidate where
 score:Int
 blue:Int
 red:Int
 deriving DecidableEq
structure T_lazy_reader where
 l:ztu
 o:zar
 missing:yaa
 long:Bool
 deriving DecidableEq
structure T_nondet_group where
 word:yab
 before:yab
 least:yab
 deriving DecidableEq
structure T_device_unit where
 Device:zif
 deriving DecidableEq
structure zdl where
 s:Int
 t:Int
 deriving DecidableEq
def zh8 (s:zdl):List IV:=[nI s.s,nI s.t]
structure T_mapper_runner where
 Mapper:zpi
 state:Int
 deriving DecidableEq
structure za6 where
 state:Int
 word:yab
 deriving DecidableEq
def zd2 (s:za6):List IV:=[nI s.state,nL cI s.word]
structure T_A2 where
 f0:Int
 f1:Int
 deriving DecidableEq
def c_A2 (s:T_A2):List IV:=[nI s.f0,nI s.f1]
structure zbd where
 up:List (Int×Int)
 deriving DecidableEq
structure zbc where
 at_:zdl
 word:yab
 deriving DecidableEq
def zev (s:zbc):List IV:=[nI s.at_.s,nI s.at_.t,nL cI s.word]
structure T_A2_api_Mealy where
 f0:zaa
 f1:zaa
 deriving DecidableEq
structure T_learnerref09_Pair where
 S:Int
 T:Int
 Word:yab
 deriving DecidableEq
structure T_api_DNode where
 Leaf:Bool
 Access:yab
 Suffix:yab
 Outs:yaa
 Kids:yab
 deriving DecidableEq
structure T_api_DTree where
 Nodes:List T_api_DNode
 deriving DecidableEq
structure zrz where
 Inputs:Int
 Tree:T_api_DTree
 deriving DecidableEq
structure T_treelearn_learner where
 TreeState:zrz
 o:zar
 deriving DecidableEq
structure T_analyze_subject where
 h:T_api_Hyp
 o:zar
 w:yab
 states:yab
 outs:yab
 deriving DecidableEq
structure T_treelearn_extension where
 w:yab
 node:Int
 deriving DecidableEq
end
end Go.Proofs.YteigfkncoiiaiaaGreatDoor.Sym
namespace Go.Proofs.YteigfkncoiiaiaaGreatDoor
section
open Go.ChangeShapes Go.WideShapes Go.ChangeAt Go.RowKit
theorem Tryz.own:ownKnob Tryz.prog.godebug=none:=by kernel_rfl
theorem Tryz.laidOut:laidOutB Tryz.prog=true:=by kernel_rfl
noncomputable def laidWorld (os:Os):World :=
 let w0:=World.holding Tryz.prog os ⟨#[],#[],[]⟩
 let h0:=w0.heap
 let h1:=h0.modify 0 fun
   | .cells _ t frozen=>.cells #[.int .u64 1,.int .u64 10,.int .u64 100,.int .u64 1000,.int .u64 10000,.int .u64 100000,.int .u64 1000000,.int .u64 10000000,.int .u64 100000000,.int .u64 1000000000,.int .u64 10000000000,.int .u64 100000000000,.int .u64 1000000000000,.int .u64 10000000000000,.int .u64 100000000000000,.int .u64 1000000000000000,.int .u64 10000000000000000,.int .u64 100000000000000000,.int .u64 1000000000000000000,.int .u64 10000000000000000000] t frozen
   | o=>o
 let h2:=h1.modify 1 fun
   | .cells _ t frozen=>.cells #[.int .u8 0,.int .u8 1,.int .u8 28,.int .u8 2,.int .u8 29,.int .u8 14,.int .u8 24,.int .u8 3,.int .u8 30,.int .u8 22,.int .u8 20,.int .u8 15,.int .u8 25,.int .u8 17,.int .u8 4,.int .u8 8,.int .u8 31,.int .u8 27,.int .u8 13,.int .u8 23,.int .u8 21,.int .u8 19,.int .u8 16,.int .u8 7,.int .u8 26,.int .u8 12,.int .u8 18,.int .u8 6,.int .u8 11,.int .u8 5,.int .u8 10,.int .u8 9] t frozen
   | o=>o
 let h3:=h2.modify 2 fun
   | .cells _ t frozen=>.cells #[.int .u8 0,.int .u8 1,.int .u8 56,.int .u8 2,.int .u8 57,.int .u8 49,.int .u8 28,.int .u8 3,.int .u8 61,.int .u8 58,.int .u8 42,.int .u8 50,.int .u8 38,.int .u8 29,.int .u8 17,.int .u8 4,.int .u8 62,.int .u8 47,.int .u8 59,.int .u8 36,.int .u8 45,.int .u8 43,.int .u8 51,.int .u8 22,.int .u8 53,.int .u8 39,.int .u8 33,.int .u8 30,.int .u8 24,.int .u8 18,.int .u8 12,.int .u8 5,.int .u8 63,.int .u8 55,.int .u8 48,.int .u8 27,.int .u8 60,.int .u8 41,.int .u8 37,.int .u8 16,.int .u8 46,.int .u8 35,.int .u8 44,.int .u8 21,.int .u8 52,.int .u8 32,.int .u8 23,.int .u8 11,.int .u8 54,.int .u8 26,.int .u8 40,.int .u8 15,.int .u8 34,.int .u8 20,.int .u8 31,.int .u8 10,.int .u8 25,.int .u8 14,.int .u8 19,.int .u8 9,.int .u8 13,.int .u8 8,.int .u8 7,.int .u8 6] t frozen
   | o=>o
 { w0 with heap:=h3 }
end
end Go.Proofs.YteigfkncoiiaiaaGreatDoor
namespace Go.Proofs.YteigfkncoiiaiaaGreatDoor.Sym
section
open Go.ChangeShapes Go.WideShapes Go.ChangeAt Go.RowKit Go.Deep
section
variable {H:Type} {enc:TypeId×Value->H} {W:World} {α β:Type}
theorem bulk_pos (d:DataW H):1<=Rows.uptoBulk d:=by
 cases d with
 | lit l=>cases l<;>simp [Rows.uptoBulk]
 | nil=>simp [Rows.uptoBulk]
 | ptr d=>simp [Rows.uptoBulk]
 | slice elems spare=>simp [Rows.uptoBulk]
 | agg parts=>simp [Rows.uptoBulk]
 | iface t d=>simp [Rows.uptoBulk]
 | map entries=>simp [Rows.uptoBulk]
 | held h=>simp [Rows.uptoBulk]
theorem bulk_mem {d:DataW H} {l:List (DataW H)} (h:d∈l):Rows.uptoBulk d<=Rows.uptoBulkAll l:=by
 induction l with
 | nil=>cases h
 | cons x r ih =>
  simp only [Rows.uptoBulkAll];rcases yba.1 h with e | e
  ·subst e;omega
  ·have:=ih e;omega
theorem zqy (l r:List (DataW H)):Rows.uptoBulkAll (l++r)=Rows.uptoBulkAll l+Rows.uptoBulkAll r:=by
 induction l with
 | nil=>simp [Rows.uptoBulkAll]
 | cons x l ih=>simp only [yc5,Rows.uptoBulkAll,ih];omega
theorem bulk_length (l:List (DataW H)):l.length<=Rows.uptoBulkAll l:=by
 induction l with
 | nil=>simp [Rows.uptoBulkAll]
 | cons x r ih=>have:=bulk_pos x;simp only [Rows.uptoBulkAll,zkL];omega
theorem bulk_small {l:List (DataW H)} (hk:Rows.uptoSmall H l=true):Rows.uptoBulkAll l<=1048576:=by
 simpa [Rows.uptoSmall] using hk
def lowS (W:World):Nat->Prop:=fun b=>b<W.heap.size
def Opn (W:World) (enc:TypeId×Value->H) (t:TypeId) (c:α->List IV) (sz:α->Nat) (ok:α->Prop):Prop :=
 ∀ (fuel:Nat) (cs:List Value) (d:DataW H) (ps:List MemPlace),DataW.trod enc Tryz.prog W 0 (fun _=>true) true fuel t cs=some (d,ps)->Rows.uptoBulk d<=1048576 ->
  ∃ x,ziw W (lowS W) cs (c x)∧(∀ u∈cs,u.oneCell'=true)∧sz x<=Rows.uptoBulk d∧ok x
def sz1 {α:Type} (_:α):Nat:=1
def szL (sz:α->Nat) (l:List α):Nat:=(l.map sz).sum+1
def okL (ok:α->Prop) (l:List α):Prop:=∀ x∈l,ok x
def okT {α:Type} (_:α):Prop:=True
theorem opn_int:Opn W enc 3 cI sz1 inR:=by
 intro fuel cs d ps h hd;cases fuel with
 | zero=>simp [DataW.trod] at h
 | succ f =>
  unfold DataW.trod at h;rw [Tryz.underlying3] at h;split at h<;>try (cases h;done)
  all_goals (try (rename_i e;cases e;done))
  rename_i k k' n e;injection e with e
  injection e with e
  subst e;split at h
  ·rename_i hw;injection h with h
   injection h with h1 h2
   subst h1;obtain ⟨rfl,hw⟩:=hw;refine ⟨n,⟨rfl,fun i u x hu hx=>?_⟩,fun u hu=>?_,by simp [sz1,Rows.uptoBulk],?_⟩
   ·match i,hu,hx with
    | 0,hu,hx =>
     simp at hu hx;subst hu hx;exact .val _
   ·rcases yar.1 hu with rfl;rfl
   ·simp [Lit.wf,IntKind.min,IntKind.max,IntKind.wrap,IntKind.bits,IntKind.signed] at hw;unfold inR;omega
  ·cases h
theorem opn_elems {t:TypeId} {c:α->List IV} {sz:α->Nat} {ok:α->Prop} {k b o:Nat} (hc:∀ x,(c x).length=k) (D:Nat->DataW H):∀ (n:Nat),
  (∀ i,i<n->∃ (x:α) (cs:List Value),(∀ j,j<k->W.cell? ⟨b,o+(i*k+j),none⟩=cs[j]?)∧ziw W (lowS W) cs (c x)∧(∀ u∈cs,u.oneCell'=true)∧sz x<=Rows.uptoBulk (D i)∧ok x) ->
  ∃ (xs:List α) (us:List Value),xs.length=n∧us.length=n*k∧(∀ (i:Nat) u,us[i]?=some u->W.cell? ⟨b,o+i,none⟩=some u)∧ziw W (lowS W) us (xs.map c).flatten∧(∀ u∈us,u.oneCell'=true) ∧
   (xs.map sz).sum<=Rows.uptoBulkAll ((List.range n).map D)∧∀ x∈xs,ok x
 | 0,_=>⟨[],[],rfl,by simp,by simp,⟨rfl,by simp⟩,by simp,by simp,by simp⟩
 | n+1,h=>by
  obtain ⟨xs,us,h1,h2,h3,h4,h5,h6,h7⟩:=opn_elems (t:=t) hc D n fun i hi=>h i (by omega);obtain ⟨x,cs,g1,g2,g3,g4,g5⟩:=h n (by omega);have hcl:cs.length=k:=by rw [g2.1,hc]
  have a2:(xs.map c).flatten.length=n*k:=by rw [<- h4.1,h2]
  refine ⟨xs++[x],us++cs,by simp [h1],by rw [zkJ,h2,hcl,Nat.add_mul];omega,fun i u hu=>?_,⟨?_,fun i u y hu hy=>?_⟩,fun u hu=>?_,?_,fun y hy=>?_⟩
  ·rw [ya0] at hu;split at hu
   ·exact h3 i u hu
   ·rename_i a0;have hj:=(zkI.1 hu).1;have:=g1 (i-us.length) (by omega);rw [hu,show o+(n*k+(i-us.length))=o+i by omega] at this;exact this
  ·rw [ya9,ycs,zkJ,zkJ,h4.1];simp [g2.1]
  ·rw [ya9,ycs,ya0] at hy;rw [ya0] at hu;by_cases a0:i<us.length
   ·rw [if_pos a0] at hu;rw [if_pos (by rw [a2,<- h2];exact a0)] at hy;exact h4.2 i u y hu hy
   ·rw [if_neg a0] at hu;rw [if_neg (by rw [a2,<- h2];exact a0),a2,<- h2] at hy;simp only [ya1,ye6,ybc,ycx,ybq] at hy;exact g2.2 _ u y hu hy
  ·rcases yak.1 hu with hu | hu
   ·exact h5 u hu
   ·exact g3 u hu
  ·rw [ydh,ya9,ya9,List.sum_append,zqy];simp only [ya1,ye6,List.sum_cons,List.sum_nil,Rows.uptoBulkAll];omega
  ·rcases yak.1 hy with hy | hy
   ·exact h7 y hy
   ·rcases yar.1 hy with rfl;exact g5
theorem opn_slice {t e:TypeId} {c:α->List IV} {sz:α->Nat} {ok:α->Prop} {k:Nat} (ht:Tryz.prog.underlying t=some (.slice e)) (hk:Tryz.prog.cellsOf e=k) (hk0:0<k) (hc:∀ x,(c x).length=k) (O:Opn W enc e c sz ok) :
  Opn W enc t (cL c) (szL sz) (okL ok):=by
 intro fuel cs d ps h hd;rcases open_slice ht h with ⟨rfl,hx⟩ | ⟨a,len,b5,m,n,D,Pl,rfl,_,hl,_,hm,hx,a2⟩
 ·injection hx with a3 b3
  subst a3;refine ⟨[],⟨rfl,fun i u x hu hx=>?_⟩,fun u hu=>?_,by simp [szL,Rows.uptoBulk],fun x hx=>by cases hx⟩
  ·match i,hu,hx with
   | 0,hu,hx =>
    simp at hu hx;subst hu hx;exact .emp _ _
  ·rcases yar.1 hu with rfl;rfl
 ·injection hx with a3 b3
  subst a3;simp only [if_true] at hm;subst hm
  have b2:Rows.uptoBulkAll ((List.range len).map D)+1<=Rows.uptoBulk (.slice ((List.range len).map D) ((List.range (m-len)).map fun j=>D (len+j))):=by
   simp only [Rows.uptoBulk];omega
  have b4:len<=1048576:=by
   have:=bulk_length ((List.range len).map D);simp at this;omega
  by_cases h0:len=0
  ·subst h0;refine ⟨[],⟨rfl,fun i u x hu hx=>?_⟩,fun u hu=>?_,by simp [szL,Rows.uptoBulk],fun x hx=>by cases hx⟩
   ·match i,hu,hx with
    | 0,hu,hx =>
     simp at hu hx;subst hu hx;exact .emp _ _
   ·rcases yar.1 hu with rfl;rfl
  ·obtain ⟨ab,ao,a6⟩:=a;rw [hk] at a2
   have a7:a6=none:=by
    obtain ⟨a5,h1,_⟩:=a2 0 (by omega);obtain ⟨_,a9,a0⟩:=World.cells?_some h1;have h2:=a0 0 hk0;rw [zkM (by omega)] at h2;unfold World.cell? Addr.add at h2;simp only [ycv,if_true] at h2;cases a6 with
    | none=>rfl
    | some q =>
     simp at h2;split at h2<;>simp at h2
   subst a7
   obtain ⟨xs,us,h1,h2,h3,h4,h5,h6,h7⟩:=opn_elems (W:=W) (t:=e) (sz:=sz) (ok:=ok) (b:=ab) (o:=ao) hc D len fun i hi=>by
    obtain ⟨a5,e1,e2⟩:=a2 i (by omega);obtain ⟨_,a9,a0⟩:=World.cells?_some e1;obtain ⟨x,r1,r2,r3,r4⟩:=O _ _ _ _ e2 (ych (bulk_mem (yao.2 ⟨i,ya8.2 hi,rfl⟩)) (by omega));refine ⟨x,a5,fun j hj=>?_,r1,r2,r3,r4⟩;have:=a0 j hj;rw [addr_add,addr_add,yb4] at this;exact this
   have a4:ab<W.heap.size:=by
    have a8:0<us.length:=by rw [h2];exact Nat.mul_pos (by omega) hk0
    exact World.block_lt_of_cell? W _ (h3 0 _ (zkM a8))
   refine ⟨xs,⟨rfl,fun i u x hu hx=>?_⟩,fun u hu=>?_,?_,h7⟩
   ·match i,hu,hx with
    | 0,hu,hx =>
     simp at hu hx;subst hu hx;refine .sl ab ao m k len (xs.map c) us (by simp [h1]) (fun e he=>by obtain ⟨y,_,rfl⟩:=yao.1 he;exact hc y) hl (by omega) a4 h4.1 h5 h3 h4.2
   ·rcases yar.1 hu with rfl;rfl
   ·show (xs.map sz).sum+1<=_;omega
def OpnFs (W:World) (enc:TypeId×Value->H) (fs:List Field) (off len:Nat) (c:α->List IV) (sz:α->Nat) (ok:α->Prop):Prop :=
 ∀ (n:Nat) (cs:List Value) (xs:List (DataW H×List MemPlace)),xs.length=fs.length ->
  (∀ (i:Nat) f,fs[i]?=some f->DataW.trod enc Tryz.prog W 0 (fun _=>true) true n f.type ((cs.drop f.offset).take (Tryz.prog.cellsOf f.type))=xs[i]?)->Rows.uptoBulkAll (xs.map (·.1))<=1048576 ->
  ∃ x,ziw W (lowS W) ((cs.drop off).take len) (c x)∧(∀ u∈(cs.drop off).take len,u.oneCell'=true)∧sz x<=Rows.uptoBulkAll (xs.map (·.1))∧ok x
theorem opnFs_nil {off:Nat}:OpnFs W enc [] off 0 (fun _:Unit=>[]) (fun _=>0) okT:=by
 intro n cs xs hx h hb;exact ⟨(),⟨by simp,by simp⟩,by simp,yag _,trivial⟩
theorem zmb {f:Field} {fs:List Field} {off k len:Nat} {c1:α->List IV} {c2:β->List IV} {s1:α->Nat} {s2:β->Nat} {ok1:α->Prop} {ok2:β->Prop} (ho:f.offset=off) (hk:Tryz.prog.cellsOf f.type=k)
  (O:Opn W enc f.type c1 s1 ok1) (hc:∀ x,(c1 x).length=k) (R:OpnFs W enc fs (off+k) len c2 s2 ok2) :
  OpnFs W enc (f::fs) off (k+len) (fun p:α×β=>c1 p.1++c2 p.2) (fun p=>s1 p.1+s2 p.2) (fun p=>ok1 p.1∧ok2 p.2):=by
 intro n cs xs hx h hb
 match xs,hx with
 | x::xs,hx =>
  have e0:=h 0 f rfl;rw [ho,hk] at e0;simp only [ya1,Rows.uptoBulkAll] at hb;obtain ⟨a,r1,r2,r3,r4⟩:=O n _ x.1 x.2 e0 (by omega)
  obtain ⟨b,q1,q2,q3,q4⟩:=R n cs xs (by simpa using hx) (fun i g hg=>by
   have:=h (i+1) g (by simpa using hg)
   simpa using this) (by omega)
  have a0:(cs.drop off).take (k+len)=(cs.drop off).take k++(cs.drop (off+k)).take len:=by
   rw [List.take_add,List.drop_drop]
  have a3:((cs.drop off).take k).length=(c1 a).length:=r1.1;refine ⟨(a,b),?_,fun u hu=>?_,by simp only [ya1,Rows.uptoBulkAll];omega,r4,q4⟩
  ·rw [a0];refine ⟨by rw [zkJ,zkJ,r1.1,q1.1],fun i u y hu hy=>?_⟩;rw [ya0,a3] at hu;rw [ya0] at hy;split at hu
   ·rename_i a2;rw [if_pos a2] at hy;exact r1.2 i u y hu hy
   ·rename_i a2;rw [if_neg a2] at hy;exact q1.2 _ u y hu hy
  ·rw [a0] at hu;rcases yak.1 hu with hu | hu
   ·exact r2 u hu
   ·exact q2 u hu
theorem opn_struct {t:TypeId} {fs:Array Field} {len:Nat} {c:α->List IV} {sz:α->Nat} {ok:α->Prop} {c':β->List IV} {sz':β->Nat} {ok':β->Prop} (ht:Tryz.prog.underlying t=some (.struct fs)) (hl:Tryz.prog.cellsOf t=len)
  (R:OpnFs W enc fs.toList 0 len c sz ok) (conv:α->β) (hc:∀ p,c' (conv p)=c p) (hs:∀ p,sz' (conv p)=sz p+1) (ho:∀ p,ok p->ok' (conv p)):Opn W enc t c' sz' ok':=by
 intro fuel cs d ps h hd;obtain ⟨xs,n,rfl,hx,a0,a3,hf⟩:=DataW.trod_struct ht h;injection hx with a2 a4
 subst a2;simp only [Rows.uptoBulk] at hd;obtain ⟨x,r1,r2,r3,r4⟩:=R n cs xs (by rw [a3];simp) (fun i f hi=>hf i f (by simpa using hi)) (by omega);rw [hl] at a0;have e:(cs.drop 0).take len=cs:=by rw [yew,<- a0,ybp]
 rw [e] at r1 r2;refine ⟨conv x,by rw [hc];exact r1,r2,?_,ho x r4⟩;rw [hs];simp only [Rows.uptoBulk];omega
theorem arg_struct {t:TypeId} {fs:Array Field} {v:Value} {d:DataW H} {p:List MemPlace} {base:Nat} {c:α->List IV} {sz:α->Nat} {ok:α->Prop} (ht:Tryz.prog.underlying t=some (.struct fs)) (hv:Value.okWide Tryz.prog W .any base t v)
  (h:DataW.Trod enc Tryz.prog W 0 (fun _=>true) true t v d p) (O:Opn W enc t c sz ok) (hb:Rows.uptoBulk d<=1048576):∃ x,RepI W (lowS W) v (.agg (c x))∧sz x<=Rows.uptoBulk d∧ok x:=by
 obtain ⟨cs,rfl,_⟩:=okWide_struct ht hv;obtain ⟨fuel,hf⟩:=h;obtain ⟨x,r1,r2,r3,r4⟩:=O fuel cs.toList d p (by simpa [Value.cells] using hf) hb;refine ⟨x,?_,r3,r4⟩;have:=RepI.agg (w:=W) (S:=lowS W) cs.toList (c x) r1.1 r2 r1.2;simpa using this
theorem arg_slice {t e:TypeId} {v:Value} {d:DataW H} {p:List MemPlace} {base:Nat} {c:α->List IV} {sz:List α->Nat} {ok:List α->Prop} (ht:Tryz.prog.underlying t=some (.slice e)) (hv:Value.okWide Tryz.prog W .any base t v)
  (h:DataW.Trod enc Tryz.prog W 0 (fun _=>true) true t v d p) (O:Opn W enc t (cL c) sz ok) (hb:Rows.uptoBulk d<=1048576):∃ x,RepI W (lowS W) v (nL c x)∧sz x<=Rows.uptoBulk d∧ok x:=by
 obtain ⟨a,l,cp,rfl⟩:=okWide_slice ht hv;obtain ⟨fuel,hf⟩:=h;obtain ⟨x,r1,r2,r3,r4⟩:=O fuel [.slice a l cp] d p (by simpa [Value.cells] using hf) hb;exact ⟨x,r1.2 0 _ _ rfl rfl,r3,r4⟩
theorem sp_law {f:FuncId} {W:World} {vs:List Value} {xs:List Arg} (h:Sp Tryz.prog f xs (.im (nB true))) (ha:zea W (lowS W) vs xs []) :
  Calls Tryz.prog f vs.toArray W fun e W'=>e=.returned (.bool true)∧Below W.heap.size W W':=by
 refine (h.2 W (lowS W) vs [] (fun b hb=>hb) ha ycz (fun b hb=>by cases hb)).mono ?_;rintro e W' ⟨v,F',rfl,hb,⟨us,F1,F2,e1,ho,_,_⟩,_,_⟩;have e1:us=[v]:=e1;subst e1;refine ⟨?_,hb.below fun b hb=>by cases hb⟩;obtain ⟨F3,F4,⟨hr,_⟩,_⟩:=ho;cases hr;rfl
end
end
section
open Go.RowKit
section
variable {H:Type} {enc:TypeId×Value->H} {W:World}
theorem opn_0:Opn W enc 25 (cL cI) (szL sz1) (okL inR):=opn_slice (k:=1) Tryz.underlying25 (by kernel_rfl) (by decide) (fun _=>rfl) opn_int
theorem opn_1:Opn W enc 22 (cL (cL cI)) (szL (szL sz1)) (okL (okL inR)):=opn_slice (k:=1) Tryz.underlying22 (by kernel_rfl) (by decide) (fun _=>rfl) opn_0
def zpq (x:zaa):Nat:=(sz1 x.Inputs+(sz1 x.Start+((szL (szL sz1)) x.Next+((szL (szL sz1)) x.Out+0))))+1
def zpt (x:zaa):Prop:=inR x.Inputs∧inR x.Start∧(okL (okL inR)) x.Next∧(okL (okL inR)) x.Out
theorem opn_api_Mealy:Opn W enc 37 zad zpq zpt :=
 opn_struct (len:=4) Tryz.underlying37 (by kernel_rfl) (zmb (k:=1) rfl (by kernel_rfl) opn_int (fun _=>rfl) (zmb (k:=1) rfl (by kernel_rfl) opn_int (fun _=>rfl) (zmb (k:=1) rfl (by kernel_rfl) opn_1 (fun _=>rfl) (zmb (k:=1) rfl (by kernel_rfl) opn_1 (fun _=>rfl) opnFs_nil)))) (fun p=>⟨p.1,p.2.1,p.2.2.1,p.2.2.2.1⟩) (fun _=>rfl) (fun _=>rfl) (fun p h=>⟨h.1,h.2.1,h.2.2.1,h.2.2.2.1⟩)
end
end
end Go.Proofs.YteigfkncoiiaiaaGreatDoor.Sym
namespace Go.Proofs.YteigfkncoiiaiaaGreatDoor
section
def za7:List Int->List Int->Nat
 | x::xs,y::ys=>if x=y then za7 xs ys+1 else 0
 | _,_=>0
theorem zi3:∀ xs ys:List Int,za7 xs ys<=xs.length∧za7 xs ys<=ys.length
 | [],_=>by simp [za7]
 | _::_,[]=>by simp [za7]
 | x::xs,y::ys=>by
  have h:=zi3 xs ys;simp only [za7];split<;>simp<;>omega
theorem zop {xs ys:List Int} {k:Nat} (h:xs.length<=k∨ys.length<=k):za7 (xs.drop k) (ys.drop k)=0:=by
 rcases h with h | h
 ·rw [List.drop_eq_nil_of_le h];simp [za7]
 ·rw [List.drop_eq_nil_of_le h];cases xs.drop k<;>simp [za7]
theorem zjo:∀ xs:List Int,za7 xs xs=xs.length
 | []=>rfl
 | x::xs=>by simp [za7,zjo xs]
theorem zrf:∀ xs ys:List Int,za7 xs ys=xs.length->za7 xs ys=ys.length->xs=ys
 | [],[],_,_=>rfl
 | [],y::ys,_,h=>by simp [za7] at h
 | x::xs,[],h,_=>by simp [za7] at h
 | x::xs,y::ys,h1,h2=>by
  simp only [za7] at h1 h2;split at h1
  ·rename_i he;subst he;simp at h1 h2;rw [zrf xs ys h1 h2]
  ·simp at h1
theorem same_iff (xs ys:List Int):(xs.length=ys.length∧za7 xs ys=xs.length)↔xs=ys:=by
 constructor
 ·rintro ⟨h1,h2⟩;exact zrf xs ys h2 (by omega)
 ·rintro rfl;exact ⟨rfl,zjo xs⟩
theorem zlv:∀ w p:List Int,za7 w p=p.length↔p <+: w
 | [],[]=>by simp [za7]
 | [],y::ys=>by simp [za7]
 | x::xs,[]=>by simp [za7]
 | x::xs,y::ys=>by
  simp only [za7,List.length_cons,List.cons_prefix_cons];by_cases h:x=y
  ·subst h;simp [zlv xs ys]
  ·rw [if_neg h];constructor
   ·intro h';omega
   ·rintro ⟨rfl,_⟩;exact absurd rfl h
def lexI:List Int->List Int->Int
 | [],[]=>0
 | [],_::_=>-1
 | _::_,[]=>1
 | x::xs,y::ys=>if x<y then -1 else if y<x then 1 else lexI xs ys
def cmpW (a b:List Int):Int:=if a.length<b.length then -1 else if b.length<a.length then 1 else lexI a b
theorem zhm:∀ a b:List Int,lexI a b=-1∨lexI a b=0∨lexI a b=1
 | [],[]=>by simp [lexI]
 | [],_::_=>by simp [lexI]
 | _::_,[]=>by simp [lexI]
 | x::xs,y::ys=>by
  simp only [lexI];split
  ·simp
  ·split
   ·simp
   ·exact zhm xs ys
theorem zld:∀ a b:List Int,lexI a b=0↔a=b
 | [],[]=>by simp [lexI]
 | [],_::_=>by simp [lexI]
 | _::_,[]=>by simp [lexI]
 | x::xs,y::ys=>by
  simp only [lexI,List.cons.injEq];by_cases h1:x<y
  ·rw [if_pos h1];constructor
   ·intro h;omega
   ·rintro ⟨rfl,_⟩;omega
  ·rw [if_neg h1];by_cases h2:y<x
   ·rw [if_pos h2];constructor
    ·intro h;omega
    ·rintro ⟨rfl,_⟩;omega
   ·rw [if_neg h2,zld xs ys];constructor
    ·intro h;exact ⟨by omega,h⟩
    ·rintro ⟨_,h⟩;exact h
theorem lexI_refl (a:List Int):lexI a a=0:=(zld a a).2 rfl
theorem zk8:∀ a b:List Int,lexI b a=- lexI a b
 | [],[]=>by simp [lexI]
 | [],_::_=>by simp [lexI]
 | _::_,[]=>by simp [lexI]
 | x::xs,y::ys=>by
  simp only [lexI];by_cases h1:x<y
  ·rw [if_neg (show ¬ y<x by omega),if_pos h1,if_pos h1];simp
  ·by_cases h2:y<x
   ·rw [if_pos h2,if_neg h1,if_pos h2]
   ·rw [if_neg h2,if_neg h1,if_neg h1,if_neg h2];exact zk8 xs ys
theorem zl7:∀ a b c:List Int,lexI a b=-1->lexI b c=-1->lexI a c=-1
 | [],[],_,h,_=>by simp [lexI] at h
 | [],_::_,[],_,h=>by simp [lexI] at h
 | [],_::_,_::_,_,_=>by simp [lexI]
 | _::_,[],_,h,_=>by simp [lexI] at h
 | _::_,_::_,[],_,h=>by simp [lexI] at h
 | x::xs,y::ys,z::zs,h1,h2=>by
  simp only [lexI] at h1 h2 ⊢;by_cases p:x<y
  ·by_cases q:y<z
   ·rw [if_pos (by omega)]
   ·rw [if_neg q] at h2;by_cases r:z<y
    ·rw [if_pos r] at h2;omega
    ·rw [if_pos (by omega)]
  ·rw [if_neg p] at h1;by_cases p':y<x
   ·rw [if_pos p'] at h1;omega
   ·rw [if_neg p'] at h1;by_cases q:y<z
    ·rw [if_pos (by omega)]
    ·rw [if_neg q] at h2;by_cases r:z<y
     ·rw [if_pos r] at h2;omega
     ·rw [if_neg r] at h2;rw [if_neg (by omega),if_neg (by omega)];exact zl7 xs ys zs h1 h2
theorem zqw:∀ a b:List Int,lexI a b =
  if za7 a b=a.length∧za7 a b=b.length then 0 else
  if za7 a b=a.length∨(za7 a b<b.length∧a.getD (za7 a b) 0<b.getD (za7 a b) 0) then -1 else 1
 | [],[]=>by simp [lexI,za7]
 | [],_::_=>by simp [lexI,za7]
 | _::_,[]=>by simp [lexI,za7]
 | x::xs,y::ys=>by
  have ih:=zqw xs ys;simp only [lexI,za7];by_cases h:x=y
  ·subst h;rw [if_neg (by omega),if_neg (by omega),ih];simp
  ·by_cases h1:x<y
   ·simp [h,h1]
   ·have h2:y<x:=by omega
    simp [h,h1,h2]
theorem zl1 (a b:List Int):cmpW a b=-1∨cmpW a b=0∨cmpW a b=1:=by
 unfold cmpW;split
 ·simp
 ·split
  ·simp
  ·exact zhm a b
theorem zn1 (a b:List Int):cmpW a b=0↔a=b:=by
 unfold cmpW;by_cases h1:a.length<b.length
 ·rw [if_pos h1];constructor
  ·intro h;omega
  ·rintro rfl;omega
 ·rw [if_neg h1];by_cases h2:b.length<a.length
  ·rw [if_pos h2];constructor
   ·intro h;omega
   ·rintro rfl;omega
  ·rw [if_neg h2,zld]
theorem znz (a:List Int):cmpW a a=0:=(zn1 a a).2 rfl
theorem zof (a b:List Int):cmpW b a=- cmpW a b:=by
 unfold cmpW;by_cases h1:a.length<b.length
 ·rw [if_neg (by omega),if_pos h1,if_pos h1];simp
 ·by_cases h2:b.length<a.length
  ·rw [if_pos h2,if_neg h1,if_pos h2]
  ·rw [if_neg h2,if_neg h1,if_neg h1,if_neg h2];exact zk8 a b
theorem zl6 (a b c:List Int) (h1:cmpW a b=-1) (h2:cmpW b c=-1):cmpW a c=-1:=by
 unfold cmpW at *;by_cases p:a.length<b.length
 ·by_cases q:b.length<c.length
  ·rw [if_pos (by omega)]
  ·rw [if_neg q] at h2;by_cases r:c.length<b.length
   ·rw [if_pos r] at h2;omega
   ·rw [if_pos (by omega)]
 ·rw [if_neg p] at h1;by_cases p':b.length<a.length
  ·rw [if_pos p'] at h1;omega
  ·rw [if_neg p'] at h1;by_cases q:b.length<c.length
   ·rw [if_pos (by omega)]
   ·rw [if_neg q] at h2;by_cases r:c.length<b.length
    ·rw [if_pos r] at h2;omega
    ·rw [if_neg r] at h2;rw [if_neg (by omega),if_neg (by omega)];exact zl7 a b c h1 h2
def Asc (l:List (List Int)):Prop:=l.Pairwise fun a b=>cmpW a b=-1
def zhj (l:List (List Int)):Nat:=l.foldl (fun n w=>max n w.length) 0
theorem foldl_max_le (l:List (List Int)):∀ n b:Nat,(l.foldl (fun n w=>max n w.length) n<=b↔n<=b∧∀ x∈l,x.length<=b):=by
 induction l with
 | nil=>intro n b;simp
 | cons y l ih =>
  intro n b;rw [List.foldl_cons,ih];simp only [List.forall_mem_cons];constructor
  ·rintro ⟨h1,h2⟩;exact ⟨by omega,by omega,h2⟩
  ·rintro ⟨h1,h2,h3⟩;exact ⟨by omega,h3⟩
theorem longestL_le (l:List (List Int)) (b:Nat):zhj l<=b↔∀ x∈l,x.length<=b:=by
 rw [zhj,foldl_max_le];simp
def zf4 (l:List (List Int)) (w:List Int):Nat:=(l.takeWhile fun x=>cmpW x w==-1).length
def zgl (xs:List Int) (inputs:Int):Int :=
 if 1<=inputs∧inputs<=1024 then if 1024<xs.length then 3 else if xs.all fun a=>decide (0<=a∧a<inputs) then 0 else 1 else 2
theorem Asc.get {l:List (List Int)} (h:Asc l) {i j:Nat} {x y:List Int} (hij:i<j) (hx:l[i]?=some x) (hy:l[j]?=some y):cmpW x y=-1:=by
 have hj:j<l.length:=(List.getElem?_eq_some_iff.1 hy).1;have h1:=List.pairwise_iff_getElem.1 h i j (by omega) hj hij;rw [List.getElem?_eq_getElem (by omega)] at hx;rw [List.getElem?_eq_getElem hj] at hy;injection hx with hx
 injection hy with hy
 rw [<- hx,<- hy];exact h1
def insW (l:List (List Int)) (x:List Int):List (List Int):=if x∈l then l else l.take (zf4 l x)++x::l.drop (zf4 l x)
theorem zqs:∀ (l:List (List Int)) (w:List Int),(∀ i x,i<zf4 l w->l[i]?=some x->cmpW x w=-1)∧(∀ x,l[zf4 l w]?=some x->cmpW x w≠-1)
 | [],w=>by simp [zf4]
 | y::l,w=>by
  have ih:=zqs l w;by_cases hy:cmpW y w=-1
  ·have e:zf4 (y::l) w=zf4 l w+1:=by simp [zf4,hy]
   rw [e];refine ⟨fun i x hi hx=>?_,fun x hx=>ih.2 x (by simpa using hx)⟩;cases i with
   | zero=>simp at hx;rw [<- hx];exact hy
   | succ i=>exact ih.1 i x (by omega) (by simpa using hx)
  ·have e:zf4 (y::l) w=0:=by simp [zf4,hy]
   rw [e];refine ⟨fun i x hi=>absurd hi (by omega),fun x hx=>?_⟩;simp at hx;rw [<- hx];exact hy
theorem mem_insW (l:List (List Int)) (x y:List Int):y∈insW l x↔y∈l∨y=x:=by
 unfold insW;split
 ·rename_i h;constructor
  ·exact Or.inl
  ·rintro (h' | rfl)
   ·exact h'
   ·exact h
 ·have e:y∈l↔y∈l.take (zf4 l x)∨y∈l.drop (zf4 l x):=by
   rw [<- List.mem_append,List.take_append_drop]
  rw [List.mem_append,List.mem_cons,e];constructor
  ·rintro (h | h | h)
   ·exact Or.inl (Or.inl h)
   ·exact Or.inr h
   ·exact Or.inl (Or.inr h)
  ·rintro ((h | h) | h)
   ·exact Or.inl h
   ·exact Or.inr (Or.inr h)
   ·exact Or.inr (Or.inl h)
theorem Asc.insW {l:List (List Int)} (h:Asc l) (x:List Int):Asc (insW l x):=by
 unfold Go.Proofs.YteigfkncoiiaiaaGreatDoor.insW;split
 ·exact h
 ·rename_i hm;have hs:=zqs l x
  have a0:∀ a∈l.take (zf4 l x),cmpW a x=-1:=fun a ha=>by
   obtain ⟨i,hi⟩:=List.getElem?_of_mem ha;rw [List.getElem?_take] at hi;split at hi
   ·rename_i a4;exact hs.1 i a a4 hi
   ·cases hi
  have a2:∀ b∈l.drop (zf4 l x),cmpW x b=-1:=fun b hb=>by
   obtain ⟨i,hi⟩:=List.getElem?_of_mem hb;rw [List.getElem?_drop] at hi;have a5:zf4 l x+i<l.length:=(List.getElem?_eq_some_iff.1 hi).1;have hg:l[zf4 l x]?=some l[zf4 l x]:=List.getElem?_eq_getElem (by omega);have h0:=hs.2 _ hg;have a6:cmpW l[zf4 l x] x≠0:=fun e=>hm (by rw [<- (zn1 _ _).1 e];exact List.getElem_mem _);have hr:=zl1 l[zf4 l x] x;have h1:cmpW x l[zf4 l x]=-1:=by rw [zof];omega
   by_cases a3:i=0
   ·subst a3;rw [Nat.add_zero,hg] at hi;injection hi with hi
    rw [<- hi];exact h1
   ·exact zl6 _ _ _ h1 (h.get (by omega) hg hi)
  unfold Asc;rw [List.pairwise_append,List.pairwise_cons];refine ⟨List.Pairwise.sublist (List.take_sublist _ _) h,⟨a2,List.Pairwise.sublist (List.drop_sublist _ _) h⟩,fun a ha b hb=>?_⟩;rcases List.mem_cons.1 hb with rfl | hb
  ·exact a0 a ha
  ·exact zl6 _ _ _ (a0 a ha) (a2 b hb)
theorem insW_length (l:List (List Int)) (x:List Int):(insW l x).length<=l.length+1:=by
 unfold insW;split
 ·omega
 ·simp;omega
theorem asc_nil:Asc []:=List.Pairwise.nil
theorem zo6:∀ {l m:List (List Int)},Asc l->Asc m->(∀ x,x∈l↔x∈m)->l=m
 | [],[],_,_,_=>rfl
 | [],y::m,_,_,h=>absurd ((h y).2 (by simp)) (by simp)
 | x::l,[],_,_,h=>absurd ((h x).1 (by simp)) (by simp)
 | x::l,y::m,hl,hm,h=>by
  have h1:=List.pairwise_cons.1 hl;have h2:=List.pairwise_cons.1 hm
  have hxy:x=y:=by
   rcases List.mem_cons.1 ((h x).1 (by simp)) with e | hx
   ·exact e
   ·rcases List.mem_cons.1 ((h y).2 (by simp)) with e | hy
    ·exact e.symm
    ·have a:=h2.1 x hx;have b:=h1.1 y hy;rw [zof] at a;omega
  subst hxy
  have a0:∀ {k:List (List Int)},(∀ b∈k,cmpW x b=-1)->x∉k:=fun hk hx=>by
   have:=hk x hx;rw [znz] at this;omega
  rw [zo6 h1.2 h2.2 fun z=>?_];have:=h z;simp only [List.mem_cons] at this;constructor
  ·intro hz;rcases this.1 (Or.inr hz) with rfl | h'
   ·exact absurd hz (a0 h1.1)
   ·exact h'
  ·intro hz;rcases this.2 (Or.inr hz) with rfl | h'
   ·exact absurd hz (a0 h2.1)
   ·exact h'
def sortW (l:List (List Int)):List (List Int):=l.foldl insW []
theorem zly:∀ (l a:List (List Int)),Asc a->Asc (l.foldl insW a)∧(∀ x,x∈l.foldl insW a↔x∈a∨x∈l)∧(l.foldl insW a).length<=a.length+l.length
 | [],a,h=>⟨h,fun x=>by simp,by simp⟩
 | y::l,a,h=>by
  obtain ⟨h1,h2,h3⟩:=zly l (insW a y) (h.insW y);refine ⟨h1,fun x=>?_,?_⟩
  ·rw [List.foldl_cons,h2,mem_insW,List.mem_cons,or_assoc]
  ·have:=insW_length a y;rw [List.foldl_cons,List.length_cons];omega
theorem zfq (l:List (List Int)):Asc (sortW l):=(zly l [] asc_nil).1
theorem zb3 (l:List (List Int)) (x:List Int):x∈sortW l↔x∈l:=by
 rw [sortW,(zly l [] asc_nil).2.1 x];simp
theorem zeq (l:List (List Int)):(sortW l).length<=l.length:=by
 have:=(zly l [] asc_nil).2.2;simpa [sortW] using this
end
section
open Go.RowKit
def Keeps (w w':World):Prop:=∀ p u,w.cell? p=some u->w'.cell? p=some u
theorem Keeps.of_below {w w':World} (h:Below w.heap.size w w'):Keeps w w':=fun p _ hu =>
 (h.cell (p:=p) (World.block_lt_of_cell? w p hu)).trans hu
def zgk {α:Type} (w:World) (R:Value->α->Prop) (A:Option Addr) (n c:Nat) (l:List α):Prop :=
 l.length=n∧n<=c∧n<=17592186044416 ∧
  (0<n->∃ b o,A=some ⟨b,o,none⟩∧∀ i x,l[i]?=some x->∃ u,w.cell? ⟨b,o+i,none⟩=some u∧R u x)
def zmw (u:Value) (x:Int):Prop:=u=.int .i64 x
section
variable {α:Type} {w w':World} {R R':Value->α->Prop} {A:Option Addr} {n c k:Nat} {l:List α}
theorem zgk.len (h:zgk w R A n c l):l.length=n:=h.1
theorem zgk.small (h:zgk w R A n c l):n<=17592186044416:=h.2.2.1
theorem zgk.keep (h:zgk w R A n c l) (hk:Keeps w w') (hR:∀ u x,R u x->R' u x):zgk w' R' A n c l :=
 ⟨h.1,h.2.1,h.2.2.1,fun hn=>by
  obtain ⟨b,o,e,hc⟩:=h.2.2.2 hn
  refine ⟨b,o,e,fun i x hx=>?_⟩
  obtain ⟨u,hu,hr⟩:=hc i x hx
  exact ⟨u,hk _ _ hu,hR _ _ hr⟩⟩
theorem zgk.at_ (h:zgk w R A n c l) (hk:k<n):∃ b o u x,A=some ⟨b,o,none⟩∧l[k]?=some x∧w.cell? ⟨b,o+k,none⟩=some u∧R u x:=by
 obtain ⟨b,o,e,hc⟩:=h.2.2.2 (by omega);have hl:k<l.length:=by rw [h.1];exact hk
 obtain ⟨u,hu,hr⟩:=hc k l[k] (List.getElem?_eq_getElem hl);exact ⟨b,o,u,l[k],e,List.getElem?_eq_getElem hl,hu,hr⟩
end
theorem zgk.int_at {w:World} {A:Option Addr} {n c k:Nat} {xs:List Int} (h:zgk w zmw A n c xs) (hk:k<n) :
  ∃ b o x,A=some ⟨b,o,none⟩∧xs[k]?=some x∧w.cell? ⟨b,o+k,none⟩=some (.int .i64 x):=by
 obtain ⟨b,o,u,x,e,hx,hu,rfl⟩:=h.at_ hk;exact ⟨b,o,x,e,hx,hu⟩
theorem zim {k:IntKind} {a b:Int} (h:a=b):Ending.returned (.int k a)=.returned (.int k b):=by rw [h]
theorem zgk.kept {α:Type} {w w':World} {R:Value->α->Prop} {A:Option Addr} {n c:Nat} {l:List α} (h:zgk w R A n c l) (hk:Keeps w w'):zgk w' R A n c l:=h.keep hk fun _ _ h=>h
theorem zcy {α:Type} {l:List α} {k:Nat} {x:α} (hl:l[k]?=some x):l.take (k+1)=l.take k++[x]:=by
 rw [List.take_add_one,hl];rfl
theorem zih {α:Type} {l:List α} {k:Nat} {x d:α} (h:l[k]?=some x):l.getD k d=x:=by simp [List.getD_eq_getElem?_getD,h]
end
section
open Go.RowKit
theorem Tryz.infoInt:(Tryz.prog.info? 3).map (fun i=>(i.zero,i.size,i.bytes))=some (some (.int .i64 0),1,8):=by kernel_rfl
theorem Tryz.infoWord:(Tryz.prog.info? 25).map (fun i=>(i.zero,i.size,i.bytes))=some (some (.slice none 0 0),1,24):=by kernel_rfl
theorem addr_add (b o j:Nat):(⟨b,o,none⟩:Addr).add j=⟨b,o+j,none⟩:=by
 unfold Addr.add;split
 ·rename_i h;subst h;rfl
 ·rfl
def Src (w:World) (A:Option Addr) (m:Nat) (news:List Value):Prop :=
 news.length=m∧(0<m->∃ b o,A=some ⟨b,o,none⟩∧∀ j u,news[j]?=some u->w.cell? ⟨b,o+j,none⟩=some u)
section
variable {P:Program} {w:World}
theorem zst (base:Nat) (t ty e:TypeId) (i:TypeInfo) (z:Value) (bytes:Nat) (ht:P.underlying t=some (.slice e)) (hi:P.info? e=some i) (hz:i.zero=some z)
  (hsize:i.size=1) (hby:i.bytes=bytes) (hzs:z.cells.size=1) (v:Value) (n:Nat) (xs:List Value) (hown:w.ownsRow base e 1 v n xs)
  (A:Option Addr) (m c:Nat) (news:List Value) (hs:Src w A m news) (h1:∀ u∈news,u.oneCell'=true)
  (a2:n+m<=maxLen) (hbytes:(n+m)*bytes<=140737488355328) (hbase:base<=w.heap.size) :
  ∃ v' w',(Builtin.append_ #[t,t] ty #[v,.slice A m c]).run P w=.ok v' w'∧w'.ownsRow base e 1 v' (n+m) (xs++news)∧w.grownBy w' v.ownBlock ∧
   (v'.ownBlock=v.ownBlock∨v'.ownBlock=some w.heap.size):=by
 obtain ⟨hl,hc⟩:=hs;cases A with
 | none =>
  have hm:m=0:=by
   rcases Nat.eq_zero_or_pos m with h0 | h0
   ·exact h0
   ·obtain ⟨b,o,h,_⟩:=hc h0;cases h
  subst hm;have hn:news=[]:=List.eq_nil_of_length_eq_zero hl;subst hn;refine ⟨v,w,?_,by simpa using hown,World.grownBy.refl w _,.inl rfl⟩;rcases hown.2 with ⟨rfl,rfl⟩ | ⟨g,a6,cur,rfl,_,_,a4,_⟩
  ·simp [Builtin.append_,run_underlying ht,sizeOf,typeInfo,hi,Builtin.lenOf,Builtin.firstCells]
  ·simp [Builtin.append_,run_underlying ht,sizeOf,typeInfo,hi,Builtin.lenOf,Builtin.firstCells,a4,storeCells]
 | some ad =>
  have a0:∀ j u,news[j]?=some u->w.cell? (ad.add j)=some u:=by
   intro j u hu;rcases Nat.eq_zero_or_pos m with h0 | h0
   ·subst h0;have hn:news=[]:=List.eq_nil_of_length_eq_zero hl;subst hn;simp at hu
   ·obtain ⟨b,o,h,a5⟩:=hc h0;injection h with h
    subst h;rw [addr_add];exact a5 j u hu
  obtain ⟨v',w',a3,h2,h3,_,h5⟩:=run_append_own_at (P:=P) w base t ty e i z 1 bytes ht hi hz hsize hby hzs (by omega) v n xs hown ad m c news (by omega) a0 h1 a2 hbytes hbase;exact ⟨v',w',a3,h2,h3,h5⟩
theorem wp_append_row {o:Oper} {a:Act} {K:Act->World->Prop} {Q:Exit->Act->World->Prop} (s x:Operand) (t:TypeId)
  (ho:o.op=.call { callee:=.builtin .append,args:=#[s,x],argTypes:=#[t,t] })
  (base:Nat) (e:TypeId) (i:TypeInfo) (z:Value) (bytes:Nat) (ht:P.underlying t=some (.slice e)) (hi:P.info? e=some i) (hz:i.zero=some z)
  (hsize:i.size=1) (hby:i.bytes=bytes) (hzs:z.cells.size=1) (v:Value) (n:Nat) (xs:List Value) (hs:a.eval s=v) (hown:w.ownsRow base e 1 v n xs)
  (A:Option Addr) (m c:Nat) (news:List Value) (hx:a.eval x=.slice A m c) (hsrc:Src w A m news) (h1:∀ u∈news,u.oneCell'=true)
  (a2:n+m<=maxLen) (hbytes:(n+m)*bytes<=140737488355328) (hbase:base<=w.heap.size)
  (h:∀ v' w',w'.ownsRow base e 1 v' (n+m) (xs++news)->w.grownBy w' v.ownBlock->(v'.ownBlock=v.ownBlock∨v'.ownBlock=some w.heap.size)->K (a.put o.dst v') w'):o.wp P a w K Q:=by
 obtain ⟨v',w',a0,h2,h3,h4⟩:=zst (P:=P) base t o.type e i z bytes ht hi hz hsize hby hzs v n xs hown A m c news hsrc h1 a2 hbytes hbase;unfold Oper.wp execOp;simp only [ho,resolve,invoke,builtin,Sem.run_bind,Sem.run_pure,Result.andThen_ok,List.map_toArray,List.map_cons,List.map_nil,hs,hx,a0];exact h v' w' h2 h3 h4
theorem zgy {ops:Array Oper} {rest:List Oper} {o:Oper} {a:Act} {Q:Exit->Act->World->Prop} (hgd:o.guard=none) (s x:Operand) (t:TypeId)
  (ho:o.op=.call { callee:=.builtin .append,args:=#[s,x],argTypes:=#[t,t] })
  (base:Nat) (e:TypeId) (i:TypeInfo) (z:Value) (bytes:Nat) (ht:P.underlying t=some (.slice e)) (hi:P.info? e=some i) (hz:i.zero=some z)
  (hsize:i.size=1) (hby:i.bytes=bytes) (hzs:z.cells.size=1) (v:Value) (n:Nat) (xs:List Value) (hs:a.eval s=v) (hown:w.ownsRow base e 1 v n xs)
  (A:Option Addr) (m c:Nat) (news:List Value) (hx:a.eval x=.slice A m c) (hsrc:Src w A m news) (h1:∀ u∈news,u.oneCell'=true)
  (a2:n+m<=maxLen) (hbytes:(n+m)*bytes<=140737488355328) (hbase:base<=w.heap.size)
  (h:∀ v' w',w'.ownsRow base e 1 v' (n+m) (xs++news)->w.grownBy w' v.ownBlock->(v'.ownBlock=v.ownBlock∨v'.ownBlock=some w.heap.size)->wpList P ops Q rest (a.put o.dst v') w') :
  wpList P ops Q (o::rest) a w :=
 wpList_plain hgd fun _ hK=>wp_append_row s x t ho base e i z bytes ht hi hz hsize hby hzs v n xs hs hown A m c news hx hsrc h1 a2 hbytes hbase fun v' w' h2 h3 h4=>hK _ _ (h v' w' h2 h3 h4)
end
theorem zf0 {w w':World} (hg:w.grownBy w' none):Keeps w w':=fun _ _ hu=>hg.cell hu (by simp)
theorem ztg {w w':World} (h:Below w.heap.size w w'):w.grownBy w' none:=⟨h.os,h.tape,h.output,h.size,fun k hk _=>h.block k hk⟩
theorem zm1 {w w':World} {row:Option Nat} (hg:w.grownBy w' row) {B:Nat} (hB:B<=w.heap.size) (hr:∀ g,row=some g->B<=g):Below B w w':=(Below.refl B w).grown hg hB hr
theorem src_one (w:World) (x:Value) (t:TypeId):Src (w.alloc (.cells #[x] t)) (some ⟨w.heap.size,0,none⟩) 1 [x] :=
 ⟨rfl,fun _=>⟨_,_,rfl,fun j u hu=>by
  have:=cell_one_new w x t j u hu
  rwa [addr_add] at this⟩⟩
end
end Go.Proofs.YteigfkncoiiaiaaGreatDoor
namespace Go.Proofs.YteigfkncoiiaiaaGreatDoor.Sym
section
open Go.RowKit
section
variable {P:Program} {w:World}
theorem zhr {ops:Array Oper} {rest:List Oper} {o:Oper} {a:Act} {Q:Exit->Act->World->Prop} (hgd:o.guard=none) (s x:Operand) (t:TypeId)
  (ho:o.op=.call { callee:=.builtin .append,args:=#[s,x],argTypes:=#[t,t] })
  (base:Nat) (e:TypeId) (i:TypeInfo) (z:Value) (size bytes:Nat) (ht:P.underlying t=some (.slice e)) (hi:P.info? e=some i) (hz:i.zero=some z)
  (hsize:i.size=size) (hby:i.bytes=bytes) (hzs:z.cells.size=size) (hsz:0<size) (v:Value) (n:Nat) (xs:List Value) (hs:a.eval s=v) (hown:w.ownsRow base e size v n xs)
  (A:Option Addr) (m c:Nat) (news:List Value) (hx:a.eval x=.slice A m c) (hl:news.length=m*size) (hsrc:0<m->∃ b q,A=some ⟨b,q,none⟩∧∀ (j:Nat) u,news[j]?=some u->w.cell? ⟨b,q+j,none⟩=some u) (h1:∀ u∈news,u.oneCell'=true)
  (a2:n+m<=maxLen) (hbytes:(n+m)*bytes<=140737488355328) (hbase:base<=w.heap.size)
  (h:∀ v' w',w'.ownsRow base e size v' (n+m) (xs++news)->w.grownBy w' v.ownBlock->(v'.ownBlock=v.ownBlock∨v'.ownBlock=some w.heap.size)->wpList P ops Q rest (a.put o.dst v') w') :
  wpList P ops Q (o::rest) a w:=by
 refine wpList_plain hgd fun _ hK=>?_;obtain ⟨v',w',a0,h2,h3,h4⟩:=zg8 (P:=P) base t o.type e i z size bytes ht hi hz hsize hby hzs hsz v n xs hown A m c news hl hsrc h1 a2 hbytes hbase;unfold Oper.wp execOp;simp only [ho,resolve,invoke,builtin,Sem.run_bind,Sem.run_pure,Result.andThen_ok,List.map_toArray,ya1,ye6,hs,hx,a0];exact hK _ _ (h v' w' h2 h3 h4)
end
theorem zov {a b c:World} {row row':Option Nat} (h:a.grownBy b row) (k:b.grownBy c row') (hr:row'=row∨∀ g,row'=some g->a.heap.size<=g):a.grownBy c row :=
 ⟨k.os.trans h.os,k.tape.trans h.tape,k.output.trans h.output,ych h.size k.size,fun i hi hne =>
  (k.block i (ycm hi h.size) (by
   rcases hr with e | e
   ·rw [e];exact hne
   ·intro he
    have:=e i he.symm
    omega)).trans (h.block i hi hne)⟩
def znm (t:TypeId) (k n:Nat) (us:List Value) (w:World) (e:Ending) (w':World):Prop :=
 ∃ v',e=.returned v'∧w'.ownsRow w.heap.size t k v' n us∧Below w.heap.size w w'
theorem zlb (w:World) (t:TypeId) (k:Nat):(w.alloc (.cells #[] t)).ownsRow w.heap.size t k (.slice (some ⟨w.heap.size,0,none⟩) 0 0) 0 []:=by
 refine ⟨by simp,.inr ⟨w.heap.size,0,#[],rfl,yap _,?_,yag _,by unfold maxLen;omega,by simp,by simp⟩⟩;exact heap_alloc_new w _
theorem zm2 {g:FuncId} {t:TypeId} {k by_:Nat} (he:∀ args w,(callFunc g args).run Tryz.prog w=.ok (.enter g args) w) (hk0:0<k)
  (h:∀ (w:World) (A:Option Addr) (n c:Nat) (us:List Value),us.length=n*k->(0<n->∃ b q,A=some ⟨b,q,none⟩∧∀ (j:Nat) u,us[j]?=some u->w.cell? ⟨b,q+j,none⟩=some u) ->
   (∀ u∈us,u.oneCell'=true)->n<=17592186044416->n*by_<=140737488355328->Calls Tryz.prog g #[.slice A n c] w (znm t k n us w))
  {es:List (List IV)} (hk:∀ e∈es,e.length=k) (hc:zaz es.length by_):Sp Tryz.prog g [.im (.sl es)] (.row t k es):=by
 refine ⟨he,fun w S vs F hS hv hn hF=>?_⟩
 match vs,hv with
 | [v],⟨F1,F2,⟨h3,e1⟩,h5,e3⟩ =>
  have h5:F2=[]:=h5;subst e1 h5 e3;obtain ⟨A,c,us,rfl,hl,h1,a0,a4,hr⟩:=zt3 h3 hk;have a7:us.length=es.length*k:=by rw [hl,zbv hk]
  refine (h w A es.length c us a7 a4 h1 a0 hc.1).mono ?_;rintro e w' ⟨v',rfl,ho,hb⟩
  have a3:w'.ownsRow 0 t k v' es.length us:=by
   refine ⟨ho.1,?_⟩;rcases ho.2 with h6 | ⟨g1,cap,cur,k1,_,k3⟩
   ·exact .inl h6
   ·exact .inr ⟨g1,cap,cur,k1,yag _,k3⟩
  have a6:=ho.lt
  have a2:∀ b∈(zbz v').toList,w.heap.size<=b∧b<w'.heap.size:=fun b hb=>by
   refine a6 b ?_;rw [zgp a3];simpa using hb
  refine ⟨v',(zbz v').toList,rfl,.of hb,⟨[v'],(zbz v').toList,[],rfl,⟨(zbz v').toList,[],⟨row_one a3,[],⟨us,hk0,hk,a0,a3,hl,h1,fun i u x hu hx=>?_⟩,rfl⟩,rfl,by simp⟩,rfl,by simp⟩,?_,fun b hb=>⟨.inl (a2 b hb).1,(a2 b hb).2⟩⟩
  ·have k1:∀ b,S b->(S b∨w.heap.size<=b∨b∈[])∧b<w'.heap.size∧b∉(zbz v').toList:=fun b a5=>⟨.inl a5,ycm (hS b a5) hb.size,fun hm=>by
    have h1:=(a2 b hm).1
    have h2:=hS b a5
    omega⟩
   have k2:∀ (p:Addr) u,S p.block->w.cell? p=some u->w'.cell? p=some u:=fun p u hp hu=>by
    have h6:=hb.block p.block (hS _ hp)
    have h7:w'.cell? p=w.cell? p:=by
     unfold World.cell?;rw [h6]
    rw [h7];exact hu
   exact (hr i u x hu hx).mono k1 k2
  ·cases zbz v'<;>simp
end
section
open Go.RowKit
theorem Tryz.infoC_int:(Tryz.prog.info? 3).map (fun i=>(i.zero,i.size,i.bytes))=some (some (.int .i64 0),1,8):=by kernel_rfl
set_option maxRecDepth 100000 in
set_option maxHeartbeats 400000 in
theorem clone_int (w:World) (A:Option Addr) (n c:Nat) (us:List Value) (hl:us.length=n*1) (hs:0<n->∃ b q,A=some ⟨b,q,none⟩∧∀ (j:Nat) u,us[j]?=some u->w.cell? ⟨b,q+j,none⟩=some u)
  (h1:∀ u∈us,u.oneCell'=true) (hn:n<=17592186044416) (hby:n*8<=140737488355328):Calls Tryz.prog 115 #[.slice A n c] w (znm 3 1 n us w):=by
 obtain ⟨j0,ji,b3,a4,a5⟩:=info_parts Tryz.infoC_int;have b5:=Lib.run_eql_slice_nil (P:=Tryz.prog) w 25 3 A n c 0 0 Tryz.underlying25;cases A with
 | none =>
  have h0:n=0:=by
   rcases ycf n with h | h
   ·exact h
   ·obtain ⟨b,q,e,_⟩:=hs h;cases e
  subst h0;have a2:us=[]:=yau (by omega);have HX:=Lib.hid a2;clear a2 hs hl h1
  go_enter Tryz.func115,Tryz.ntmps115
  go_wp2
  go_ret
  rw [HX.out];exact ⟨_,rfl,World.ownsRow_nil _ _ _ _,Below.refl _ _⟩
 | some a =>
  have a3:∀ o,0<n->∃ b q,some a=some ⟨b,q,none⟩∧∀ (j:Nat) u,us[j]?=some u->(w.alloc o).cell? ⟨b,q+j,none⟩=some u:=fun o h=>by
   obtain ⟨b,q,e,hc⟩:=hs h;exact ⟨b,q,e,fun j u hu=>zf0 (World.grownBy_alloc w o none) _ _ (hc j u hu)⟩
  have a9:0+n<=maxLen:=by unfold maxLen;omega
  have b4:(0+n)*8<=140737488355328:=by omega
  have b2:∀ o,w.heap.size<=(w.alloc o).heap.size:=fun o=>by simp
  have a7:=Lib.hid hl;clear hs
  go_enter Tryz.func115,Tryz.ntmps115
  go_wp2_with (at_builtin;refine zhr rfl (.tmp 5) (.tmp 6) 25 rfl w.heap.size 3 j0 (.int .i64 0) 1 8 Tryz.underlying25 ji b3 a4 a5 rfl (by decide) (.slice (some ⟨w.heap.size,0,none⟩) 0 0) 0 _ rfl (zlb _ _ _) _ _ _ _ rfl a7.out (a3 _) h1 a9 b4 (b2 _) ?_;intro v1 w1 a0 a8 b6)
  go_ret
  have a6:w.grownBy w1 none:=zov (World.grownBy_alloc w _ none) a8 (.inr fun g e=>by
   have:some w.heap.size=some g:=e
   injection this with this
   omega)
  exact ⟨v1,rfl,by simpa using a0,zm1 a6 (yap _) (fun g e=>by cases e)⟩
theorem Tryz.infoC_words:(Tryz.prog.info? 25).map (fun i=>(i.zero,i.size,i.bytes))=some (some (.slice none 0 0),1,24):=by kernel_rfl
set_option maxRecDepth 100000 in
set_option maxHeartbeats 400000 in
theorem clone_words (w:World) (A:Option Addr) (n c:Nat) (us:List Value) (hl:us.length=n*1) (hs:0<n->∃ b q,A=some ⟨b,q,none⟩∧∀ (j:Nat) u,us[j]?=some u->w.cell? ⟨b,q+j,none⟩=some u)
  (h1:∀ u∈us,u.oneCell'=true) (hn:n<=17592186044416) (hby:n*24<=140737488355328):Calls Tryz.prog 132 #[.slice A n c] w (znm 25 1 n us w):=by
 obtain ⟨j0,ji,b3,a4,a5⟩:=info_parts Tryz.infoC_words;have b5:=Lib.run_eql_slice_nil (P:=Tryz.prog) w 22 25 A n c 0 0 Tryz.underlying22;cases A with
 | none =>
  have h0:n=0:=by
   rcases ycf n with h | h
   ·exact h
   ·obtain ⟨b,q,e,_⟩:=hs h;cases e
  subst h0;have a2:us=[]:=yau (by omega);have HX:=Lib.hid a2;clear a2 hs hl h1
  go_enter Tryz.func132,Tryz.ntmps132
  go_wp2
  go_ret
  rw [HX.out];exact ⟨_,rfl,World.ownsRow_nil _ _ _ _,Below.refl _ _⟩
 | some a =>
  have a3:∀ o,0<n->∃ b q,some a=some ⟨b,q,none⟩∧∀ (j:Nat) u,us[j]?=some u->(w.alloc o).cell? ⟨b,q+j,none⟩=some u:=fun o h=>by
   obtain ⟨b,q,e,hc⟩:=hs h;exact ⟨b,q,e,fun j u hu=>zf0 (World.grownBy_alloc w o none) _ _ (hc j u hu)⟩
  have a9:0+n<=maxLen:=by unfold maxLen;omega
  have b4:(0+n)*24<=140737488355328:=by omega
  have b2:∀ o,w.heap.size<=(w.alloc o).heap.size:=fun o=>by simp
  have a7:=Lib.hid hl;clear hs
  go_enter Tryz.func132,Tryz.ntmps132
  go_wp2_with (at_builtin;refine zhr rfl (.tmp 5) (.tmp 6) 22 rfl w.heap.size 25 j0 (.slice none 0 0) 1 24 Tryz.underlying22 ji b3 a4 a5 rfl (by decide) (.slice (some ⟨w.heap.size,0,none⟩) 0 0) 0 _ rfl (zlb _ _ _) _ _ _ _ rfl a7.out (a3 _) h1 a9 b4 (b2 _) ?_;intro v1 w1 a0 a8 b6)
  go_ret
  have a6:w.grownBy w1 none:=zov (World.grownBy_alloc w _ none) a8 (.inr fun g e=>by
   have:some w.heap.size=some g:=e
   injection this with this
   omega)
  exact ⟨v1,rfl,by simpa using a0,zm1 a6 (yap _) (fun g e=>by cases e)⟩
theorem Tryz.infoC_traces:(Tryz.prog.info? 58).map (fun i=>(i.zero,i.size,i.bytes))=some (some (.agg #[.slice none 0 0,.slice none 0 0]),2,48):=by kernel_rfl
set_option maxRecDepth 100000 in
set_option maxHeartbeats 400000 in
theorem clone_traces (w:World) (A:Option Addr) (n c:Nat) (us:List Value) (hl:us.length=n*2) (hs:0<n->∃ b q,A=some ⟨b,q,none⟩∧∀ (j:Nat) u,us[j]?=some u->w.cell? ⟨b,q+j,none⟩=some u)
  (h1:∀ u∈us,u.oneCell'=true) (hn:n<=17592186044416) (hby:n*48<=140737488355328):Calls Tryz.prog 108 #[.slice A n c] w (znm 58 2 n us w):=by
 obtain ⟨j0,ji,b3,a4,a5⟩:=info_parts Tryz.infoC_traces;have b5:=Lib.run_eql_slice_nil (P:=Tryz.prog) w 48 58 A n c 0 0 Tryz.underlying48;cases A with
 | none =>
  have h0:n=0:=by
   rcases ycf n with h | h
   ·exact h
   ·obtain ⟨b,q,e,_⟩:=hs h;cases e
  subst h0;have a2:us=[]:=yau (by omega);have HX:=Lib.hid a2;clear a2 hs hl h1
  go_enter Tryz.func108,Tryz.ntmps108
  go_wp2
  go_ret
  rw [HX.out];exact ⟨_,rfl,World.ownsRow_nil _ _ _ _,Below.refl _ _⟩
 | some a =>
  have a3:∀ o,0<n->∃ b q,some a=some ⟨b,q,none⟩∧∀ (j:Nat) u,us[j]?=some u->(w.alloc o).cell? ⟨b,q+j,none⟩=some u:=fun o h=>by
   obtain ⟨b,q,e,hc⟩:=hs h;exact ⟨b,q,e,fun j u hu=>zf0 (World.grownBy_alloc w o none) _ _ (hc j u hu)⟩
  have a9:0+n<=maxLen:=by unfold maxLen;omega
  have b4:(0+n)*48<=140737488355328:=by omega
  have b2:∀ o,w.heap.size<=(w.alloc o).heap.size:=fun o=>by simp
  have a7:=Lib.hid hl;clear hs
  go_enter Tryz.func108,Tryz.ntmps108
  go_wp2_with (at_builtin;refine zhr rfl (.tmp 5) (.tmp 6) 48 rfl w.heap.size 58 j0 (.agg #[.slice none 0 0,.slice none 0 0]) 2 48 Tryz.underlying48 ji b3 a4 a5 rfl (by decide) (.slice (some ⟨w.heap.size,0,none⟩) 0 0) 0 _ rfl (zlb _ _ _) _ _ _ _ rfl a7.out (a3 _) h1 a9 b4 (b2 _) ?_;intro v1 w1 a0 a8 b6)
  go_ret
  have a6:w.grownBy w1 none:=zov (World.grownBy_alloc w _ none) a8 (.inr fun g e=>by
   have:some w.heap.size=some g:=e
   injection this with this
   omega)
  exact ⟨v1,rfl,by simpa using a0,zm1 a6 (yap _) (fun g e=>by cases e)⟩
end
end Go.Proofs.YteigfkncoiiaiaaGreatDoor.Sym
namespace Go.Proofs.YteigfkncoiiaiaaGreatDoor
section
open Go.RowKit
def GrowPost (t:TypeId) (w:World) (e:Ending) (w':World):Prop:=∃ v',e=.returned v'∧w'.ownsRow w.heap.size t 1 v' 0 []∧Below w.heap.size w w'
theorem zns (w:World) (Z:Array Value) (t:TypeId) (c:Nat) (hc:c<=maxLen) (hZ:Z.size=c) :
  (w.drew.alloc (.cells Z t)).ownsRow w.heap.size t 1 (.slice (some ⟨w.heap.size,0,none⟩) 0 c) 0 []:=by
 refine ⟨rfl,.inr ⟨w.heap.size,c,Z,rfl,Nat.le_refl _,?_,Nat.zero_le _,hc,by omega,by simp⟩⟩;exact heap_alloc_new w.drew _
theorem zr0 (w:World) (o:Obj):Below w.heap.size w (w.drew.alloc o):=(Below.refl w.heap.size w).drew.alloc (Nat.le_refl _) o
set_option maxRecDepth 100000 in
set_option maxHeartbeats 800000 in
theorem growI_any (n:Nat) (hn:n<=1000000000) (w:World) :
  Calls Tryz.prog 140 #[.slice none 0 0,.int .i64 n] w (GrowPost 3 w):=by
 obtain ⟨i0,hi,a9,b2,a8⟩:=info_parts Tryz.infoInt;have h1:¬ ((n:Int)<0):=by omega
 by_cases h0:n=0
 ·subst h0
  go_enter Tryz.func140,Tryz.ntmps140
  go_wp2
  go_ret
  exact ⟨_,rfl,World.ownsRow_nil _ _ _ _,Below.refl _ _⟩
 ·have h4:(n:Int) > 0:=by omega
  have a2:=Lib.run_append_nil_zeros (P:=Tryz.prog) w 25 3 25 3 i0 (.int .i64 0) .i64 .i64 Tryz.underlying25 Tryz.underlying3 hi a9 n (by omega) (by omega) (by omega) (by rw [a8];omega);generalize a3:grownCap w n 0 3=cap2 at a2;have a6:n<=cap2:=by rw [<- a3];exact grownCap_ge w _ 0 _
  have a0:cap2<=maxLen:=by rw [<- a3];exact grownCap_le_maxLen w _ 0 _ (by unfold maxLen;omega)
  generalize hZ:(Builtin.zeroCells (Value.cells (.int .i64 0)) n++Builtin.zeroCells (Value.cells (.int .i64 0)) (cap2-n))=Z at a2;have a5:Z.size=cap2:=by rw [<- hZ];simp [size_zeroCells,Value.cells];omega
  have a4:=zns w Z 3 cap2 a0 a5;have a7:cap2<=9223372036854775807:=by unfold maxLen at a0;omega
  have HO:=Lib.hid (And.intro a4 (zr0 w (.cells Z 3)));clear a3 hZ a4 a5
  go_enter Tryz.func140,Tryz.ntmps140
  go_wp2_with (at_builtin;refine Lib.wpList_append_run _ rfl _ _ _ _ rfl _ _ rfl rfl _ _ a2 ?_)
  go_ret
  exact ⟨_,rfl,HO.out.1,HO.out.2⟩
set_option maxRecDepth 100000 in
set_option maxHeartbeats 800000 in
theorem growW_any (n:Nat) (hn:n<=1000000000) (w:World) :
  Calls Tryz.prog 131 #[.slice none 0 0,.int .i64 n] w (GrowPost 25 w):=by
 obtain ⟨i0,hi,a9,b2,a8⟩:=info_parts Tryz.infoWord;have h1:¬ ((n:Int)<0):=by omega
 by_cases h0:n=0
 ·subst h0
  go_enter Tryz.func131,Tryz.ntmps131
  go_wp2
  go_ret
  exact ⟨_,rfl,World.ownsRow_nil _ _ _ _,Below.refl _ _⟩
 ·have h4:(n:Int) > 0:=by omega
  have a2:=Lib.run_append_nil_zeros (P:=Tryz.prog) w 22 3 22 25 i0 (.slice none 0 0) .i64 .i64 Tryz.underlying22 Tryz.underlying3 hi a9 n (by omega) (by omega) (by omega) (by rw [a8];omega);generalize a3:grownCap w n 0 25=cap2 at a2;have a6:n<=cap2:=by rw [<- a3];exact grownCap_ge w _ 0 _
  have a0:cap2<=maxLen:=by rw [<- a3];exact grownCap_le_maxLen w _ 0 _ (by unfold maxLen;omega)
  generalize hZ:(Builtin.zeroCells (Value.cells (.slice none 0 0)) n++Builtin.zeroCells (Value.cells (.slice none 0 0)) (cap2-n))=Z at a2;have a5:Z.size=cap2:=by rw [<- hZ];simp [size_zeroCells,Value.cells];omega
  have a4:=zns w Z 25 cap2 a0 a5;have a7:cap2<=9223372036854775807:=by unfold maxLen at a0;omega
  have HO:=Lib.hid (And.intro a4 (zr0 w (.cells Z 25)));clear a3 hZ a4 a5
  go_enter Tryz.func131,Tryz.ntmps131
  go_wp2_with (at_builtin;refine Lib.wpList_append_run _ rfl _ _ _ _ rfl _ _ rfl rfl _ _ a2 ?_)
  go_ret
  exact ⟨_,rfl,HO.out.1,HO.out.2⟩
end
end Go.Proofs.YteigfkncoiiaiaaGreatDoor
namespace Go.Proofs.YteigfkncoiiaiaaGreatDoor.Sym
section
open Go.RowKit
theorem ztn {g:FuncId} {t:TypeId} {n:Int} (he:∀ args w,(callFunc g args).run Tryz.prog w=.ok (.enter g args) w) (h0:0<=n) (h1:n<=1000000000)
  (h:∀ (n:Nat),n<=1000000000->∀ w,Calls Tryz.prog g #[.slice none 0 0,.int .i64 n] w (GrowPost t w)):Sp Tryz.prog g [.im (.val (.slice none 0 0)),.im (nI n)] (.row t 1 []):=by
 refine ⟨he,fun w S vs F hS hv hn hF=>?_⟩
 match vs,hv with
 | [v,u],⟨F1,F2,⟨h3,e1⟩,⟨F3,F4,⟨h4,e2⟩,h5,e3⟩,e4⟩ =>
  have h5:F4=[]:=h5;subst e1 e2 h5 e3 e4;cases h3;cases h4;have hc:=h n.toNat (by omega) w;rw [ydc h0] at hc;refine hc.mono ?_;rintro e w' ⟨v',rfl,ho,hb⟩
  have a0:w'.ownsRow 0 t 1 v' 0 []:=by
   refine ⟨ho.1,?_⟩;rcases ho.2 with h6 | ⟨g1,cap,cur,k1,_,k3⟩
   ·exact .inl h6
   ·exact .inr ⟨g1,cap,cur,k1,yag _,k3⟩
  have a3:=ho.lt
  have a2:∀ b∈(zbz v').toList,w.heap.size<=b∧b<w'.heap.size:=fun b hb=>by
   refine a3 b ?_;rw [zgp a0];simpa using hb
  refine ⟨v',(zbz v').toList,rfl,.of hb,⟨[v'],(zbz v').toList,[],rfl,⟨(zbz v').toList,[],⟨row_one a0,[],⟨[],Nat.one_pos,fun x hx=>by simp at hx,by decide,a0,rfl,fun u hu=>by simp at hu,fun i u x hu=>by simp at hu⟩,rfl⟩,rfl,by simp⟩,rfl,by simp⟩,?_,fun b hb=>⟨.inl (a2 b hb).1,(a2 b hb).2⟩⟩;cases zbz v'<;>simp
def zk9 (n:Int):Option (yab):=chk (0<=n∧n<=1000000000) (some [])
theorem zre (n:Int) (r:yab) (h:zk9 n=some r):Sp Tryz.prog 140 [.im (.val (.slice none 0 0)),.im (nI n)] (.row 3 1 (List.map cI r)):=by
 obtain ⟨h1,h⟩:=zan h;injection h with h
 subst h;exact ztn (fun args w=>zen rfl rfl rfl args w) h1.1 h1.2 growI_any
def zir (n:Int):Option (yaa):=chk (0<=n∧n<=1000000000) (some [])
theorem zo5 (n:Int) (r:yaa) (h:zir n=some r):Sp Tryz.prog 131 [.im (.val (.slice none 0 0)),.im (nI n)] (.row 25 1 (List.map (cL cI) r)):=by
 obtain ⟨h1,h⟩:=zan h;injection h with h
 subst h;exact ztn (fun args w=>zen rfl rfl rfl args w) h1.1 h1.2 growW_any
end
section
open Go.RowKit Go.Sort
section plain
variable {α:Type}
def totB [DecidableEq α] (f:α->α->Option Int) (l:List α):Bool :=
 l.all fun a=>l.all fun b=>match f a b,f b a with
  | some m,some n=>(decide (m=0)==decide (a=b))&&(decide (m<0)==decide (0<n))&&(decide (-1<=m∧m<=1))&&l.all fun c=>!(decide (m<0)&&(match f b c with | some x=>decide (x<0) | none=>false))||(match f a c with | some x=>decide (x<0) | none=>false)
  | _,_=>false
def insF (f:α->α->Option Int) (x:α):List α->List α
 | []=>[x]
 | y::l=>match f x y with
  | some m=>cond (decide (m<=0)) (x::y::l) (y::insF f x l)
  | none=>x::y::l
def zj9 (f:α->α->Option Int):List α->List α
 | []=>[]
 | x::l=>insF f x (zj9 f l)
def zpc [DecidableEq α] (l:List α) (f:α->α->Option Int):Option (List α):=chk (l.length<=1000000000) (cond (totB f l) (some (zj9 f l)) none)
def cfv (f:α->α->Option Int) (a b:α):Int:=(f a b).getD 0
structure TotF (f:α->α->Option Int) (l:List α):Prop where
 get:∀ a∈l,∀ b∈l,f a b=some (cfv f a b)
 zero:∀ a∈l,∀ b∈l,cfv f a b=0->a=b
 self:∀ a∈l,cfv f a a=0
 swap:∀ a∈l,∀ b∈l,(cfv f a b<0↔0<cfv f b a)
 trans:∀ a∈l,∀ b∈l,∀ c∈l,cfv f a b<0->cfv f b c<0->cfv f a c<0
theorem totB_iff [DecidableEq α] {f:α->α->Option Int} {l:List α} (h:totB f l=true):TotF f l:=by
 have key:∀ a∈l,∀ b∈l,∃ m n,f a b=some m∧f b a=some n∧(m=0↔a=b)∧(m<0↔0<n)∧∀ c∈l,m<0->(∃ x,f b c=some x∧x<0)->∃ x,f a c=some x∧x<0:=by
  intro a ha b hb;have h1:=ybf.1 (ybf.1 h a ha) b hb;cases e1:f a b with
  | none=>rw [e1] at h1;cases h1
  | some m =>
   cases e2:f b a with
   | none=>rw [e1,e2] at h1;cases h1
   | some n =>
    rw [e1,e2] at h1;simp only [ya4] at h1;obtain ⟨⟨⟨h2,h3⟩,_⟩,h5⟩:=h1;refine ⟨m,n,rfl,rfl,?_,?_,fun c hc hm ⟨x,hx,a0⟩=>?_⟩
    ·have h2:=eq_of_beq h2;simpa using h2
    ·have h3:=eq_of_beq h3;simpa using h3
    ·have h6:=ybf.1 h5 c hc;rw [hx] at h6;simp only [hm,a0,decide_true,Bool.and_self,yb8,yej] at h6;cases e3:f a c with
     | none=>rw [e3] at h6;cases h6
     | some y=>rw [e3] at h6;exact ⟨y,rfl,by simpa using h6⟩
 have get:∀ a∈l,∀ b∈l,f a b=some (cfv f a b):=fun a ha b hb=>by
  obtain ⟨m,n,e1,_⟩:=key a ha b hb;unfold cfv;rw [e1];rfl
 refine ⟨get,fun a ha b hb=>?_,fun a ha=>?_,fun a ha b hb=>?_,fun a ha b hb c hc h1 h2=>?_⟩
 ·obtain ⟨m,n,e1,e2,h3,_⟩:=key a ha b hb;rw [get a ha b hb] at e1;injection e1 with e1
  rw [e1];exact h3.1
 ·obtain ⟨m,n,e1,e2,h3,_⟩:=key a ha a ha;rw [get a ha a ha] at e1;injection e1 with e1
  rw [e1];exact h3.2 rfl
 ·obtain ⟨m,n,e1,e2,h3,h4,_⟩:=key a ha b hb;rw [get a ha b hb] at e1;rw [get b hb a ha] at e2;injection e1 with e1
  injection e2 with e2
  rw [e1,e2];exact h4
 ·obtain ⟨m,n,e1,e2,h3,h4,h5⟩:=key a ha b hb;rw [get a ha b hb] at e1;injection e1 with e1
  obtain ⟨x,hx,a0⟩:=h5 c hc (by omega) ⟨_,get b hb c hc,h2⟩;rw [get a ha c hc] at hx;injection hx with hx
  omega
theorem TotF.sub {f:α->α->Option Int} {l l':List α} (T:TotF f l) (h:∀ x∈l',x∈l):TotF f l' :=
 ⟨fun a ha b hb=>T.get a (h a ha) b (h b hb),fun a ha b hb=>T.zero a (h a ha) b (h b hb),fun a ha=>T.self a (h a ha),fun a ha b hb=>T.swap a (h a ha) b (h b hb),fun a ha b hb c hc=>T.trans a (h a ha) b (h b hb) c (h c hc)⟩
def NGt (f:α->α->Option Int) (a b:α):Prop:=¬ cfv f b a<0
theorem TotF.ngt_trans {f:α->α->Option Int} {l:List α} (T:TotF f l) {a b c:α} (ha:a∈l) (hb:b∈l) (hc:c∈l) (h1:NGt f a b) (h2:NGt f b c):NGt f a c:=by
 intro h3;have s1:=T.swap a ha b hb;have s2:=T.swap b hb c hc;have s3:=T.swap c hc a ha;have t1:=T.swap b hb a ha;have t2:=T.swap c hc b hb;unfold NGt at h1 h2;by_cases e1:cfv f b a=0
 ·have:=T.zero b hb a ha e1;subst this;exact h2 h3
 ·by_cases e2:cfv f c b=0
  ·have:=T.zero c hc b hb e2;subst this;exact h1 h3
  ·have h4:cfv f a b<0:=s1.2 (by omega);have h5:=T.trans c hc a ha b hb h3 h4;exact h2 h5
theorem insF_le {f:α->α->Option Int} {x y:α} {l:List α} {m:Int} (h:f x y=some m) (hm:m<=0):insF f x (y::l)=x::y::l:=by
 simp [insF,h,hm]
theorem insF_gt {f:α->α->Option Int} {x y:α} {l:List α} {m:Int} (h:f x y=some m) (hm:¬ m<=0):insF f x (y::l)=y::insF f x l:=by
 simp [insF,h,hm]
theorem zrw (f:α->α->Option Int) (x:α):∀ l:List α,(insF f x l).Perm (x::l)
 | []=>List.Perm.refl _
 | y::l=>by
  cases h:f x y with
  | none=>simp [insF,h]
  | some m =>
   by_cases hm:m<=0
   ·rw [insF_le h hm]
   ·rw [insF_gt h hm];exact ((zrw f x l).cons y).trans (List.Perm.swap x y l)
theorem zei (f:α->α->Option Int):∀ l:List α,(zj9 f l).Perm l
 | []=>List.Perm.refl _
 | x::l=>(zrw f x _).trans ((zei f l).cons x)
theorem zq6 {f:α->α->Option Int} {x:α}:∀ {l:List α},TotF f (x::l)->l.Pairwise (NGt f)->(insF f x l).Pairwise (NGt f)
 | [],_,_=>List.pairwise_singleton _ _
 | y::l,T,h=>by
  have hx:x∈x::y::l:=by simp
  have hy:y∈x::y::l:=by simp
  have hc:=yb5.1 h;by_cases hd:cfv f x y<=0
  ·rw [insF_le (T.get x hx y hy) hd]
   have a2:NGt f x y:=fun h0=>by
    have:=(T.swap y hy x hx).1 h0;omega
   exact yb5.2 ⟨fun z hz=>by
    rcases yba.1 hz with rfl | a0
    ·exact a2
    ·exact T.ngt_trans hx hy (by simp [a0]) a2 (hc.1 z a0),h⟩
  ·rw [insF_gt (T.get x hx y hy) hd];have a3:NGt f y x:=by unfold NGt;omega
   refine yb5.2 ⟨fun z hz=>?_,zq6 (T.sub fun z hz=>?_) hc.2⟩
   ·rcases yba.1 ((zrw f x l).mem_iff.1 hz) with rfl | a0
    ·exact a3
    ·exact hc.1 z a0
   ·rcases yba.1 hz with rfl | a0
    ·simp
    ·simp [a0]
theorem zjv {f:α->α->Option Int}:∀ {l:List α},TotF f l->(zj9 f l).Pairwise (NGt f)
 | [],_=>List.Pairwise.nil
 | x::l,T=>zq6 (T.sub fun z hz=>by
   rcases yba.1 hz with rfl | hz'
   ·simp
   ·exact yay _ ((zei f l).mem_iff.1 hz')) (zjv (T.sub fun z hz=>yay _ hz))
theorem zrq {f:α->α->Option Int}:∀ {l1 l2:List α},TotF f l1->l1.Perm l2->l1.Pairwise (NGt f)->l2.Pairwise (NGt f)->l1=l2
 | [],l2,_,hp,_,_=>(List.nil_perm.1 hp).symm
 | x::l1,[],_,hp,_,_=>absurd hp.length_eq (by simp)
 | x::l1,y::l2,T,hp,h1,h2=>by
  have p1:=yb5.1 h1;have p2:=yb5.1 h2;have hx:x∈x::l1:=by simp
  have hy:y∈x::l1:=hp.mem_iff.2 (by simp)
  have e:x=y:=by
   rcases yba.1 hy with e | a2
   ·exact e.symm
   ·have a3:=p1.1 y a2;rcases yba.1 (hp.mem_iff.1 hx) with e | a0
    ·exact e
    ·have a4:=p2.1 x a0;have s1:=T.swap y hy x hx;have s2:=T.swap x hx y hy;unfold NGt at a3 a4;exact T.zero x hx y hy (by omega)
  subst e;rw [zrq (T.sub fun z hz=>yay _ hz) (List.Perm.cons_inv hp) p1.2 p2.2]
end plain
section model
variable {α:Type}
def CmpG (P:Program) (g:FuncId) (X:α->IV) (f:α->α->Option Int):Prop :=
 ∀ (W:World) (S:Nat->Prop) (u u':Value) (x y:α) (r:Int),f x y=some r->RepI W S u (X x)->RepI W S u' (X y) ->
  Calls P g #[u,u'] W fun e w'=>e=.returned (.int .i64 r)∧∃ q os,w'=Sort.grow (W.drewN q) os
def El (w:World) (S:Nat->Prop) (k:Nat) (c:α->List IV) (l:List α):Type:={ p:List Value×α // p.1.length=k∧(∀ v∈p.1,v.oneCell'=true)∧ziw w S p.1 (c p.2)∧p.2∈l }
variable {w:World} {S:Nat->Prop} {k:Nat} {c:α->List IV} {l:List α}
def El.enc (x:El w S k c l):List Value:=x.val.1
def El.wd (x:El w S k c l):α:=x.val.2
def El.of (us:List Value) (x:α) (h1:us.length=k) (h2:∀ v∈us,v.oneCell'=true) (h3:ziw w S us (c x)) (h4:x∈l):El w S k c l:=⟨(us,x),h1,h2,h3,h4⟩
theorem el_list (hk:∀ x,(c x).length=k):∀ (l0:List α) (us:List Value),(∀ x∈l0,x∈l)->us.length=(l0.map c).flatten.length->(∀ u∈us,u.oneCell'=true) ->
  (∀ (i:Nat) u x,us[i]?=some u->(l0.map c).flatten[i]?=some x->RepI w S u x)->∃ zs:List (El w S k c l),(zs.map El.enc).flatten=us∧zs.map El.wd=l0
 | [],us,_,hl,_,_=>⟨[],(yau hl).symm,rfl⟩
 | x::l0,us,hm,hl,h1,hr=>by
  rw [ya1,ybc] at hl hr;rw [zkJ,hk] at hl
  obtain ⟨zs,e1,e2⟩:=el_list hk l0 (us.drop k) (fun y hy=>hm y (yay _ hy)) (by rw [ybw];omega) (fun u hu=>h1 u (ybn hu)) fun i u y hu hy=>by
   rw [ybv] at hu;refine hr (k+i) u y hu ?_;rw [ya0,if_neg (by rw [hk];omega),hk]
   rwa [yed]
  have hx1:(us.take k).length=k:=by rw [yaz];omega
  have a2:∀ v∈us.take k,v.oneCell'=true:=fun u hu=>h1 u (ybg hu)
  have a0:ziw w S (us.take k) (c x):=⟨by rw [hx1,hk],fun i u y hu hy=>by
   have hi:i<k:=by
    rw [<- hk x]
    exact (zkI.1 hy).1
   rw [ybm,if_pos hi] at hu
   exact hr i u y hu (by rw [ya0,if_pos (by rw [hk];exact hi)];exact hy)⟩
  refine ⟨El.of (us.take k) x hx1 a2 a0 (hm x (by simp))::zs,?_,?_⟩
  ·rw [ya1,ybc,e1];exact List.take_append_drop k us
  ·rw [ya1,e2];rfl
theorem el_swo {f:α->α->Option Int} (T:TotF f l):SWO (ltOf fun x y:El w S k c l=>cfv f x.wd y.wd) where
 irrefl x:=by
  have:=T.self x.wd x.property.2.2.2;simp [ltOf,this]
 trans x y z h1 h2:=by
  simp only [ltOf,decide_eq_true_eq] at *;exact T.trans _ x.property.2.2.2 _ y.property.2.2.2 _ z.property.2.2.2 h1 h2
 ntrans x y z h1 h2:=by
  simp only [ltOf,decide_eq_false_iff_not] at *;exact T.ngt_trans z.property.2.2.2 y.property.2.2.2 x.property.2.2.2 h2 h1
def SortC (P:Program) (sg:FuncId) (k:Nat) (mk:List Value->Value):Prop :=
 (∀ (p:Option Addr) (cap:Nat) (fv:Value) (w:World),Calls P sg #[.slice p 0 cap,fv] w fun e w'=>e=.returned (.tuple #[])∧w'=w) ∧
 ∀ (E:Type) [Inhabited E] (enc:E->List Value) (cf:E->E->Int) (g blk cap:Nat) (d:Array E) (w:World),(∀ x,(enc x).length=k)->(∀ x,∀ v∈enc x,v.oneCell'=true)->SWO (ltOf cf) ->
  (∀ args w,(callFunc g args).run P w=.ok (.enter g args) w) ->
  (∀ (m:Nat) (os:Array Obj) (dk:Array E),dk.size=d.size->∀ x y:E,Calls P g #[mk (enc x),mk (enc y)] (Sort.grow (putRow id (Sort.ahead w m) blk 0 (Go.Sort.flatK enc k dk)) os) fun e w' =>
   e=.returned (.int .i64 (cf x y))∧∃ q os',w'=Sort.grow ((Sort.grow (putRow id (Sort.ahead w m) blk 0 (Go.Sort.flatK enc k dk)) os).drewN q) os') ->
  Go.Sort.Holds id w blk 0 (Go.Sort.flatK enc k d)->blk<w.heap.size->d.size<4611686018427387904 ->
  Calls P sg #[.slice (some ⟨blk,0,none⟩) d.size cap,.func (.func g) #[] #[]] w fun e w' =>
   e=.returned (.tuple #[])∧∃ d' n os,PermIn 0 d.size d d'∧SortedIn (ltOf cf) 0 d.size d'∧w'=Sort.grow (putRow id (Sort.ahead w n) blk 0 (Go.Sort.flatK enc k d')) os
theorem perm_of_in' {β:Type} [Inhabited β] {d d':Array β} (h:PermIn 0 d.size d d'):d'.toList.Perm d.toList:=by
 obtain ⟨hs,_,hp⟩:=h;have e1:d'.extract 0 d.size=d':=by rw [<- hs];simp
 have e2:d.extract 0 d.size=d:=by simp
 rwa [e1,e2] at hp
theorem zsb {β:Type} [Inhabited β] {lt:β->β->Bool} {d:Array β} {n:Nat} (hn:d.size=n) (h:SortedIn lt 0 n d):d.toList.Pairwise fun a b=>lt b a=false:=by
 rw [yb1];intro i j hi hj a0;have:=h i j (yag _) a0 (by rw [<- hn];simpa using hj);simp at hi hj;simpa [getElem!_pos,hi,hj] using this
theorem ztp {β:Type} [Inhabited β] {enc:β->List Value} {k:Nat} (hk:∀ x,(enc x).length=k) (d:Array β):Go.Sort.flatK enc k d=(d.toList.map enc).flatten.toArray:=by
 have hl:((d.toList.map enc).flatten).length=d.size*k:=by
  rw [zbv (k:=k) fun x hx=>by obtain ⟨y,_,rfl⟩:=yao.1 hx;exact hk y];simp
 refine ext_get! (by simp [hl]) fun t ht=>?_;rw [size_flatK] at ht;rw [get_flatK _ _ _ t ht]
 have k0:0<k:=by
  rcases ycf k with h | h
  ·subst h;simp at ht
  ·exact h
 have hq:t / k<d.size:=Nat.div_lt_of_lt_mul (by rwa [yc7] at ht);have hm:t%k<k:=yc3 _ k0;have hg:=flat_get (es:=d.toList.map enc) (i:=t / k) (j:=t%k) (e:=enc (d[t / k]'hq)) (fun x hx=>by obtain ⟨y,_,rfl⟩:=yao.1 hx;exact hk y) (by simp [hq]) hm;rw [show t / k*k+t%k=t by rw [yc7];exact ydn t k] at hg;have a0:t%k<(enc (d[t / k]'hq)).length:=by rw [hk];exact hm
 rw [zkM a0,zkM (by rw [hl];exact ht)] at hg;injection hg with hg
 rw [getElem!_pos d _ hq,getElem!_pos (enc (d[t / k]'hq)) (t%k) a0,getElem!_pos ((d.toList.map enc).flatten.toArray) t (by simpa [hl] using ht)];simpa using hg.symm
theorem own_put {w:World} {base:Nat} {e:TypeId} {g n cap k q:Nat} {us us':List Value} {os:Array Obj} (h:w.ownsRow base e k (.slice (some ⟨g,0,none⟩) n cap) n us) (hl:us'.length=n*k) :
  (Sort.grow (putRow id (Sort.ahead w q) g 0 us'.toArray) os).ownsRow base e k (.slice (some ⟨g,0,none⟩) n cap) n us':=by
 rcases h.2 with ⟨e0,_⟩ | ⟨g',a3,cur,e0,hb,hg,hn,hm,hs,ht⟩
 ·cases e0
 ·injection e0 with e1 _ e3
  injection e1 with e1
  injection e1 with e1
  subst e1;subst e3
  have a2:g<w.heap.size:=by
   rcases yat g w.heap.size with h' | h'
   ·exact h'
   ·rw [Array.getElem?_eq_none h'] at hg;cases hg
  refine ⟨hl,.inr ⟨g,cap,putCells id 0 us'.toArray cur,rfl,hb,?_,hn,hm,by simpa [putCells] using hs,?_⟩⟩
  ·have:g<(putRow id (Sort.ahead w q) g 0 us'.toArray).heap.size:=by simpa [putRow,mapBlock,Sort.ahead] using a2
   simp only [Sort.grow,Array.getElem?_append,if_pos this];simp [putRow,mapBlock,Sort.ahead,ydg,hg,onCells]
  ·have a4:n*k<=cap*k:=yb0 k hn;apply yce;intro j;rw [ybm,ya3];by_cases hj:j<n*k
   ·have a0:j<cur.size:=by omega
    rw [if_pos hj];simp only [putCells,Array.getElem?_mapIdx,yc6 a0,yal];rw [if_pos (by simp;omega),zkM (by omega)];simp [getElem!_pos,show j<us'.length by omega]
   ·rw [if_neg hj,yaq (by omega)]
theorem holds_own {w:World} {base:Nat} {e:TypeId} {g n cap k:Nat} {us:List Value} (h:w.ownsRow base e k (.slice (some ⟨g,0,none⟩) n cap) n us):Go.Sort.Holds id w g 0 us.toArray:=by
 rcases h.2 with ⟨e0,_⟩ | ⟨g',a3,cur,e0,hb,hg,hn,hm,hs,ht⟩
 ·cases e0
 ·injection e0 with e1 _ e3
  injection e1 with e1
  injection e1 with e1
  subst e1;subst e3;intro j hj;have a0:j<us.length:=by simpa using hj
  have a2:j<n*k:=by rw [<- h.1];exact a0
  have a5:n*k<=cap*k:=yb0 k hn;have a4:j<cur.size:=by omega
  have e1:(cur.toList.take (n*k))[j]?=us[j]?:=by rw [ht]
  rw [ybm,if_pos a2,ya3,zkM a0] at e1;refine ⟨?_,by simp [World.frozen?,hg]⟩;simp only [World.cell?,hg,yai,yd8,yd7,if_false];rw [e1];simp [getElem!_pos,a0]
theorem put_block {w:World} {g q:Nat} {F:Array Value} {os:Array Obj} {b:Nat} (hb:b<w.heap.size) (hne:b≠g):(Sort.grow (putRow id (Sort.ahead w q) g 0 F) os).heap[b]?=w.heap[b]?:=by
 have:b<(putRow id (Sort.ahead w q) g 0 F).heap.size:=by simpa [putRow,mapBlock,Sort.ahead] using hb
 simp only [Sort.grow,Array.getElem?_append,if_pos this];simp [putRow,mapBlock,Sort.ahead,ydg,Ne.symm hne]
theorem put_cell {w:World} {g q:Nat} {F:Array Value} {os:Array Obj} {p:Addr} {u:Value} (hne:p.block≠g) (h:w.cell? p=some u):(Sort.grow (putRow id (Sort.ahead w q) g 0 F) os).cell? p=some u:=by
 have a0:=World.block_lt_of_cell? w _ h;unfold World.cell? at h ⊢;rw [put_block a0 hne];exact h
theorem ztb [DecidableEq α] {P:Program} {sg:FuncId} {mk:List Value->Value} {t:TypeId} {X:α->IV} (he:∀ args w,(callFunc sg args).run P w=.ok (.enter sg args) w) (C:SortC P sg k mk) (hk0:0<k) (hk:∀ x,(c x).length=k)
  (hX:∀ (W:World) (S:Nat->Prop) us x,us.length=k->(∀ v∈us,v.oneCell'=true)->ziw W S us (c x)->RepI W S (mk us) (X x))
  {f:α->α->Option Int} {g:FuncId} (eg:∀ args w,(callFunc g args).run P w=.ok (.enter g args) w) (hg:CmpG P g X f) {l r:List α} (h:zpc l f=some r) :
  Sp P sg [.lent (.row t k (l.map c)),.im (.fn g [])] (.mk true [] [.lent (.row t k (r.map c))]):=by
 obtain ⟨e7,h⟩:=zan h;cases hT:totB f l with
 | false=>rw [hT] at h;cases h
 | true =>
 rw [hT] at h;injection h with h
 subst h;have T:=totB_iff hT;refine ⟨he,fun w S vs F hS hv hn hF=>?_⟩
 match vs,hv with
 | [v,u],⟨F1,F2,⟨hv1,inn,hrow,e1⟩,⟨F3,F4,⟨h4,e2⟩,h5,e3⟩,e4⟩ =>
  have h5:F4=[]:=h5;have e1:F1=(zbz v).toList:=e1;subst e1 e2 h5 e3;have e4:F=(zbz v).toList:=by rw [e4];simp
  subst e4;obtain ⟨us,_,_,b3,a0,b8,h1,hr⟩:=hrow;rw [zkK] at a0 b3
  have hu:u=.func (.func g) #[] #[]:=by
   generalize hx:IV.fn g []=x at h4;cases h4 with
   | fn f us cs hl hr =>
    injection hx with d8 d9
    subst d8 d9;have:=yau hl;subst this;rfl
   | _=>cases hx
  subst hu
  have b7:∀ (w':World) (a4:List Value),w'.ownsRow 0 t k v l.length a4->a4.length=((zj9 f l).map c).flatten.length->(∀ u∈a4,u.oneCell'=true) ->
    Belo (fun b=>b∈(zbz v).toList) w.heap.size w w'->(∀ (i:Nat) u x,a4[i]?=some u->((zj9 f l).map c).flatten[i]?=some x->RepI w' (fun b=>(S b∨w.heap.size<=b∨b∈(zbz v).toList)∧b<w'.heap.size∧b∉(zbz v).toList) u x) ->
    ∃ (v1:Value) (F':List Nat),Ending.returned (.tuple #[])=.returned v1∧Belo (fun b=>b∈(zbz v).toList) w.heap.size w w' ∧
     zn7 w' (fun b=>(S b∨w.heap.size<=b∨b∈(zbz v).toList)∧b<w'.heap.size∧b∉F') v1 (bxVs [v,.func (.func g) #[] #[]] [.lent (.row t k (l.map c)),.im (.fn g [])]) (.mk true [] [.lent (.row t k ((zj9 f l).map c))]) F'∧F'.Nodup∧∀ b∈F',(w.heap.size<=b∨b∈(zbz v).toList)∧b<w'.heap.size:=by
   intro w' a4 ho d5 d6 hb d4;refine ⟨_,(zbz v).toList,rfl,hb,⟨[],[],(zbz v).toList,rfl,rfl,⟨(zbz v).toList,[],⟨hv1,inn,⟨a4,hk0,fun x hx=>?_,?_,?_,d5,d6,d4⟩,rfl⟩,rfl,by simp⟩,by simp⟩,hn,fun b b2=>⟨.inr b2,ycm (hF b b2).2 hb.size⟩⟩
   ·obtain ⟨y,_,rfl⟩:=yao.1 hx;exact hk y
   ·rw [zkK,(zei f l).length_eq];exact b3
   ·rw [zkK,(zei f l).length_eq];exact ho
  by_cases b4:v=.slice none 0 0
  ·subst b4
   have a5:l.length=0:=by
    rcases a0.2 with ⟨_,h0⟩ | ⟨_,_,_,e,_⟩
    ·exact h0
    ·cases e
   have a5:l=[]:=yau a5;subst a5;refine (C.1 none 0 _ w).mono ?_;rintro e w' ⟨rfl,rfl⟩;have c6:us=[]:=yau (by rw [b8];rfl);subst c6;exact b7 w' [] a0 rfl (fun u hu=>by cases hu) (Belo.refl _ _ _) fun i u x hu=>by simp at hu
  ·obtain ⟨blk,cap,rfl⟩:∃ blk cap,v=.slice (some ⟨blk,0,none⟩) l.length cap:=by
    rcases a0.2 with ⟨e0,_⟩ | ⟨g,cap,cur,e,_⟩
    ·exact absurd e0 b4
    ·exact ⟨g,cap,e⟩
   have c8:blk<w.heap.size:=(hF blk (by simp [zbz])).2;have a9:¬ S blk:=(hF blk (by simp [zbz])).1;obtain ⟨zs,d2,b5⟩:=el_list (w:=w) (S:=S) (l:=l) hk l us (fun x hx=>hx) b8 h1 hr;by_cases a5:l=[]
   ·subst a5;refine (C.1 (some ⟨blk,0,none⟩) cap _ w).mono ?_;rintro e w' ⟨rfl,rfl⟩;have c6:us=[]:=yau (by rw [b8];rfl);subst c6;exact b7 w' [] a0 rfl (fun u hu=>by cases hu) (Belo.refl _ _ _) fun i u x hu=>by simp at hu
   ·have e6:zs.length=l.length:=by have:=congrArg List.length b5;simpa using this
    obtain ⟨z0,e9⟩:∃ z,z∈zs:=by
     cases zs with
     | nil=>exact absurd (by simpa using b5.symm) a5
     | cons z zs=>exact ⟨z,by simp⟩
    haveI:Inhabited (El w S k c l):=⟨z0⟩
    have a3:∀ x:El w S k c l,(El.enc x).length=k:=fun x=>x.property.1;have a8:∀ d:Array (El w S k c l),Go.Sort.flatK El.enc k d=(d.toList.map El.enc).flatten.toArray:=ztp a3
    have a7:=C.2 (El w S k c l) El.enc (fun x y=>cfv f x.wd y.wd) g blk cap zs.toArray w a3 (fun x=>x.property.2.1) (el_swo T) eg (fun m os dk _ x y=>by
      refine hg _ S _ _ x.wd y.wd _ (T.get _ x.property.2.2.2 _ y.property.2.2.2) (hX _ _ _ _ x.property.1 x.property.2.1 ⟨x.property.2.2.1.1,fun i u z hu hz=>?_⟩) (hX _ _ _ _ y.property.1 y.property.2.1 ⟨y.property.2.2.1.1,fun i u z hu hz=>?_⟩)
      ·exact (x.property.2.2.1.2 i u z hu hz).mono (fun _ h=>h) fun p u hp hu=>put_cell (fun e=>a9 (by rw [<- e];exact hp)) hu
      ·exact (y.property.2.2.1.2 i u z hu hz).mono (fun _ h=>h) fun p u hp hu=>put_cell (fun e=>a9 (by rw [<- e];exact hp)) hu)
     (by rw [a8];show Go.Sort.Holds id w blk 0 ((zs.map El.enc).flatten).toArray;rw [d2];exact holds_own a0) c8 (by simp;omega)
    have b9:zs.toArray.size=l.length:=by simpa using e6
    rw [b9] at a7;refine a7.mono ?_;rintro e w' ⟨rfl,d',n,os,hp,hs,rfl⟩;have c7:d'.size=l.length:=by rw [hp.1];exact b9
    have b6:=perm_of_in' (d:=zs.toArray) (by rw [b9];exact hp);have d7:=zsb c7 hs
    have e5:d'.toList.map El.wd=zj9 f l:=by
     have d1:(d'.toList.map El.wd).Perm l:=(b6.map El.wd).trans (List.Perm.of_eq b5);refine zrq (T.sub fun x hx=>d1.mem_iff.1 hx) (d1.trans (zei f l).symm) ?_ (zjv T);rw [ydv];refine d7.imp fun {a b} hab=>?_;have d0:¬ cfv f b.wd a.wd<0:=by simpa only [ltOf,decide_eq_false_iff_not] using hab
     exact d0
    rw [a8]
    have a2:((d'.toList.map El.enc).flatten).length=l.length*k:=by
     rw [zbv (k:=k) fun x hx=>by obtain ⟨y,_,rfl⟩:=yao.1 hx;exact a3 y];simp [c7]
    have c0:((zj9 f l).map c).flatten.length=l.length*k:=by
     rw [zbv (k:=k) fun x hx=>by obtain ⟨y,_,rfl⟩:=yao.1 hx;exact hk y,zkK,(zei f l).length_eq]
    refine b7 _ _ (own_put a0 a2) (by rw [a2,c0]) (fun u hu=>?_) ⟨rfl,rfl,rfl,?_,fun b hb d3=>put_block hb fun e=>d3 (by simp [zbz,e])⟩ fun i u x hu hx=>?_
    ·obtain ⟨e8,h2,h3⟩:=ydz.1 hu;obtain ⟨y,_,rfl⟩:=yao.1 h2;exact y.property.2.1 u h3
    ·simp [Sort.grow,putRow,mapBlock,Sort.ahead]
    ·have hi:i<l.length*k:=by rw [<- a2];exact (zkI.1 hu).1
     have hq:i / k<l.length:=Nat.div_lt_of_lt_mul (by rwa [yc7] at hi);have hm:i%k<k:=yc3 _ hk0;have c9:i / k*k+i%k=i:=by rw [yc7];exact ydn i k
     have a6:i / k<d'.size:=by rw [c7];exact hq
     have g1:=flat_get (es:=d'.toList.map El.enc) (i:=i / k) (j:=i%k) (e:=El.enc (d'[i / k]'a6)) (fun x hx=>by obtain ⟨y,_,rfl⟩:=yao.1 hx;exact a3 y) (by simp [a6]) hm;have g2:=flat_get (es:=(zj9 f l).map c) (i:=i / k) (j:=i%k) (e:=c (El.wd (d'[i / k]'a6))) (fun x hx=>by obtain ⟨y,_,rfl⟩:=yao.1 hx;exact hk y) (by rw [<- e5];simp [a6]) hm;rw [c9,hu] at g1;rw [c9,hx] at g2;refine ((d'[i / k]'a6).property.2.2.1.2 _ _ _ g1.symm g2.symm).mono (fun b hb=>⟨.inl hb,?_,?_⟩) fun p u hp hu=>put_cell (fun e=>a9 (by rw [<- e];exact hp)) hu
     ·have:w.heap.size<=(Sort.grow (putRow id (Sort.ahead w n) blk 0 ((d'.toList.map El.enc).flatten).toArray) os).heap.size:=by simp [Sort.grow,putRow,mapBlock,Sort.ahead]
      exact ycm (hS b hb) this
     ·intro b2;have:b=blk:=by simpa [zbz] using b2
      subst this;exact a9 hb
end model
end
end Go.Proofs.YteigfkncoiiaiaaGreatDoor.Sym
namespace Go.Proofs.YteigfkncoiiaiaaGreatDoor
section
def zhe (d:Nat):UInt8:=if d<10 then UInt8.ofNat (48+d) else UInt8.ofNat (87+d)
def digsF:Nat->Nat->List UInt8
 | 0,u=>[zhe u]
 | f+1,u=>if u<36 then [zhe u] else digsF f (u / 36)++[zhe (u%36)]
theorem zt5:∀ (f g u:Nat),u<=f->u<=g->digsF f u=digsF g u
 | 0,0,_,_,_=>rfl
 | 0,g+1,u,h,_=>by
  have h0:u=0:=by omega
  subst h0;rfl
 | f+1,0,u,_,h=>by
  have h0:u=0:=by omega
  subst h0;rfl
 | f+1,g+1,u,h1,h2=>by
  unfold digsF;by_cases h:u<36
  ·rw [if_pos h,if_pos h]
  ·rw [if_neg h,if_neg h,zt5 f g (u / 36) (by omega) (by omega)]
def digs (u:Nat):List UInt8:=digsF u u
theorem zgt {u:Nat} (h:u<36):digs u=[zhe u]:=by
 unfold digs;cases u with
 | zero=>rfl
 | succ u=>unfold digsF;rw [if_pos h]
theorem zoc {u:Nat} (h:36<=u):digs u=digs (u / 36)++[zhe (u%36)]:=by
 obtain ⟨v,rfl⟩:∃ v,u=v+1:=⟨u-1,by omega⟩;show digsF (v+1) (v+1)=digsF ((v+1) / 36) ((v+1) / 36)++[zhe ((v+1)%36)];rw [digsF,if_neg (by omega),zt5 v ((v+1) / 36) ((v+1) / 36) (by omega) (Nat.le_refl _)]
theorem digs_len:∀ (k u:Nat),u<36^(k+1)->(digs u).length<=k+1
 | 0,u,h=>by rw [zgt (by simpa using h)];simp
 | k+1,u,h=>by
  by_cases h1:u<36
  ·rw [zgt h1];simp
  ·rw [zoc (by omega),List.length_append];have:=digs_len k (u / 36) (by rw [Nat.div_lt_iff_lt_mul (by omega),<- Nat.pow_succ];exact h);simp;omega
theorem zt4 {u:Nat} (h:u<18446744073709551616):(digs u).length<=13 :=
 digs_len 12 u (Nat.lt_of_lt_of_le h (by decide))
theorem digs_pos (u:Nat):0<(digs u).length:=by
 by_cases h1:u<36
 ·rw [zgt h1];simp
 ·rw [zoc (by omega)];simp
def undig (c:UInt8):Nat:=if c.toNat<58 then c.toNat-48 else c.toNat-87
theorem undig_dig {d:Nat} (h:d<36):undig (zhe d)=d:=by
 have:∀ d:Fin 36,undig (zhe d.1)=d.1:=by decide
 exact this ⟨d,h⟩
theorem dig_char {d:Nat} (h:d<36):48<=(zhe d).toNat:=by
 have:∀ d:Fin 36,48<=(zhe d.1).toNat:=by decide
 exact this ⟨d,h⟩
def undigs (l:List UInt8):Nat:=l.foldl (fun n c=>n*36+undig c) 0
theorem zqn (u:Nat):undigs (digs u)=u:=by
 induction u using Nat.strongRecOn with
 | _ u ih =>
  by_cases h1:u<36
  ·rw [zgt h1];simp [undigs,undig_dig h1]
  ·rw [zoc (by omega),undigs,List.foldl_append];have:=ih (u / 36) (by omega);rw [undigs] at this;simp only [List.foldl_cons,List.foldl_nil,this,undig_dig (Nat.mod_lt u (by omega))];omega
theorem digs_inj {u v:Nat} (h:digs u=digs v):u=v:=by rw [<- zqn u,h,zqn]
theorem zql (u:Nat):∀ c∈digs u,48<=c.toNat:=by
 induction u using Nat.strongRecOn with
 | _ u ih =>
  by_cases h1:u<36
  ·rw [zgt h1];intro c hc;simp at hc;rw [hc];exact dig_char h1
  ·rw [zoc (by omega)];intro c hc;rw [List.mem_append] at hc;rcases hc with hc | hc
   ·exact ih (u / 36) (by omega) c hc
   ·simp at hc;rw [hc];exact dig_char (Nat.mod_lt u (by omega))
def zlj (a:Int):List UInt8:=if a<0 then 45::digs a.natAbs else digs a.natAbs
theorem ztd (a:Int):∀ c∈zlj a,c≠32:=by
 intro c hc e;subst e;unfold zlj at hc;split at hc
 ·simp only [List.mem_cons] at hc;rcases hc with hc | hc
  ·exact absurd hc (by decide)
  ·have:=zql _ _ hc;exact absurd this (by decide)
 ·have:=zql _ _ hc;exact absurd this (by decide)
theorem enc36_inj {a b:Int} (h:zlj a=zlj b):a=b:=by
 have a0:∀ u v:Nat,45::digs u≠digs v:=fun u v e=>by
  have:=zql v 45 (by rw [<- e];simp);exact absurd this (by decide)
 unfold zlj at h;split at h<;>split at h
 ·injection h with _ h
  have:=digs_inj h;omega
 ·exact absurd h (a0 _ _)
 ·exact absurd h.symm (a0 _ _)
 ·have:=digs_inj h;omega
theorem enc36_len {a:Int} (h1:-9223372036854775808<=a) (h2:a<=9223372036854775807):(zlj a).length<=14:=by
 have:=zt4 (u:=a.natAbs) (by omega);unfold zlj;split<;>simp<;>omega
def keyL:List Int->List UInt8
 | []=>[]
 | a::xs=>zlj a++32::keyL xs
theorem zsf:∀ xs ys:List Int,keyL (xs++ys)=keyL xs++keyL ys
 | [],_=>rfl
 | a::xs,ys=>by simp [keyL,zsf xs ys]
theorem split_at {c:UInt8}:∀ {xs ys rs ss:List UInt8},(∀ d∈xs,d≠c)->(∀ d∈ys,d≠c)->xs++c::rs=ys++c::ss->xs=ys∧rs=ss
 | [],[],rs,ss,_,_,h=>by simpa using h
 | [],y::ys,rs,ss,_,h2,h=>by
  simp at h;exact absurd h.1.symm (h2 y (by simp))
 | x::xs,[],rs,ss,h1,_,h=>by
  simp at h;exact absurd h.1 (h1 x (by simp))
 | x::xs,y::ys,rs,ss,h1,h2,h=>by
  simp only [List.cons_append,List.cons.injEq] at h;obtain ⟨e1,e2⟩:=split_at (fun d hd=>h1 d (by simp [hd])) (fun d hd=>h2 d (by simp [hd])) h.2;exact ⟨by rw [h.1,e1],e2⟩
theorem keyL_inj:∀ {xs ys:List Int},keyL xs=keyL ys->xs=ys
 | [],[],_=>rfl
 | [],a::ys,h=>by simp [keyL] at h
 | a::xs,[],h=>by simp [keyL] at h
 | a::xs,b::ys,h=>by
  simp only [keyL] at h;obtain ⟨e1,e2⟩:=split_at (ztd a) (ztd b) h;rw [enc36_inj e1,keyL_inj e2]
theorem keyL_len:∀ {xs:List Int},(∀ x∈xs,-9223372036854775808<=x∧x<=9223372036854775807)->(keyL xs).length<=15*xs.length
 | [],_=>by simp [keyL]
 | a::xs,h=>by
  have h1:=keyL_len (xs:=xs) fun x hx=>h x (by simp [hx]);have h2:=h a (by simp);have h3:=enc36_len h2.1 h2.2;simp only [keyL,List.length_append,List.length_cons];omega
end
section
open Go.RowKit
theorem Tryz.infoByte:(Tryz.prog.info? 5).map (fun i=>(i.zero,i.size,i.bytes))=some (some (.int .u8 0),1,1):=by kernel_rfl
def zg2 (l:List UInt8):List Value:=l.map fun b=>.int .u8 (b.toNat:Int)
theorem zoe (l:List UInt8):(zg2 l).length=l.length:=by simp [zg2]
theorem zjs (l m:List UInt8):zg2 (l++m)=zg2 l++zg2 m:=by simp [zg2]
theorem bcells_one (l:List UInt8):∀ u∈zg2 l,u.oneCell'=true:=by
 intro u hu;simp only [zg2,List.mem_map] at hu;obtain ⟨b,_,rfl⟩:=hu;rfl
def OwnB (w:World) (base:Nat) (v:Value) (l:List UInt8):Prop:=w.ownsRow base 5 1 v l.length (zg2 l)
theorem OwnB.lt {w:World} {base:Nat} {v:Value} {l:List UInt8} (h:OwnB w base v l):∀ k,v.ownBlock=some k->base<=k∧k<w.heap.size:=World.ownsRow.lt h
theorem OwnB.nil_ (w:World) (base:Nat):OwnB w base (.slice none 0 0) []:=World.ownsRow_nil _ _ _ _
def MoreB (w:World) (base:Nat) (l:List UInt8) (e:Ending) (w':World):Prop:=∃ v',e=.returned v'∧OwnB w' base v' l∧Below base w w'
theorem idx36 (k:IntKind) (z:Int) (d:Nat) (hz:z=(d:Int)) (hd:d<36) (w:World) :
  (Instr.index 9 (.string { data:=#[48,49,50,51,52,53,54,55,56,57,97,98,99,100,101,102,103,104,105,106,107,108,109,110,111,112,113,114,115,116,117,118,119,120,121,122] }) (.int k z)).run Tryz.prog w=.ok (.int .u8 ((zhe d).toNat:Int)) w:=by
 subst hz;rw [run_index_string w 9 _ k _ Tryz.underlying9,dif_pos ⟨by omega,by show (d:Int)<((36:Nat):Int);omega⟩];have:∀ d:Fin 36,(({ data:=#[48,49,50,51,52,53,54,55,56,57,97,98,99,100,101,102,103,104,105,106,107,108,109,110,111,112,113,114,115,116,117,118,119,120,121,122] }:ByteArray)[d.1]'(by show d.1<36;exact d.2))=zhe d.1:=by decide
 have h:=this ⟨d,hd⟩;simp only [Int.toNat_natCast];rw [h]
def Dig (zs:List Value) (i:Nat) (l:List UInt8):Prop:=zs.length=65∧zs.drop i=zg2 l
theorem Dig.push {zs:List Value} {j:Nat} {m:List UInt8} (h:Dig zs (j+1) m) (hj:j<65) (c:UInt8):Dig (zs.set j (.int .u8 (c.toNat:Int))) j (c::m):=by
 obtain ⟨h1,h2⟩:=h;refine ⟨by simpa using h1,?_⟩;rw [List.drop_eq_getElem_cons (by simp;omega),List.getElem_set_self,List.drop_set_of_lt (by omega),h2];rfl
set_option maxRecDepth 100000 in
set_option maxHeartbeats 1600000 in
theorem zsy {B u:Nat} {sv:Value} {l:List UInt8} {w:World} (hu:u<18446744073709551616) (hown:OwnB w B sv l) (hB:B<=w.heap.size) (hl:l.length<=1000000000) :
  Calls Tryz.prog 175 #[sv,.int .u64 u,.int .i64 36,.bool false,.bool true] w (fun e w'=>∃ v',e=.returned (.tuple #[v',.string ByteArray.empty])∧OwnB w' B v' (l++digs u)∧Below B w w'):=by
 obtain ⟨i0,hi,c7,b8,c0⟩:=info_parts Tryz.infoByte;have b4:=Lib.hid hown;clear hown;have c8:(bits BinOp.and IntKind.i64 36 35==0)=false:=by decide
 go_enter Tryz.func175,Tryz.ntmps175
 go_wp2
 go_loopw [1,13,18] (fun v i _ wr=>∃ k j:Nat,∃ m:List UInt8,∃ zs,v=.int .u64 k∧i=.int .i64 j∧k<18446744073709551616∧j+m.length=65∧Hid (digs k++m=digs u)∧Hid (Dig zs j m)∧wr.ownsRow w.heap.size 213 1 (.slice (some ⟨w.heap.size,0,none⟩) 65 65) 65 zs∧Below w.heap.size w wr) (fun v _ _ _=>(intOf v).toNat)
 case atStart=>exact ⟨u,65,[],_,rfl,rfl,hu,rfl,Lib.hid (by simp),Lib.hid ⟨rfl,rfl⟩,World.ownsRow_lit w _ 65 (Nat.le_refl _) (by unfold maxLen;omega) rfl,(Below.refl _ _).alloc (Nat.le_refl _) _⟩
 case round =>
  obtain ⟨k,j,m,zs,rfl,rfl,hk,hj,HD,HZ,a2,a5⟩:=hrel
  have d1:m.length<=12:=by
   have h1:=congrArg List.length HD.out;rw [List.length_append] at h1;have h2:=digs_pos k;have h3:=zt4 hu;omega
  obtain ⟨j,rfl⟩:∃ j':Nat,j=j'+1:=⟨j-1,by omega⟩;have b6:j<zs.length:=by rw [HZ.out.1];omega
  have q1:wr.cell? ⟨w.heap.size,j,none⟩=some (zs[j]):=by rw [a2.cellAt j (by omega)];exact List.getElem?_eq_getElem b6
  have q2:wr.frozen? ⟨w.heap.size,j,none⟩=false:=a2.frozenAt j;generalize zs[j]=z0 at q1;have HR:=Lib.hid a2;have HB:=Lib.hid a5;clear a2 a5 b6;by_cases h1:36<=k
  ·have e0:((j+1:Nat):Int)-1=(j:Int):=by omega
   have b9:=fun W=>idx36 .u64 ((k:Int)-(k:Int) / 36*36) (k%36) (by omega) (by omega) W
   go_wp2
   go_roundw
   case rel =>
    obtain ⟨s1,s2⟩:=HR.out.stored j (.int .u8 ((zhe (k%36)).toNat:Int));exact ⟨k / 36,j,zhe (k%36)::m,_,by go_num,rfl,by omega,by simp;omega,Lib.hid (by rw [<- HD.out,zoc h1];simp),Lib.hid (HZ.out.push (by omega) _),s1,HB.out.grown s2 HB.out.size (fun g e=>by injection e with e;omega)⟩
   case measure=>simp [intOf]<;>omega
  ·have e0:((j+1:Nat):Int)-1=(j:Int):=by omega
   have b9:=fun W=>idx36 .u64 (k:Int) k rfl (by omega) W;have a9:Tryz.prog.arrayLen 213=65:=by simp [Program.arrayLen,Tryz.underlying213]
   have d2:∀ W,(Instr.sliceAt 213 (.pointer (some ⟨w.heap.size,0,none⟩)) (some (.int .i64 (j:Int))) none none).run Tryz.prog W=.ok (.slice (some ⟨w.heap.size,j,none⟩) (65-j) (65-j)) W:=fun W=>by
    rw [run_sliceAt_array_l W 213 ⟨w.heap.size,0,none⟩ (by simp [Program.arrayLen,Program.elem,Tryz.underlying213]) .i64 (j:Int) (by omega) (by rw [a9];omega)]
    go_simp
    omega
   obtain ⟨s1,s2⟩:=HR.out.stored j (.int .u8 ((zhe k).toNat:Int));have a4:Below w.heap.size w (wr.setCell ⟨w.heap.size,j,none⟩ (.int .u8 ((zhe k).toNat:Int))):=HB.out.grown s2 HB.out.size (fun g e=>by injection e with e;omega);have a0:OwnB (wr.setCell ⟨w.heap.size,j,none⟩ (.int .u8 ((zhe k).toNat:Int))) B sv l:=World.ownsRow.kept b4.out (ztg a4) (by cases sv.ownBlock<;>simp);have b2:=HZ.out.push (by omega) (zhe k)
   have b5:Src (wr.setCell ⟨w.heap.size,j,none⟩ (.int .u8 ((zhe k).toNat:Int))) (some ⟨w.heap.size,j,none⟩) (65-j) (zg2 (zhe k::m)):=by
    refine ⟨by rw [zoe];simp;omega,fun _=>⟨_,_,rfl,fun i v hv=>?_⟩⟩;have hi:i<(zg2 (zhe k::m)).length:=(List.getElem?_eq_some_iff.1 hv).1;rw [zoe,List.length_cons] at hi;rw [s1.cellAt (j+i) (by omega),<- hv,<- b2.2,List.getElem?_drop]
   have a7:=bcells_one (zhe k::m);have b7:l.length+(65-j)<=maxLen:=by unfold maxLen;omega
   have c6:(l.length+(65-j))*1<=140737488355328:=by omega
   have b3:B<=(wr.setCell ⟨w.heap.size,j,none⟩ (.int .u8 ((zhe k).toNat:Int))).heap.size:=Nat.le_trans hB a4.size
   have a3:zg2 l++zg2 (zhe k::m)=zg2 (l++digs u):=by
    rw [<- zjs,<- HD.out,zgt (by omega)];rfl
   have a8:l.length+(65-j)=(l++digs u).length:=by
    rw [<- HD.out,zgt (by omega)];simp;omega
   have HF:=Lib.hid (And.intro a3 a8);have c9:=Lib.hid a4;clear s1 s2 b2 a4 a3 a8 a9;unfold OwnB at a0
   go_wp2_with (at_builtin;refine zgy rfl (.tmp 95) (.tmp 97) 154 rfl B 5 i0 (.int .u8 0) 1 Tryz.underlying154 hi c7 b8 c0 rfl sv _ _ rfl a0 _ (65-j) (65-j) _ rfl b5 a7 b7 c6 b3 ?_;intro v1 w1 a6 d0 d4)
   go_ret2
   have d3:=a0;refine ⟨_,rfl,?_,?_⟩
   ·unfold OwnB;rw [<- HF.out.1,<- HF.out.2];exact a6
   ·exact (c9.out.mono hB).grown d0 b3 fun g e=>(OwnB.lt a0 g e).1
set_option maxRecDepth 100000 in
set_option maxHeartbeats 800000 in
theorem zmi {B u:Nat} {sv:Value} {l:List UInt8} {w:World} (hu:u<18446744073709551616) (hown:OwnB w B sv l) (hB:B<=w.heap.size) (hl:l.length<=1000000000) :
  Calls Tryz.prog 163 #[sv,.int .u64 u,.int .i64 36] w (MoreB w B (l++digs u)):=by
 have a0:=zsy hu hown hB hl;clear hown
 go_enter Tryz.func163,Tryz.ntmps163
 go_wp2_with (go_at_call 175;refine a0.mono ?_;rintro e w' ⟨v',rfl,a2,a3⟩)
 go_ret
 exact ⟨_,rfl,a2,a3⟩
set_option maxRecDepth 100000 in
set_option maxHeartbeats 800000 in
theorem appendInt_any {B:Nat} {a:Int} {sv:Value} {l:List UInt8} {w:World} (ha1:-9223372036854775808<=a) (ha2:a<=9223372036854775807) (hown:OwnB w B sv l) (hB:B<=w.heap.size) (hl:l.length<=100000000) :
  Calls Tryz.prog 141 #[sv,.int .i64 a,.int .i64 36] w (MoreB w B (l++zlj a)):=by
 obtain ⟨i0,hi,c7,b5,b6⟩:=info_parts Tryz.infoByte;by_cases h1:a<0
 ·have b2:∀ t,Src (w.alloc (.cells #[.int .u8 45] t)) (some ⟨w.heap.size,0,none⟩) 1 [.int .u8 45]:=fun t=>src_one w _ t;have a9:∀ u∈[Value.int .u8 45],u.oneCell'=true:=by intro u hu;simp at hu;subst hu;rfl
  have a3:∀ o,(w.alloc o).ownsRow B 5 1 sv l.length (zg2 l):=fun o=>World.ownsRow.alloc hown o;have b4:l.length+1<=maxLen:=by unfold maxLen;omega
  have b9:(l.length+1)*1<=140737488355328:=by omega
  have a6:∀ o,B<=(w.alloc o).heap.size:=fun o=>by simp;omega
  have b7:=OwnB.lt hown;have c6:∀ o,Below B w (w.alloc o):=fun o=>(Below.refl B w).alloc hB o;have b3:=Lib.hid hown;clear hown;have e1:(zlj a)=45::digs a.natAbs:=by unfold zlj;rw [if_pos h1]
  have HE:=Lib.hid e1;clear e1
  go_enter Tryz.func141,Tryz.ntmps141
  go_wp2_with (at_builtin;refine zgy rfl (.tmp 12) (.tmp 13) 154 rfl B 5 i0 (.int .u8 0) 1 Tryz.underlying154 hi c7 b5 b6 rfl sv _ _ rfl (a3 _) _ 1 1 [.int .u8 45] rfl (b2 _) a9 b4 b9 (a6 _) ?_;intro v1 w1 a4 a7 b8)
  have hw:IntKind.u64.wrap (-IntKind.u64.wrap a)=((a.natAbs:Nat):Int):=by
   rw [IntKind.wrap_u64,IntKind.wrap_u64];omega
  rw [hw]
  have a5:OwnB w1 B v1 (l++[45]):=by
   unfold OwnB;rw [zjs,List.length_append];exact a4
  have c0:Below B w w1:=(c6 _).grown a7 (a6 _) fun g e=>(b7 g e).1;have a0:=zmi (u:=a.natAbs) (by omega) a5 (Nat.le_trans hB (by have:=a7.size;simp at this;omega)) (by simp;omega);clear a4 a7 b8 a5 a3 b2 a6;refine a0.mono ?_;rintro e w' ⟨v',rfl,a2,a8⟩
  go_wp2
  go_ret
  refine ⟨_,rfl,?_,c0.trans a8⟩;rw [HE.out];simpa using a2
 ·have b3:=Lib.hid hown;have e1:(zlj a)=digs a.natAbs:=by unfold zlj;rw [if_neg h1]
  have hw:IntKind.u64.wrap a=((a.natAbs:Nat):Int):=by
   rw [IntKind.wrap_u64];omega
  have a0:=zmi (u:=a.natAbs) (by omega) hown hB (by omega);clear hown
  go_enter Tryz.func141,Tryz.ntmps141
  go_wp2_with (go_at_call 163;refine a0.mono ?_;rintro e w' ⟨v',rfl,a2,a8⟩)
  go_ret
  exact ⟨_,rfl,by rw [e1];exact a2,a8⟩
set_option maxRecDepth 100000 in
theorem zmd {B:Nat} {a:Int} {sv:Value} {l:List UInt8} {w:World} (ha1:-9223372036854775808<=a) (ha2:a<=9223372036854775807) (hown:OwnB w B sv l) (hB:B<=w.heap.size) (hl:l.length<=100000000) :
  Calls Tryz.prog 125 #[sv,.int .i64 a,.int .i64 36] w (MoreB w B (l++zlj a)):=by
 have a0:=appendInt_any ha1 ha2 hown hB hl;clear hown
 go_enter Tryz.func125,Tryz.ntmps125
 go_wp2_with (go_at_call 141;refine a0.mono ?_;rintro e w' ⟨v',rfl,a2,a3⟩)
 go_ret
 exact ⟨_,rfl,a2,a3⟩
theorem keyL_take {xs:List Int} {k:Nat} {x:Int} (h:xs[k]?=some x):keyL (xs.take (k+1))=(keyL (xs.take k)++zlj x)++[32]:=by
 rw [zcy h,zsf];simp [keyL]
def Rng (x:Int):Prop:=-9223372036854775808<=x∧x<=9223372036854775807
def KeyPost (w:World) (l:List UInt8) (e:Ending) (w':World):Prop:=e=.returned (.string ⟨l.toArray⟩)∧Below w.heap.size w w'
set_option maxRecDepth 100000 in
set_option maxHeartbeats 1600000 in
theorem key_any {A:Option Addr} {n c:Nat} {xs:List Int} {w:World} (hx:zgk w zmw A n c xs) (hr:∀ x∈xs,Rng x) (hn:n<=2000000) :
  Calls Tryz.prog 94 #[.slice A n c] w (KeyPost w (keyL xs)):=by
 have HL:=Lib.hid hx.len;have HR:=Lib.hid hr;obtain ⟨i0,hi,d0,c0,c6⟩:=info_parts Tryz.infoByte;clear hr
 go_enter Tryz.func94,Tryz.ntmps94
 go_wp2
 go_loopw [3,5,8] (fun v _ i wr=>∃ k:Nat,k<=n∧i=.int .i64 k∧OwnB wr w.heap.size v (keyL (xs.take k))∧Below w.heap.size w wr) (fun _ _ i _=>n-(intOf i).toNat)
 case atStart=>exact ⟨0,by omega,rfl,OwnB.nil_ _ _,Below.refl _ _⟩
 case round =>
  obtain ⟨k,hk,rfl,a0,a3⟩:=hrel
  have d3:(keyL (xs.take k)).length<=15*k:=by
   have:=keyL_len (xs:=xs.take k) fun x hx=>HR.out x (List.mem_of_mem_take hx);rw [List.length_take] at this;omega
  by_cases h1:k<n
  ·obtain ⟨b,o,x,rfl,b3,b7⟩:=hx.int_at h1;have hc:=Keeps.of_below a3 _ _ b7;have a5:=HR.out x (List.mem_of_getElem? b3);have HX:=Lib.hid b3;have HC:=Lib.hid (zmd a5.1 a5.2 a0 a3.size (by omega));have d2:=enc36_len a5.1 a5.2;have HB:=Lib.hid a3;clear b3 b7 a5 a0 a3;have b5:∀ u∈[Value.int .u8 32],u.oneCell'=true:=by intro u hu;simp at hu;subst hu;rfl
   have b9:(keyL (xs.take k)++zlj x).length+1<=maxLen:=by unfold maxLen;simp;omega
   have c7:((keyL (xs.take k)++zlj x).length+1)*1<=140737488355328:=by simp;omega
   go_wp2_with (first | (go_at_call 125;refine HC.out.mono ?_;rintro e w1 ⟨v1,rfl,a4,b2⟩;have HH:=Lib.hid (And.intro a4 b2);have b8:=fun t=>src_one w1 (.int .u8 32) t;have a7:=fun o=>World.ownsRow.alloc a4 o;have a9:∀ o,w.heap.size<=(w1.alloc o).heap.size:=(fun o=>by have:=HB.out.size;have:=b2.size;simp;omega);clear a4 b2) | (at_builtin;refine zgy rfl (.tmp 14) (.tmp 15) 154 rfl w.heap.size 5 i0 (.int .u8 0) 1 Tryz.underlying154 hi d0 c0 c6 rfl v1 _ _ rfl (a7 _) _ 1 1 [.int .u8 32] rfl (b8 _) b5 b9 c7 (a9 _) ?_;intro v2 w2 a6 b4 c9))
   have b6:OwnB w2 w.heap.size v2 (keyL (xs.take (k+1))):=by
    unfold OwnB;rw [keyL_take HX.out,zjs,List.length_append];exact a6
   have a8:Below w.heap.size w w2:=((HB.out.trans (HH.out.2.mono (Nat.le_refl _))).alloc (by have:=HB.out.size;have:=HH.out.2.size;omega) _).grown b4 (a9 _) fun g e=>(OwnB.lt HH.out.1 g e).1;clear a6 b4 c9 b8 a7 a9
   go_roundw
   case rel=>exact ⟨k+1,by omega,by go_num,b6,a8⟩
   case measure=>simp [intOf]<;>omega
  ·rw [List.take_of_length_le (by rw [HL.out];omega)] at a0
   have d1:(convert 154 9 u3).run Tryz.prog wr=.ok (.string ⟨(keyL xs).toArray⟩) wr:=by
    rcases a0.2 with ⟨rfl,h0⟩ | ⟨g,c8,cur,rfl,_,_,_⟩
    ·have a2:keyL xs=[]:=List.eq_nil_of_length_eq_zero h0;rw [a2];exact Lib.run_convert_nil_bytes wr _ _ _ 0 Tryz.underlying154 Tryz.underlying5 Tryz.underlying9
    ·refine run_convert_bytes_back wr _ _ _ ⟨g,0,none⟩ c8 (keyL xs) Tryz.underlying154 Tryz.underlying5 Tryz.underlying9 fun j hj=>?_;rw [a0.cells (g:=g) rfl j (.int .u8 ((keyL xs)[j].toNat:Int)) (by simp [zg2,hj])]
   clear a0
   go_wp2
   go_ret
   exact ⟨rfl,a3⟩
end
end Go.Proofs.YteigfkncoiiaiaaGreatDoor
namespace Go.Proofs.YteigfkncoiiaiaaGreatDoor.Sym
section
open Go.RowKit
theorem zfd {w:World} {S:Nat->Prop} {v:Value} {l:yab} (h:RepI w S v (nL cI l)):∃ A n c,v=.slice A n c∧zgk w zmw A n c l:=by
 have h:RepI w S v (.sl (l.map cI)):=h;generalize he:l.map cI=es at h;cases h with
 | emp A c =>
  have:l=[]:=by simpa using he
  subst this;exact ⟨A,0,c,rfl,rfl,yag _,by omega,fun h=>by omega⟩
 | sl b o c k n _ us hn hk hc hs hS hl h1 hu hr =>
  subst he
  have hf:(l.map cI).flatten=l.map fun x=>nI x:=by
   clear hn hk hl hr h
   induction l with
   | nil=>rfl
   | cons x l ih=>rw [ya1,ybc,ih];rfl
  rw [hf] at hl hr;refine ⟨_,_,_,rfl,by simpa using hn,hc,hs,fun _=>⟨b,o,rfl,fun i x hx=>?_⟩⟩;have hi:i<us.length:=by rw [hl,zkK];exact (zkI.1 hx).1
  have hg:=zkM hi;refine ⟨_,hu i _ hg,?_⟩;have:=hr i _ (nI x) hg (by rw [yaf,hx];rfl);generalize us[i]=u at this;cases this with
  | val _=>rfl
def zj6 (l:yab):Option ByteArray:=chk (∀ x∈l,inR x) (chk (l.length<=2000000) (some ⟨(keyL l).toArray⟩))
set_option maxRecDepth 100000 in
theorem zsz (l:yab) (r:ByteArray) (h:zj6 l=some r):Sp Tryz.prog 94 [.im (nL cI l)] (.im (nS r)):=by
 obtain ⟨h1,h⟩:=zan h;obtain ⟨h2,h⟩:=zan h;injection h with h
 subst h;refine ⟨fun args w=>zen rfl rfl rfl args w,fun w S vs F hS hv hn hF=>?_⟩
 match vs,hv with
 | [v],⟨F1,F2,⟨h3,e1⟩,h4,e2⟩ =>
  have h4:F2=[]:=h4;subst e1 h4 e2;obtain ⟨A,n,c,rfl,a0⟩:=zfd h3;refine (key_any a0 h1 (by rw [<- a0.1];exact h2)).mono ?_;rintro e w' ⟨rfl,hb⟩;exact ⟨_,[],rfl,.of hb,⟨[_],[],[],rfl,⟨[],[],⟨.val _,rfl⟩,rfl,rfl⟩,rfl,rfl⟩,ycz,fun b hb=>by simp at hb⟩
end
end Go.Proofs.YteigfkncoiiaiaaGreatDoor.Sym
namespace Go.Proofs.YteigfkncoiiaiaaGreatDoor
section
open Go.RowKit
def cmpI (x y:Int):Int:=if x<y then -1 else if y<x then 1 else 0
theorem ziv (x y:Int) (w:World) :
  Calls Tryz.prog 129 #[.int .i64 x,.int .i64 y] w fun e w'=>e=.returned (.int .i64 (cmpI x y))∧w=w':=by
 by_cases h1:x<y
 ·go_enter Tryz.func129,Tryz.ntmps129
  go_wp2
  go_ret
  exact ⟨zim (by unfold cmpI;rw [if_pos h1]),rfl⟩
 ·by_cases h2:y<x
  ·go_enter Tryz.func129,Tryz.ntmps129
   go_wp2
   go_ret
   exact ⟨zim (by unfold cmpI;rw [if_neg (by omega),if_pos h2]),rfl⟩
  ·go_enter Tryz.func129,Tryz.ntmps129
   go_wp2
   go_ret
   exact ⟨zim (by unfold cmpI;rw [if_neg (by omega),if_neg (by omega)]),rfl⟩
theorem lexI_step {xs ys:List Int} {k:Nat} {x y:Int} (hx:xs[k]?=some x) (hy:ys[k]?=some y) :
  lexI (xs.drop k) (ys.drop k)=if cmpI x y=0 then lexI (xs.drop (k+1)) (ys.drop (k+1)) else cmpI x y:=by
 obtain ⟨h1,a2⟩:=List.getElem?_eq_some_iff.1 hx;obtain ⟨h2,a0⟩:=List.getElem?_eq_some_iff.1 hy;rw [List.drop_eq_getElem_cons h1,List.drop_eq_getElem_cons h2,a2,a0];simp only [lexI,cmpI];by_cases a:x<y
 ·simp [a]
 ·by_cases b:y<x
  ·simp [a,b]
  ·simp [a,b]
theorem lexI_long {xs ys:List Int} {k:Nat} (h1:k<xs.length) (h2:ys.length<=k):lexI (xs.drop k) (ys.drop k)=1:=by
 rw [List.drop_eq_getElem_cons h1,List.drop_eq_nil_of_le h2];rfl
theorem lexI_end {xs ys:List Int} {k:Nat} (h1:xs.length<=k):lexI (xs.drop k) (ys.drop k)=if k<ys.length then -1 else 0:=by
 rw [List.drop_eq_nil_of_le h1];by_cases h2:k<ys.length
 ·rw [if_pos h2,List.drop_eq_getElem_cons h2];rfl
 ·rw [if_neg h2,List.drop_eq_nil_of_le (by omega)];rfl
set_option maxHeartbeats 800000 in
theorem zi6 {A B:Option Addr} {n c m c':Nat} {xs ys:List Int} {w:World} (hx:zgk w zmw A n c xs) (hy:zgk w zmw B m c' ys) :
  Calls Tryz.prog 130 #[.slice A n c,.slice B m c'] w fun e w'=>e=.returned (.int .i64 (lexI xs ys))∧w=w':=by
 have hn:=hx.small;have hm:=hy.small;have HL:=Lib.hid (And.intro hx.len hy.len)
 go_enter Tryz.func130,Tryz.ntmps130
 go_wp2
 go_loop [5,6,7,8,11] (fun _ _ _ _ i=>∃ k:Nat,k<=n∧k<=m∧i=.int .i64 k∧Hid (lexI xs ys=lexI (xs.drop k) (ys.drop k))) (fun _ _ _ _ i=>n-(intOf i).toNat)
 case atStart=>exact ⟨0,by omega,by omega,rfl,Lib.hid (by simp)⟩
 case round =>
  obtain ⟨k,hk,a7,rfl,HT⟩:=hrel;by_cases h1:k<n
  ·obtain ⟨b,o,x,rfl,a3,a6⟩:=hx.int_at h1;have HX:=Lib.hid a3;clear a3;by_cases h2:k<m
   ·obtain ⟨b',o',y,rfl,a4,a5⟩:=hy.int_at h2;have HY:=Lib.hid a4;clear a4;have a0:=lexI_step HX.out HY.out;by_cases h3:cmpI x y=0
    ·rw [if_pos h3] at a0;have a2:=Lib.hid a0;have d3:(cmpI x y != 0)=false:=by simp [h3]
     have H3:=Lib.hid h3;clear h3 a0
     go_wp2_with (go_at_call 129;refine (ziv _ _ _).mono ?_;rintro e w' ⟨rfl,rfl⟩)
     go_round
     case rel=>exact ⟨k+1,by omega,by omega,by go_num,Lib.hid (by rw [HT.out,a2.out])⟩
     case measure=>simp [intOf];omega
    ·rw [if_neg h3] at a0;have a2:=Lib.hid a0;have d3:(cmpI x y != 0)=true:=by simp [h3]
     clear h3 a0
     go_wp2_with (go_at_call 129;refine (ziv _ _ _).mono ?_;rintro e w' ⟨rfl,rfl⟩)
     go_ret
     exact ⟨zim (by rw [HT.out,a2.out]),rfl⟩
   ·go_wp2
    go_ret
    obtain ⟨h3,h4⟩:=HL.out;exact ⟨zim (by rw [HT.out,lexI_long (by omega) (by omega)]),rfl⟩
  ·obtain ⟨h3,h4⟩:=HL.out;have HE:=Lib.hid (lexI_end (xs:=xs) (ys:=ys) (k:=k) (by omega));clear h3 h4;by_cases h2:n<m
   ·go_wp2
    go_ret
    obtain ⟨h3,h4⟩:=HL.out;exact ⟨zim (by rw [HT.out,HE.out,if_pos (by omega)]),rfl⟩
   ·go_wp2
    go_ret
    obtain ⟨h3,h4⟩:=HL.out;exact ⟨zim (by rw [HT.out,HE.out,if_neg (by omega)]),rfl⟩
theorem zq1 {A B:Option Addr} {n c m c':Nat} {xs ys:List Int} {w:World} (hx:zgk w zmw A n c xs) (hy:zgk w zmw B m c' ys) :
  Calls Tryz.prog 99 #[.slice A n c,.slice B m c'] w fun e w'=>e=.returned (.int .i64 (lexI xs ys))∧w=w':=by
 go_enter Tryz.func99,Tryz.ntmps99
 go_wp2_with (go_at_call 130;refine (zi6 hx hy).mono ?_;rintro e w' ⟨rfl,rfl⟩)
 go_ret
 exact ⟨rfl,rfl⟩
def orI (xs:List Int):Int:=(xs.find? fun a=>a != 0).getD 0
set_option maxHeartbeats 400000 in
theorem cmpOr_any {A:Option Addr} {n c:Nat} {xs:List Int} {w:World} (hx:zgk w zmw A n c xs) :
  Calls Tryz.prog 128 #[.slice A n c] w fun e w'=>e=.returned (.int .i64 (orI xs))∧w=w':=by
 have a3:=hx.small;have HL:=Lib.hid hx.len
 go_enter Tryz.func128,Tryz.ntmps128
 go_wp2
 go_loop [5,8] (fun _ i=>∃ k:Nat,k<=n∧i=.int .i64 k∧Hid (((xs.take k).find? fun a=>a != 0)=none)) (fun _ i=>n-(intOf i).toNat)
 case atStart=>exact ⟨0,by omega,rfl,Lib.hid (by simp)⟩
 case round =>
  obtain ⟨k,hk,rfl,HT⟩:=hrel;by_cases h1:k<n
  ·obtain ⟨b,o,x,rfl,a0,a4⟩:=hx.int_at h1;have HX:=Lib.hid a0;clear a0;by_cases h2:x=0
   ·have d2:(x != 0)=false:=by simp [h2]
    have H2:=Lib.hid h2;clear h2
    go_wp2
    go_round
    case rel=>exact ⟨k+1,by omega,by go_num,Lib.hid (by rw [zcy HX.out,List.find?_append,HT.out,H2.out];rfl)⟩
    case measure=>simp [intOf]<;>omega
   ·have d2:(x != 0)=true:=by simp [h2]
    go_wp2
    go_ret
    refine ⟨zim ?_,rfl⟩;have a2:=List.take_append_drop (k+1) xs;unfold orI;rw [<- a2,List.find?_append,zcy HX.out,List.find?_append,HT.out];simp [h2]
  ·go_wp2
   go_ret
   have ht:=HT.out;rw [List.take_of_length_le (by rw [HL.out];omega)] at ht;exact ⟨zim (by unfold orI;rw [ht];rfl),rfl⟩
theorem orI_cmp (xs ys:List Int):orI [cmpI xs.length ys.length,lexI xs ys]=cmpW xs ys:=by
 unfold orI cmpI cmpW;by_cases h1:xs.length<ys.length
 ·rw [if_pos (by omega),if_pos h1];rfl
 ·by_cases h2:ys.length<xs.length
  ·rw [if_neg (by omega),if_pos (by omega),if_neg h1,if_pos h2];rfl
  ·rw [if_neg (by omega),if_neg (by omega),if_neg h1,if_neg h2];by_cases h3:lexI xs ys=0
   ·simp [h3]
   ·simp [h3]
theorem src_two {w:World} (x y:Value) (t:TypeId):Src (w.alloc (.cells #[x,y] t)) (some ⟨w.heap.size,0,none⟩) 2 [x,y] :=
 ⟨rfl,fun _=>⟨_,_,rfl,fun j u hu=>by
  have:=cell_two_new w x y t j u hu
  rwa [addr_add] at this⟩⟩
theorem ints_row {w:World} (x y:Int) (t:TypeId):zgk (w.alloc (.cells #[.int .i64 x,.int .i64 y] t)) zmw (some ⟨w.heap.size,0,none⟩) 2 2 [x,y]:=by
 refine ⟨rfl,Nat.le_refl _,by omega,fun _=>⟨_,_,rfl,fun i z hz=>?_⟩⟩;obtain ⟨_,hc⟩:=src_two (w:=w) (.int .i64 x) (.int .i64 y) t;obtain ⟨b,o,e,a0⟩:=hc (by omega);injection e with e
 injection e with e1 e2
 subst e1 e2
 match i,hz with
 | 0,hz =>
  simp at hz;subst hz;exact ⟨_,a0 0 _ rfl,rfl⟩
 | 1,hz =>
  simp at hz;subst hz;exact ⟨_,a0 1 _ rfl,rfl⟩
set_option maxHeartbeats 400000 in
theorem zr1 {A B:Option Addr} {n c m c':Nat} {xs ys:List Int} {w:World} (hx:zgk w zmw A n c xs) (hy:zgk w zmw B m c' ys) :
  Calls Tryz.prog 96 #[.slice A n c,.slice B m c'] w fun e w'=>e=.returned (.int .i64 (cmpW xs ys))∧w.alloc (.cells #[.int .i64 (cmpI xs.length ys.length),.int .i64 (lexI xs ys)] 3)=w':=by
 have hn:=hx.small;have hm:=hy.small;have a0:=Lib.hid (zi6 hx hy);have HE:=Lib.hid (orI_cmp xs ys);have h1:=hx.len;have h2:=hy.len;have HO:=Lib.hid (fun t=>cmpOr_any (ints_row (w:=w) (cmpI xs.length ys.length) (lexI xs ys) t));rw [h1,h2] at HE HO;rw [h1,h2];clear h1 h2 hx hy
 go_enter Tryz.func96,Tryz.ntmps96
 go_wp2_with (first | (go_at_call 129;refine (ziv _ _ _).mono ?_;rintro e w' ⟨rfl,rfl⟩) | (go_at_call 130;refine a0.out.mono ?_;rintro e w' ⟨rfl,rfl⟩) | (go_at_call 128;refine (HO.out _).mono ?_;rintro e w' ⟨rfl,rfl⟩))
 go_ret
 exact ⟨zim HE.out,rfl⟩
end
end Go.Proofs.YteigfkncoiiaiaaGreatDoor
namespace Go.Proofs
section
open Go.Shelf
def Tryz.sortW_ren:Go.Shelf.Ren:=⟨fun | 6=>95 | 15=>127 | 14=>126 | 28=>150 | 29=>151 | 20=>142 | 21=>143 | 22=>144 | 23=>145 | 24=>146 | 25=>147 | 26=>148 | 27=>149 | 46=>164 | 47=>165 | 48=>166 | 49=>167 | 50=>168 | 57=>176 | n=>n,fun | 22=>22 | 24=>25 | 25=>76 | 3=>3 | 39=>158 | 0=>0 | 53=>180 | 55=>182 | 4=>4 | 46=>174 | 45=>173 | 50=>86 | 5=>5 | 9=>9 | 66=>191 | 70=>195 | 76=>207 | 77=>208 | n=>n,fun | n=>n⟩
theorem Tryz.sortW:Go.Proofs.SlLaysF.n6 Tryz.prog Tryz.sortW_ren:={
 mixed:=by kernel_rfl
 f6:=⟨Tryz.f95.name,by decide,Tryz.func95.trans (congrArg some (by kernel_rfl))⟩
 f14:=⟨Tryz.f126.name,by decide,Tryz.func126.trans (congrArg some (by kernel_rfl))⟩
 f15:=Tryz.func127.trans (congrArg some (by kernel_rfl))
 f20:=⟨Tryz.f142.name,by decide,Tryz.func142.trans (congrArg some (by kernel_rfl))⟩
 f21:=⟨Tryz.f143.name,by decide,Tryz.func143.trans (congrArg some (by kernel_rfl))⟩
 f22:=⟨Tryz.f144.name,by decide,Tryz.func144.trans (congrArg some (by kernel_rfl))⟩
 f23:=⟨Tryz.f145.name,by decide,Tryz.func145.trans (congrArg some (by kernel_rfl))⟩
 f24:=⟨Tryz.f146.name,by decide,Tryz.func146.trans (congrArg some (by kernel_rfl))⟩
 f25:=⟨Tryz.f147.name,by decide,Tryz.func147.trans (congrArg some (by kernel_rfl))⟩
 f26:=⟨Tryz.f148.name,by decide,Tryz.func148.trans (congrArg some (by kernel_rfl))⟩
 f27:=⟨Tryz.f149.name,by decide,Tryz.func149.trans (congrArg some (by kernel_rfl))⟩
 f28:=Tryz.func150.trans (congrArg some (by kernel_rfl))
 f29:=Tryz.func151.trans (congrArg some (by kernel_rfl))
 f46:=⟨Tryz.f164.name,by decide,Tryz.func164.trans (congrArg some (by kernel_rfl))⟩
 f47:=Tryz.func165.trans (congrArg some (by kernel_rfl))
 f48:=Tryz.func166.trans (congrArg some (by kernel_rfl))
 f49:=⟨Tryz.f167.name,by decide,Tryz.func167.trans (congrArg some (by kernel_rfl))⟩
 f50:=⟨Tryz.f168.name,by decide,Tryz.func168.trans (congrArg some (by kernel_rfl))⟩
 f57:=⟨Tryz.f176.name,by decide,Tryz.func176.trans (congrArg some (by kernel_rfl))⟩
 t0:=Tryz.underlying0
 a0:=Tryz.isAgg0
 z0:=Tryz.sizeOf0
 v0:=Tryz.zeroValue0
 t3:=Tryz.underlying3
 a3:=Tryz.isAgg3
 z3:=Tryz.sizeOf3
 v3:=Tryz.zeroValue3
 t4:=Tryz.underlying4
 a4:=Tryz.isAgg4
 z4:=Tryz.sizeOf4
 v4:=Tryz.zeroValue4
 t5:=Tryz.underlying5
 a5:=Tryz.isAgg5
 z5:=Tryz.sizeOf5
 v5:=Tryz.zeroValue5
 t9:=Tryz.underlying9
 a9:=Tryz.isAgg9
 z9:=Tryz.sizeOf9
 v9:=Tryz.zeroValue9
 t22:=Tryz.underlying22
 a22:=Tryz.isAgg22
 z22:=Tryz.sizeOf22
 v22:=Tryz.zeroValue22
 a24:=Tryz.isAgg25
 z24:=Tryz.sizeOf25
 t25:=Tryz.underlying76
 a25:=Tryz.isAgg76
 z25:=Tryz.sizeOf76
 v25:=Tryz.zeroValue76
 t39:=Tryz.underlying158
 a39:=Tryz.isAgg158
 z39:=Tryz.sizeOf158
 v39:=Tryz.zeroValue158
 t45:=Tryz.underlying173
 a45:=Tryz.isAgg173
 z45:=Tryz.sizeOf173
 v45:=Tryz.zeroValue173
 t46:=Tryz.underlying174
 a46:=Tryz.isAgg174
 z46:=Tryz.sizeOf174
 v46:=Tryz.zeroValue174
 t50:=Tryz.underlying86
 a50:=Tryz.isAgg86
 z50:=Tryz.sizeOf86
 v50:=Tryz.zeroValue86
 t53:=Tryz.underlying180
 a53:=Tryz.isAgg180
 z53:=Tryz.sizeOf180
 v53:=Tryz.zeroValue180
 t55:=Tryz.underlying182
 a55:=Tryz.isAgg182
 z55:=Tryz.sizeOf182
 v55:=Tryz.zeroValue182
 t66:=Tryz.underlying191
 a66:=Tryz.isAgg191
 z66:=Tryz.sizeOf191
 v66:=Tryz.zeroValue191
 t70:=Tryz.underlying195
 a70:=Tryz.isAgg195
 z70:=Tryz.sizeOf195
 v70:=Tryz.zeroValue195
 t76:=Tryz.underlying207
 a76:=Tryz.isAgg207
 z76:=Tryz.sizeOf207
 v76:=Tryz.zeroValue207
 t77:=Tryz.underlying208
 a77:=Tryz.isAgg208
 z77:=Tryz.sizeOf208
 v77:=Tryz.zeroValue208 }
def Tryz.sortF_ren:Go.Shelf.Ren:=⟨fun | 14=>138 | 20=>154 | 21=>155 | 22=>156 | 23=>157 | 24=>158 | 25=>159 | 26=>160 | 27=>161 | 46=>169 | 47=>165 | 48=>166 | 49=>170 | 50=>171 | 15=>127 | 57=>177 | 28=>150 | 29=>151 | n=>n,fun | 24=>58 | 22=>48 | 3=>3 | 25=>112 | 4=>4 | 0=>0 | 46=>174 | 45=>173 | 50=>86 | 66=>191 | 39=>158 | 55=>182 | 70=>195 | 76=>207 | 77=>208 | 53=>180 | 5=>5 | 9=>9 | n=>n,fun | n=>n⟩
theorem Tryz.sortF:Go.Proofs.SlLaysF0.n14 Tryz.prog Tryz.sortF_ren:={
 mixed:=by kernel_rfl
 f14:=⟨Tryz.f138.name,by decide,Tryz.func138.trans (congrArg some (by kernel_rfl))⟩
 f15:=Tryz.func127.trans (congrArg some (by kernel_rfl))
 f20:=⟨Tryz.f154.name,by decide,Tryz.func154.trans (congrArg some (by kernel_rfl))⟩
 f21:=⟨Tryz.f155.name,by decide,Tryz.func155.trans (congrArg some (by kernel_rfl))⟩
 f22:=⟨Tryz.f156.name,by decide,Tryz.func156.trans (congrArg some (by kernel_rfl))⟩
 f23:=⟨Tryz.f157.name,by decide,Tryz.func157.trans (congrArg some (by kernel_rfl))⟩
 f24:=⟨Tryz.f158.name,by decide,Tryz.func158.trans (congrArg some (by kernel_rfl))⟩
 f25:=⟨Tryz.f159.name,by decide,Tryz.func159.trans (congrArg some (by kernel_rfl))⟩
 f26:=⟨Tryz.f160.name,by decide,Tryz.func160.trans (congrArg some (by kernel_rfl))⟩
 f27:=⟨Tryz.f161.name,by decide,Tryz.func161.trans (congrArg some (by kernel_rfl))⟩
 f28:=Tryz.func150.trans (congrArg some (by kernel_rfl))
 f29:=Tryz.func151.trans (congrArg some (by kernel_rfl))
 f46:=⟨Tryz.f169.name,by decide,Tryz.func169.trans (congrArg some (by kernel_rfl))⟩
 f47:=Tryz.func165.trans (congrArg some (by kernel_rfl))
 f48:=Tryz.func166.trans (congrArg some (by kernel_rfl))
 f49:=⟨Tryz.f170.name,by decide,Tryz.func170.trans (congrArg some (by kernel_rfl))⟩
 f50:=⟨Tryz.f171.name,by decide,Tryz.func171.trans (congrArg some (by kernel_rfl))⟩
 f57:=⟨Tryz.f177.name,by decide,Tryz.func177.trans (congrArg some (by kernel_rfl))⟩
 t0:=Tryz.underlying0
 a0:=Tryz.isAgg0
 z0:=Tryz.sizeOf0
 v0:=Tryz.zeroValue0
 t3:=Tryz.underlying3
 a3:=Tryz.isAgg3
 z3:=Tryz.sizeOf3
 v3:=Tryz.zeroValue3
 t4:=Tryz.underlying4
 a4:=Tryz.isAgg4
 z4:=Tryz.sizeOf4
 v4:=Tryz.zeroValue4
 t5:=Tryz.underlying5
 a5:=Tryz.isAgg5
 z5:=Tryz.sizeOf5
 v5:=Tryz.zeroValue5
 t9:=Tryz.underlying9
 a9:=Tryz.isAgg9
 z9:=Tryz.sizeOf9
 v9:=Tryz.zeroValue9
 t22:=Tryz.underlying48
 a22:=Tryz.isAgg48
 z22:=Tryz.sizeOf48
 v22:=Tryz.zeroValue48
 t25:=Tryz.underlying112
 a25:=Tryz.isAgg112
 z25:=Tryz.sizeOf112
 v25:=Tryz.zeroValue112
 t39:=Tryz.underlying158
 a39:=Tryz.isAgg158
 z39:=Tryz.sizeOf158
 v39:=Tryz.zeroValue158
 t45:=Tryz.underlying173
 a45:=Tryz.isAgg173
 z45:=Tryz.sizeOf173
 v45:=Tryz.zeroValue173
 t46:=Tryz.underlying174
 a46:=Tryz.isAgg174
 z46:=Tryz.sizeOf174
 v46:=Tryz.zeroValue174
 t50:=Tryz.underlying86
 a50:=Tryz.isAgg86
 z50:=Tryz.sizeOf86
 v50:=Tryz.zeroValue86
 t53:=Tryz.underlying180
 a53:=Tryz.isAgg180
 z53:=Tryz.sizeOf180
 v53:=Tryz.zeroValue180
 t55:=Tryz.underlying182
 a55:=Tryz.isAgg182
 z55:=Tryz.sizeOf182
 v55:=Tryz.zeroValue182
 t66:=Tryz.underlying191
 a66:=Tryz.isAgg191
 z66:=Tryz.sizeOf191
 v66:=Tryz.zeroValue191
 t70:=Tryz.underlying195
 a70:=Tryz.isAgg195
 z70:=Tryz.sizeOf195
 v70:=Tryz.zeroValue195
 t76:=Tryz.underlying207
 a76:=Tryz.isAgg207
 z76:=Tryz.sizeOf207
 v76:=Tryz.zeroValue207
 t77:=Tryz.underlying208
 a77:=Tryz.isAgg208
 z77:=Tryz.sizeOf208
 v77:=Tryz.zeroValue208 }
end
end Go.Proofs
namespace Go.Proofs.YteigfkncoiiaiaaGreatDoor.Sym
section
open Go.RowKit Go.Sort
theorem putRow_map {E:Type} [Inhabited E] (enc:E->Value) (w:World) (blk off:Nat) (d:Array E):putRow enc w blk off d=putRow id w blk off (d.map enc):=by
 unfold putRow;congr 1;funext c;unfold putCells;congr 1;funext k x;rw [Array.size_map];by_cases h:off<=k∧k<off+d.size
 ·have h1:k-off<d.size:=by omega
  rw [if_pos h,if_pos h,getElem!_pos d _ h1,getElem!_pos (d.map enc) _ (by simpa using h1)];simp
 ·rw [if_neg h,if_neg h]
theorem holds_map {E:Type} [Inhabited E] {enc:E->Value} {w:World} {blk off:Nat} {d:Array E} (h:Go.Sort.Holds id w blk off (d.map enc)):Go.Sort.Holds enc w blk off d:=fun j hj=>by
 have:=h j (by simpa using hj);rw [getElem!_pos (d.map enc) _ (by simpa using hj)] at this;rw [getElem!_pos d _ hj];simpa using this
def one1 (us:List Value):Value:=us.headD undef
theorem flat_one1 {E:Type} [Inhabited E] {enc:E->List Value} (hk:∀ x,(enc x).length=1) (d:Array E):Go.Sort.flatK enc 1 d=d.map fun x=>one1 (enc x):=by
 rw [ztp hk]
 have:(d.toList.map enc).flatten=d.toList.map fun x=>one1 (enc x):=by
  generalize d.toList=l
  induction l with
  | nil=>rfl
  | cons x l ih =>
   rw [ya1,ybc,ih,ya1];have:=hk x
   match h:enc x,this with
   | [v],_=>rfl
 rw [this];apply yff;simp
theorem sortC_words:SortC Tryz.prog 95 1 one1:=by
 refine ⟨fun p a0 fv w=>AnyF.slices_SortFunc_none { Tryz.sortW with } p a0 fv w,?_⟩;intro E _ enc cf g a2 a0 d w hk h1 hO eg a4 hH a5 a6;have e1:∀ m (dk:Array E),putRow (fun x=>one1 (enc x)) (Sort.ahead w m) a2 0 dk=putRow id (Sort.ahead w m) a2 0 (Go.Sort.flatK enc 1 dk):=fun m dk=>by rw [flat_one1 hk,putRow_map]
 have a3:OneCell fun x=>one1 (enc x):=fun x=>by
  have h2:=hk x;have h3:=h1 x
  match h:enc x,h2 with
  | [v],_ =>
   show (one1 (enc x)).oneCell'=true;rw [h] at h3 ⊢;exact h3 v (by simp)
 refine (Any.slices_SortFunc Tryz.sortW (fun x=>one1 (enc x)) a3 cf hO g #[] a2 0 a0 d w eg (fun m os dk hs x y=>?_) (holds_map (by rw [<- flat_one1 hk];exact hH)) a5 a6).mono ?_
 ·have:=a4 m os dk hs x y;unfold sortWorld;rw [e1];simpa using this
 ·rintro e w' ⟨he,d',n,os,hp,hs,hw⟩;exact ⟨he,d',n,os,hp,hs,by rw [hw];unfold sortWorld;rw [e1]⟩
theorem aggF:∀ w,(isAgg (Tryz.sortF_ren.t 24)).run Tryz.prog w=.ok true w:=Tryz.isAgg58
theorem sizF:∀ w,(Go.sizeOf (Tryz.sortF_ren.t 24)).run Tryz.prog w=.ok 2 w:=Tryz.sizeOf58
set_option maxHeartbeats 2000000 in
theorem sortC_traces:SortC Tryz.prog 109 2 (fun us=>.agg us.toArray):=by
 refine ⟨fun p a3 fv w=>?_,?_⟩
 ·have hp:=fun a9 W=>AnyF.pdqsortCmpFunc_none (P:=Tryz.prog) (ρ:=Tryz.sortF_ren) Tryz.sortF p a3 a9 fv W
  have hl:∀ W,Calls Tryz.prog 127 #[.int .u64 0] W fun e w'=>e=.returned (.int .i64 (Lib.bitLen 0:Nat))∧w'=W:=fun W=>by
   have h:=Any.bits_Len (SlLaysF0.n15.bits (P:=Tryz.prog) (ρ:=Tryz.sortF_ren) { Tryz.sortF with }) 0 W (by omega) (by omega);exact h
  go_enter Tryz.func109,Tryz.ntmps109
  go_wp2_with (first | (go_at_call 127;refine (hl _).mono ?_;rintro e w' ⟨rfl,rfl⟩) | (go_at_call 138;refine (hp _ _).mono ?_;rintro e w' ⟨rfl,rfl⟩))
  go_end0
  exact ⟨rfl,rfl⟩
 ·intro E _ enc cf g a7 a3 d w hk h1 hO eg a2 hH a5 a8;have a4:Lib.bitLen d.size<4611686018427387904:=Nat.lt_of_le_of_lt (Lib.bitLen_le d.size 62 (by omega) (by omega)) (by omega)
  have a0:CmpLays Tryz.prog g #[] enc 2 cf a7 0 d.size w:=fun m os dk hs x y=>by
   unfold sortWorldK putRowK;simpa using a2 m os dk hs x y
  have hp:=AnyQ.pdqsortCmpFunc_all (P:=Tryz.prog) (ρ:=Tryz.sortF_ren) Tryz.sortF 2 aggF sizF enc cf g #[] hO a7 0 a3 d w eg a0 ⟨hk,h1,hH,a5⟩ (d.size+1) 0 d.size (Lib.bitLen d.size) d w (by omega) rfl (SWK.start hH) (yag _) (yap _) a8 a4 (Or.inl rfl)
  have hl:Calls Tryz.prog 127 #[.int .u64 (d.size:Int)] w fun e w'=>e=.returned (.int .i64 (Lib.bitLen d.size:Nat))∧w'=w:=by
   have h:=Any.bits_Len (SlLaysF0.n15.bits (P:=Tryz.prog) (ρ:=Tryz.sortF_ren) { Tryz.sortF with }) (d.size:Int) w (by omega) (by omega)
   rwa [yah] at h
  have wr:IntKind.u64.wrap (d.size:Int)=d.size:=by simp [IntKind.wrap,IntKind.bits,IntKind.signed];omega
  have a6:=pdq_sorts (ltOf cf) hO d 0 d.size (Lib.bitLen d.size) true true (yag _) (yap _) (Or.inl rfl);clear hH a2 a0 hk h1
  go_enter Tryz.func109,Tryz.ntmps109
  go_wp2_with (first | (go_at_call 127;refine hl.mono ?_;rintro e w' ⟨rfl,rfl⟩) | (go_at_call 138;refine hp.mono ?_;rintro e w' ⟨rfl,n,os,rfl⟩))
  go_end0
  exact ⟨rfl,_,n,os,a6.1,a6.2,rfl⟩
theorem cmpG_lex {f:yab->yab->Option Int} (hf:∀ x y r,x.length<=17592186044416->f x y=some r->r=lexI x y):CmpG Tryz.prog 99 (nL cI) f:=by
 intro W S u u' x y r h hu a0;obtain ⟨A,n,c,rfl,h1⟩:=zfd hu;have:=hf x y r (by rw [h1.len];exact h1.small) h;subst this;obtain ⟨B,m,c',rfl,h2⟩:=zfd a0;refine (zq1 h1 h2).mono fun e w' ⟨he,hw⟩=>⟨he,0,#[],?_⟩;rw [<- hw,Sort.grow_empty];rfl
theorem cmpG_compare {f:yab->yab->Option Int} (hf:∀ x y r,x.length<=17592186044416->f x y=some r->r=cmpW x y):CmpG Tryz.prog 96 (nL cI) f:=by
 intro W S u u' x y r h hu a0;obtain ⟨A,n,c,rfl,h1⟩:=zfd hu;have:=hf x y r (by rw [h1.len];exact h1.small) h;subst this;obtain ⟨B,m,c',rfl,h2⟩:=zfd a0;refine (zr1 h1 h2).mono fun e w' ⟨he,hw⟩=>⟨he,0,#[.cells #[.int .i64 (cmpI x.length y.length),.int .i64 (lexI x y)] 3],?_⟩;rw [<- hw,Sort.alloc_eq_grow];rfl
theorem rep_two {w:World} {S:Nat->Prop} {u:Value} {x y:IV} (h:RepI w S u (.agg [x,y])):∃ a b,u=.agg #[a,b]∧RepI w S a x∧RepI w S b y:=by
 generalize hz:IV.agg [x,y]=z at h;cases h with
 | agg us cs hl h1 hr =>
  injection hz with hz
  subst hz
  match us,hl with
  | [a,b],_=>exact ⟨a,b,rfl,hr 0 a x rfl rfl,hr 1 b y rfl rfl⟩
 | _=>cases hz
set_option maxHeartbeats 400000 in
theorem fits1_any {A A' B B':Option Addr} {n c m c' p q p' q':Nat} {xs ys:yab} {w:World} (hx:zgk w zmw A n c xs) (hy:zgk w zmw B m c' ys) :
  Calls Tryz.prog 110 #[.agg #[.slice A n c,.slice A' p q],.agg #[.slice B m c',.slice B' p' q']] w fun e w'=>e=.returned (.int .i64 (lexI xs ys))∧∃ q os,w'=Sort.grow (w.drewN q) os:=by
 have key:∀ o o',∃ q os,(w.alloc o).alloc o'=Sort.grow (w.drewN q) os:=fun o o'=>⟨0,#[o]++#[o'],by
  rw [Sort.alloc_eq_grow,Sort.alloc_eq_grow,Sort.grow_grow]
  rfl⟩
 have a0:∀ o o',zgk ((w.alloc o).alloc o') zmw A n c xs:=fun o o'=>(hx.kept (zf0 (World.grownBy_alloc w o none))).kept (zf0 (World.grownBy_alloc _ o' none));have a2:∀ o o',zgk ((w.alloc o).alloc o') zmw B m c' ys:=fun o o'=>(hy.kept (zf0 (World.grownBy_alloc w o none))).kept (zf0 (World.grownBy_alloc _ o' none))
 go_enter Tryz.func110,Tryz.ntmps110
 go_wp2_with (go_at_call 99;refine (zq1 (a0 _ _) (a2 _ _)).mono ?_;rintro e w' ⟨rfl,rfl⟩)
 go_ret
 exact ⟨rfl,key _ _⟩
theorem cmpG_fits1 {T:Type} {X:T->IV} {i o:T->yab} (hX:∀ x,X x=.agg [nL cI (i x),nL cI (o x)]) {f:T->T->Option Int} (hf:∀ x y r,(i x).length<=17592186044416->f x y=some r->r=lexI (i x) (i y)):CmpG Tryz.prog 110 X f:=by
 intro W S u u' x y r h hu a0;rw [hX] at hu a0;obtain ⟨a,b,rfl,ha,hb⟩:=rep_two hu;obtain ⟨a',b',rfl,a2,a3⟩:=rep_two a0;obtain ⟨A,n,c,rfl,h1⟩:=zfd ha;have:=hf x y r (by rw [h1.len];exact h1.small) h;subst this;obtain ⟨B,m,c',rfl,h2⟩:=zfd a2;obtain ⟨_,_,_,rfl,_⟩:=zfd hb;obtain ⟨_,_,_,rfl,_⟩:=zfd a3;exact fits1_any h1 h2
theorem rep_of_one {W:World} {S:Nat->Prop} {us:List Value} {x:IV} (hl:us.length=1) (hr:ziw W S us [x]):RepI W S (one1 us) x:=by
 match us,hl with
 | [u],_=>exact hr.2 0 u x rfl rfl
def CmpE {T:Type} (P:Program) (g:FuncId) (X:T->IV) (f:T->T->Option Int):Prop:=(∀ args w,(callFunc g args).run P w=.ok (.enter g args) w)∧CmpG P g X f
end
section
open Go.RowKit
set_option linter.unusedVariables false
set_option maxHeartbeats 4000000
def zl5 {α:Type} (by_:Nat) (l:List α):Option (List α):=chk (zaz l.length by_) (some l)
def zfh (l:yab):Option (yab):=zl5 8 l
theorem zkd (l r:yab) (h:zfh l=some r):Sp Tryz.prog 115 [.im (nL cI l)] (.row 3 1 (List.map cI r)):=by
 obtain ⟨h1,h⟩:=zan h;injection h with h
 subst h;exact zm2 (by_:=8) (fun args w=>zen rfl rfl rfl args w) (by decide) clone_int (fun e he=>by obtain ⟨y,_,rfl⟩:=yao.1 he;rfl) (by rw [zkK];exact h1)
def zgb (l:yaa):Option (yaa):=zl5 24 l
theorem znt (l r:yaa) (h:zgb l=some r):Sp Tryz.prog 132 [.im (nL (cL cI) l)] (.row 25 1 (List.map (cL cI) r)):=by
 obtain ⟨h1,h⟩:=zan h;injection h with h
 subst h;exact zm2 (by_:=24) (fun args w=>zen rfl rfl rfl args w) (by decide) clone_words (fun e he=>by obtain ⟨y,_,rfl⟩:=yao.1 he;rfl) (by rw [zkK];exact h1)
def zdw (l:yaa) (f:(yab)->(yab)->Option Int):Option (yaa):=zpc l f
theorem zg4 (l:yaa) (f:(yab)->(yab)->Option Int) (g:FuncId) (hd:CmpE Tryz.prog g (fun x=>nL cI x) f) (r:yaa) (h:zdw l f=some r):Sp Tryz.prog 95 [.lent (.row 25 1 (List.map (cL cI) l)),.im (.fn g [])] (.mk true [] [.lent (.row 25 1 (List.map (cL cI) r))]) :=
 ztb (fun args w=>zen rfl rfl rfl args w) sortC_words (by decide) (fun _=>rfl) (fun W S us x hl h1 hr=>rep_of_one hl hr) hd.1 hd.2 h
def zhd (l:List zab):Option (List zab):=zl5 48 l
theorem zmz (l r:List zab) (h:zhd l=some r):Sp Tryz.prog 108 [.im (nL zag l)] (.row 58 2 (List.map zag r)):=by
 obtain ⟨h1,h⟩:=zan h;injection h with h
 subst h;exact zm2 (by_:=48) (fun args w=>zen rfl rfl rfl args w) (by decide) clone_traces (fun e he=>by obtain ⟨y,_,rfl⟩:=yao.1 he;rfl) (by rw [zkK];exact h1)
def zf3 (l:List zab) (f:zab->zab->Option Int):Option (List zab):=zpc l f
theorem zkn (l:List zab) (f:zab->zab->Option Int) (g:FuncId) (hd:CmpE Tryz.prog g (fun x=>.agg (zag x)) f) (r:List zab) (h:zf3 l f=some r):Sp Tryz.prog 109 [.lent (.row 58 2 (List.map zag l)),.im (.fn g [])] (.mk true [] [.lent (.row 58 2 (List.map zag r))]) :=
 ztb (fun args w=>zen rfl rfl rfl args w) sortC_traces (by decide) (fun _=>rfl) (fun W S us x hl h1 hr=>.agg _ _ hr.1 h1 hr.2) hd.1 hd.2 h
end
section
open Go.RowKit
set_option linter.unusedVariables false
set_option maxHeartbeats 4000000
def zog (inputs_:Int):Option (Bool) :=
 (cond (decide (1<=inputs_)) (some (decide (inputs_<=1024))) (some false):Option (Bool)).bind (fun (a2:Bool)=>some a2)
def zee.s2 (w_:yab) (inputs_:Int) (a2:Nat):Option (Nat⊕(Unit⊕Int)) :=
 cond (decide ((↑a2:Int)<(↑w_.length:Int))) ((idxn w_ a2 fun a6=>cond (decide (a6<0)) (some true) (idxn w_ a2 fun a7=>some (decide (inputs_<=a7))):Option (Bool)).bind (fun (a8:Bool)=>cond (a8) (some (.inr (.inr 1))) (some (.inl (a2+1))))) (some (.inr (.inl ())))
def zee (w_:yab) (inputs_:Int):Option (Int) :=
 (zog inputs_).bind fun a2=>cond ((!a2)) (some 2) (cond (decide (1024<(↑w_.length:Int))) (some 3) ((iter (fun (s:Nat)=>zee.s2 w_ inputs_ s) fuel 0:Option (Unit⊕Int)).bind (Sum.elim (fun (_:Unit)=>some 0) some)))
def zdy.s2 (a_:yab) (b_:yab) (a2:Nat):Option (Nat⊕Nat) :=
 (cond (decide ((↑a2:Int)<(↑a_.length:Int))) (cond (decide ((↑a2:Int)<(↑b_.length:Int))) (idxn a_ a2 fun a6=>idxn b_ a2 fun a7=>some (decide (a6=a7))) (some false)) (some false):Option (Bool)).bind (fun (a8:Bool)=>cond (a8) (chk (inR ((↑a2:Int)+1)) (some (.inl (a2+1)))) (some (.inr a2)))
def zdy (a_:yab) (b_:yab):Option (Int) :=
 (iter (fun (s:Nat)=>zdy.s2 a_ b_ s) fuel 0:Option (Nat)).bind (fun (a2:Nat)=>some (↑a2:Int))
def zsj (a_:yab) (b_:yab):Option (Int) :=
 (zdy a_ b_).bind fun a2=>(cond (decide (a2=(↑a_.length:Int))) (some (decide (a2=(↑b_.length:Int)))) (some false):Option (Bool)).bind (fun (a6:Bool)=>cond (a6) (some 0) ((cond (decide (a2=(↑a_.length:Int))) (some (decide (a2=(↑a_.length:Int)))) (cond (decide (a2<(↑b_.length:Int))) (idx a_ a2 fun a7=>idx b_ a2 fun a8=>some (decide (a7<a8))) (some false)):Option (Bool)).bind (fun (b2:Bool)=>cond (b2) (some (-1:Int)) (some 1))))
def zgo (a_:yab) (b_:yab):Option (Int) :=
 cond (decide ((↑a_.length:Int)<(↑b_.length:Int))) (some (-1:Int)) (cond (decide ((↑b_.length:Int)<(↑a_.length:Int))) (some 1) ((zsj a_ b_).bind fun a2=>some a2))
def zd7.s2 (t_:zab) (a2:Nat):Option (Nat⊕(Unit⊕Int)) :=
 cond (decide ((↑a2:Int)<(↑t_.Out.length:Int))) ((idxn t_.Out a2 fun a6=>cond (decide (a6<0)) (some true) (idxn t_.Out a2 fun a7=>some (decide (1048576<a7))):Option (Bool)).bind (fun (a8:Bool)=>cond (a8) (some (.inr (.inr 2))) (some (.inl (a2+1))))) (some (.inr (.inl ())))
def zd7 (t_:zab) (inputs_:Int):Option (Int) :=
 (zee t_.In inputs_).bind fun a2=>cond (decide (a2≠0)) (some a2) (cond (decide ((↑t_.Out.length:Int)≠(↑t_.In.length:Int))) (some 1) ((iter (fun (s:Nat)=>zd7.s2 t_ s) fuel 0:Option (Unit⊕Int)).bind (Sum.elim (fun (_:Unit)=>some 0) some)))
def zer (w_:yab) (p_:yab):Option (Bool) :=
 (zdy w_ p_).bind fun a2=>some (decide (a2=(↑p_.length:Int)))
def zec.s2 (a_:zab) (b_:zab) (a6:Int) (a2:Nat):Option (Nat⊕(Unit⊕Int)) :=
 cond (decide ((↑a2:Int)<a6)) (idxn a_.Out a2 fun a7=>idxn b_.Out a2 fun a8=>cond (decide (a7≠a8)) (some (.inr (.inr (↑a2:Int)))) (chk (inR ((↑a2:Int)+1)) (some (.inl (a2+1))))) (some (.inr (.inl ())))
def zec (a_:zab) (b_:zab):Option (Int) :=
 (zdy a_.In b_.In).bind fun a2=>(iter (fun (s:Nat)=>zec.s2 a_ b_ a2 s) fuel 0:Option (Unit⊕Int)).bind (Sum.elim (fun (_:Unit)=>some (-1:Int)) some)
def zc6.s13 (p_:zac) (b2:Nat) (a8:yab) (a2:Nat):Option (Nat⊕(Unit⊕(Nat⊕(Unit⊕Int)))) :=
 cond (decide ((↑a2:Int)<(↑a8.length:Int))) (idxn a8 a2 fun a6=>idxn p_.Out b2 fun b3=>idxn b3 a2 fun a7=>(cond (decide (a6<(-1:Int))) (some true) (cond (decide ((↑p_.Next.length:Int)<=a6)) (some true) (cond (decide (a7<(-1:Int))) (some true) (some (decide (1048576<a7))))):Option (Bool)).bind (fun (b4:Bool)=>cond (b4) (some (.inr (.inr (.inr (.inr 2))))) (cond ((!((decide (a6=(-1:Int)))==(decide (a7=(-1:Int)))))) (some (.inr (.inr (.inr (.inr 1))))) (some (.inl (a2+1)))))) (some (.inr (.inl ())))
def zc6.s14 (p_:zac) (a2:Nat):Option (Nat⊕(Unit⊕Int)) :=
 cond (decide ((↑a2:Int)<(↑p_.Next.length:Int))) ((idxn p_.Next a2 fun a6=>cond (decide ((↑a6.length:Int)≠p_.Inputs)) (some true) (idxn p_.Out a2 fun a7=>some (decide ((↑a7.length:Int)≠p_.Inputs))):Option (Bool)).bind (fun (a8:Bool)=>cond (a8) (some (.inr (.inr 1))) (idxn p_.Next a2 fun b2=>(iter (fun (s:Nat)=>zc6.s13 p_ a2 b2 s) fuel 0:Option (Unit⊕(Nat⊕(Unit⊕Int)))).bind (Sum.elim (fun (_:Unit)=>some (.inl (a2+1))) some)))) (some (.inr (.inl ())))
def zc6 (p_:zac):Option (Int) :=
 (cond (decide (p_.Inputs<1)) (some true) (some (decide (64<p_.Inputs))):Option (Bool)).bind (fun (a2:Bool)=>cond (a2) (some 2) (cond (decide ((↑p_.Next.length:Int)=0)) (some 19) (cond (decide (4096<(↑p_.Next.length:Int))) (some 11) ((cond (decide (p_.Start<0)) (some true) (some (decide ((↑p_.Next.length:Int)<=p_.Start))):Option (Bool)).bind (fun (a6:Bool)=>cond (a6) (some 2) (cond (decide ((↑p_.Out.length:Int)≠(↑p_.Next.length:Int))) (some 1) ((iter (fun (s:Nat)=>zc6.s14 p_ s) fuel 0:Option (Unit⊕Int)).bind (Sum.elim (fun (_:Unit)=>some 0) some))))))))
def zg5.s2 (p_:zac) (w_:yab) (a6:Int) (a7:yab) (a8:Nat):Option ((Int×yab×Nat)⊕(yab⊕(yab×Bool))) :=
 cond (decide ((↑a8:Int)<(↑w_.length:Int))) (idxn w_ a8 fun a2=>(cond (decide (a2<0)) (some true) (cond (decide (p_.Inputs<=a2)) (some true) (idx p_.Next a6 fun b2=>idx b2 a2 fun b3=>some (decide (b3=(-1:Int))))):Option (Bool)).bind (fun (b4:Bool)=>cond (b4) (some (.inr (.inr ([],false)))) (idx p_.Out a6 fun b5=>idx b5 a2 fun b6=>chk (zaz (List.length a7+1) 8) (idx p_.Next a6 fun b7=>idx b7 a2 fun b8=>some (.inl (b8,(a7++[b6]),(a8+1))))))) (some (.inr (.inl a7)))
def zg5 (p_:zac) (w_:yab):Option (yab×Bool) :=
 (zc6 p_).bind fun a6=>cond (decide (a6≠0)) (some ([],false)) ((iter (fun (s:Int×yab×Nat)=>zg5.s2 p_ w_ s.1 s.2.1 s.2.2) fuel (p_.Start,[],0):Option (yab⊕(yab×Bool))).bind (Sum.elim (fun (a2:yab)=>some (a2,true)) some))
def zl9 (a_:yab) (b_:yab):Option (Bool) :=
 (cond (decide ((↑a_.length:Int)=(↑b_.length:Int))) ((zdy a_ b_).bind fun a2=>some (decide (a2=(↑a_.length:Int)))) (some false):Option (Bool)).bind (fun (a6:Bool)=>some a6)
def zb7.s2 (a_:yaa) (b_:yaa) (a2:Nat):Option (Nat⊕(Unit⊕Bool)) :=
 cond (decide ((↑a2:Int)<(↑a_.length:Int))) (idxn a_ a2 fun a6=>idxn b_ a2 fun a7=>(zl9 a6 a7).bind fun a8=>cond ((!a8)) (some (.inr (.inr false))) (some (.inl (a2+1)))) (some (.inr (.inl ())))
def zb7 (a_:yaa) (b_:yaa):Option (Bool) :=
 cond (decide ((↑a_.length:Int)≠(↑b_.length:Int))) (some false) ((iter (fun (s:Nat)=>zb7.s2 a_ b_ s) fuel 0:Option (Unit⊕Bool)).bind (Sum.elim (fun (_:Unit)=>some true) some))
def zbg.s2 (s_:yab) (f_:Int->Option Bool) (a2:Nat):Option (Nat⊕(Unit⊕Int)) :=
 cond (decide ((↑a2:Int)<(↑s_.length:Int))) (idxn s_ a2 fun a6=>(f_ a6).bind fun a7=>cond (a7) (some (.inr (.inr (↑a2:Int)))) (some (.inl (a2+1)))) (some (.inr (.inl ())))
def zbg (s_:yab) (f_:Int->Option Bool):Option (Int) :=
 (iter (fun (s:Nat)=>zbg.s2 s_ f_ s) fuel 0:Option (Unit⊕Int)).bind (Sum.elim (fun (_:Unit)=>some (-1:Int)) some)
def zcm (s_:yab) (f_:Int->Option Bool):Option (Bool) :=
 (zbg s_ f_).bind fun a2=>some (decide (0<=a2))
def zfs (inputs_:Int):Option (Bool) :=
 (cond (decide (1<=inputs_)) (some (decide (inputs_<=1024))) (some false):Option (Bool)).bind (fun (a2:Bool)=>some a2)
def zf8 (a_:Int) (p1_:Int):Option (Bool) :=
 (cond (decide (a_<0)) (some true) (some (decide (p1_<=a_))):Option (Bool)).bind (fun (a2:Bool)=>some a2)
def za5.s2 (s_:yab) (f_:Int->Option Bool) (a2:Nat):Option (Nat⊕(Unit⊕Int)) :=
 cond (decide ((↑a2:Int)<(↑s_.length:Int))) (idxn s_ a2 fun a6=>(f_ a6).bind fun a7=>cond (a7) (some (.inr (.inr (↑a2:Int)))) (some (.inl (a2+1)))) (some (.inr (.inl ())))
def za5 (s_:yab) (f_:Int->Option Bool):Option (Int) :=
 (iter (fun (s:Nat)=>za5.s2 s_ f_ s) fuel 0:Option (Unit⊕Int)).bind (Sum.elim (fun (_:Unit)=>some (-1:Int)) some)
def zcr (s_:yab) (f_:Int->Option Bool):Option (Bool) :=
 (za5 s_ f_).bind fun a2=>some (decide (0<=a2))
def zho (w_:yab) (inputs_:Int):Option (Int) :=
 (zfs inputs_).bind fun a2=>cond ((!a2)) (some 2) (cond (decide (1024<(↑w_.length:Int))) (some 3) ((zcr w_ (fun u0=>zf8 u0 inputs_)).bind fun a6=>cond (a6) (some 1) (some 0)))
def zdf.s2 (a_:yab) (b_:yab) (a2:Nat):Option (Nat⊕(Unit⊕Int)) :=
 cond (decide ((↑a2:Int)<(min (↑a_.length:Int) (↑b_.length:Int)))) (idxn a_ a2 fun a6=>idxn b_ a2 fun a7=>cond (decide (a6≠a7)) (some (.inr (.inr (↑a2:Int)))) (some (.inl (a2+1)))) (some (.inr (.inl ())))
def zdf (a_:yab) (b_:yab):Option (Int) :=
 (iter (fun (s:Nat)=>zdf.s2 a_ b_ s) fuel 0:Option (Unit⊕Int)).bind (Sum.elim (fun (_:Unit)=>some (min (↑a_.length:Int) (↑b_.length:Int))) some)
def zeh (w_:yab) (p_:yab):Option (Bool) :=
 (zdf w_ p_).bind fun a2=>some (decide (a2=(↑p_.length:Int)))
def ze2 (a_:zab) (b_:zab):Option (Int) :=
 (zdf a_.In b_.In).bind fun a2=>chk ((0:Int)<=(min (min a2 (↑a_.Out.length:Int)) (↑b_.Out.length:Int))∧(min (min a2 (↑a_.Out.length:Int)) (↑b_.Out.length:Int))<=(↑a_.Out.length:Int)) (chk ((0:Int)<=(min (min a2 (↑a_.Out.length:Int)) (↑b_.Out.length:Int))∧(min (min a2 (↑a_.Out.length:Int)) (↑b_.Out.length:Int))<=(↑b_.Out.length:Int)) ((zdf (List.take (Int.toNat (min (min a2 (↑a_.Out.length:Int)) (↑b_.Out.length:Int))) a_.Out) (List.take (Int.toNat (min (min a2 (↑a_.Out.length:Int)) (↑b_.Out.length:Int))) b_.Out)).bind fun a6=>cond (decide (a6<(min (min a2 (↑a_.Out.length:Int)) (↑b_.Out.length:Int)))) (some a6) (some (-1:Int))))
def cmp_isNaN_int (x_:Int):Option (Bool) :=
 some (decide (x_≠x_))
def cmp_Compare_int (x_:Int) (y_:Int):Option (Int) :=
 (cmp_isNaN_int x_).bind fun a6=>(cmp_isNaN_int y_).bind fun a2=>cond (a6) (cond (a2) (some 0) (some (-1:Int))) (cond (a2) (some 1) (cond (decide (x_<y_)) (some (-1:Int)) (cond (decide (y_<x_)) (some 1) (some 0))))
def zbh.s2 (s1_:yab) (s2_:yab) (a2:Nat):Option (Nat⊕(Unit⊕Int)) :=
 cond (decide ((↑a2:Int)<(↑s1_.length:Int))) (idxn s1_ a2 fun a7=>cond (decide ((↑s2_.length:Int)<=(↑a2:Int))) (some (.inr (.inr 1))) (idxn s2_ a2 fun a8=>(cmp_Compare_int a7 a8).bind fun a6=>cond (decide (a6≠0)) (some (.inr (.inr a6))) (some (.inl (a2+1))))) (some (.inr (.inl ())))
def zbh (s1_:yab) (s2_:yab):Option (Int) :=
 (iter (fun (s:Nat)=>zbh.s2 s1_ s2_ s) fuel 0:Option (Unit⊕Int)).bind (Sum.elim (fun (_:Unit)=>cond (decide ((↑s1_.length:Int)<(↑s2_.length:Int))) (some (-1:Int)) (some 0)) some)
def zhk (a_:yab) (b_:yab):Option (Int) :=
 (zbh a_ b_).bind fun a2=>some a2
def zde (a_:zab) (b_:zab):Option (Int) :=
 (zhk a_.In b_.In).bind fun a2=>some a2
def zdn.s2 (a6:List zab) (a2:Nat):Option (Nat⊕(Unit⊕Bool)) :=
 cond (decide ((↑a2:Int)<(↑a6.length:Int))) ((idxn a6 a2 fun a7=>idx a6 ((↑a2:Int)-1) fun a8=>(zeh a7.In a8.In).bind fun b2=>cond (b2) (some true) (idx a6 ((↑a2:Int)-1) fun b3=>idxn a6 a2 fun b4=>(ze2 b3 b4).bind fun b5=>some (decide (0<=b5))):Option (Bool)).bind (fun (b6:Bool)=>cond (b6) (some (.inr (.inr false))) (some (.inl (a2+1))))) (some (.inr (.inl ())))
def zdn (l_:List zab):Option (Bool) :=
 (zhd l_).bind fun a2=>(zf3 a2 (fun u0 u1=>zde u0 u1)).bind fun a6=>(iter (fun (s:Nat)=>zdn.s2 a6 s) fuel 1:Option (Unit⊕Bool)).bind (Sum.elim (fun (_:Unit)=>some true) some)
def ze1 (o_:Int):Option (Bool) :=
 (cond (decide (o_<0)) (some true) (some (decide (1048576<o_))):Option (Bool)).bind (fun (a2:Bool)=>some a2)
def zfr (t_:zab) (inputs_:Int):Option (Int) :=
 (zho t_.In inputs_).bind fun a2=>cond (decide (a2≠0)) (some a2) (cond (decide ((↑t_.Out.length:Int)≠(↑t_.In.length:Int))) (some 1) ((zcm t_.Out (fun u0=>ze1 u0)).bind fun a6=>cond (a6) (some 2) (some 0)))
def zdx.s2 (vals_:yab) (a2:Nat):Option (Nat⊕(Unit⊕Int)) :=
 cond (decide ((↑a2:Int)<(↑vals_.length:Int))) (idxn vals_ a2 fun a6=>cond (decide (a6≠0)) (some (.inr (.inr a6))) (some (.inl (a2+1)))) (some (.inr (.inl ())))
def zdx (vals_:yab):Option (Int) :=
 (iter (fun (s:Nat)=>zdx.s2 vals_ s) fuel 0:Option (Unit⊕Int)).bind (Sum.elim (fun (_:Unit)=>some 0) some)
def zdj (a_:yab) (b_:yab):Option (Int) :=
 (cmp_Compare_int (↑a_.length:Int) (↑b_.length:Int)).bind fun a2=>(zbh a_ b_).bind fun a6=>(zdx [a2,a6]).bind fun a7=>some a7
def zhf (a_:zab) (b_:zab):Option (Int) :=
 (zdj a_.In b_.In).bind fun a2=>some a2
def zfa (u_:zab) (p1_:zab):Option (Bool) :=
 (zeh u_.In p1_.In).bind fun a2=>some a2
def ze9 (u_:zab) (p1_:zab):Option (Bool) :=
 (ze2 p1_ u_).bind fun a2=>some (decide (0<=a2))
def zaq.s2 (s_:List zab) (f_:zab->Option Bool) (a2:Nat):Option (Nat⊕(Unit⊕Int)) :=
 cond (decide ((↑a2:Int)<(↑s_.length:Int))) (idxn s_ a2 fun a6=>(f_ a6).bind fun a7=>cond (a7) (some (.inr (.inr (↑a2:Int)))) (some (.inl (a2+1)))) (some (.inr (.inl ())))
def zaq (s_:List zab) (f_:zab->Option Bool):Option (Int) :=
 (iter (fun (s:Nat)=>zaq.s2 s_ f_ s) fuel 0:Option (Unit⊕Int)).bind (Sum.elim (fun (_:Unit)=>some (-1:Int)) some)
def zbi (s_:List zab) (f_:zab->Option Bool):Option (Bool) :=
 (zaq s_ f_).bind fun a2=>some (decide (0<=a2))
def zby.s2 (o_:zar) (a2:Nat):Option (Nat⊕(Unit⊕Int)) :=
 cond (decide ((↑a2:Int)<(↑o_.Traces.length:Int))) (idxn o_.Traces a2 fun a6=>(zho a6.In o_.Inputs).bind fun a7=>cond (decide (a7≠0)) (some (.inr (.inr a7))) (cond (decide ((↑a6.In.length:Int)=0)) (some (.inr (.inr 19))) ((zfr a6 o_.Inputs).bind fun a8=>cond (decide (a8≠0)) (some (.inr (.inr a8))) ((cond (decide (0<(↑a2:Int))) (idx o_.Traces ((↑a2:Int)-1) fun b2=>(zhf b2 a6).bind fun b3=>some (decide (0<=b3))) (some false):Option (Bool)).bind (fun (b4:Bool)=>cond (b4) (some (.inr (.inr 10))) (some (.inl (a2+1)))))))) (some (.inr (.inl ())))
def zby.s4 (o_:zar) (a2:Nat):Option (Nat⊕(Unit⊕Int)) :=
 cond (decide ((↑a2:Int)<(↑o_.Traces.length:Int))) (idxn o_.Traces a2 fun a6=>chk ((0:Int)<=((↑a2:Int)+1)∧((↑a2:Int)+1)<=(↑o_.Traces.length:Int)) ((zbi (List.drop (a2+1) o_.Traces) (fun u0=>zfa u0 a6)).bind fun a7=>cond (a7) (some (.inr (.inr 7))) ((zbi (List.drop (a2+1) o_.Traces) (fun u0=>ze9 u0 a6)).bind fun a8=>cond (a8) (some (.inr (.inr 13))) (some (.inl (a2+1)))))) (some (.inr (.inl ())))
def zby (o_:zar):Option (Int) :=
 (cond (decide (o_.Inputs<1)) (some true) (some (decide (64<o_.Inputs))):Option (Bool)).bind (fun (a6:Bool)=>cond (a6) (some 2) (cond (decide (10000<(↑o_.Traces.length:Int))) (some 11) ((iter (fun (s:Nat)=>zby.s2 o_ s) fuel 0:Option (Unit⊕Int)).bind (Sum.elim (fun (_:Unit)=>(zdn o_.Traces).bind fun a2=>cond (a2) (some 0) ((iter (fun (s:Nat)=>zby.s4 o_ s) fuel 0:Option (Unit⊕Int)).bind (Sum.elim (fun (_:Unit)=>some 0) some))) some))))
def zc0.s2 (inputs_:Int) (a6:yab) (a2:Nat):Option ((yab×Nat)⊕yab) :=
 cond (decide ((↑a2:Int)<(↑(List.length (List.replicate (Int.toNat inputs_) (0:Int))):Int))) (idxn a6 a2 fun a7=>chk (inR ((↑a2:Int)+1)) (some (.inl ((List.set a6 a2 (-1:Int)),(a2+1))))) (some (.inr a6))
def zc0 (inputs_:Int):Option (yab) :=
 chk ((0:Int)<=inputs_∧inputs_<=inputs_∧zaz (Int.toNat inputs_) 8) ((iter (fun (s:yab×Nat)=>zc0.s2 inputs_ s.1 s.2) fuel ((List.replicate (Int.toNat inputs_) (0:Int)),0):Option (yab)).bind (fun (a2:yab)=>some a2))
def zaj.s18 (b2:yab) (a2:yab) (a6:yab) (a8:Nat):Option ((yab×yab×Nat)⊕(yab×yab)) :=
 cond (decide ((↑a8:Int)<(↑b2.length:Int))) (idxn b2 a8 fun a7=>(cond (decide (a7≠(-1:Int))) (idx a2 a7 fun b3=>some (decide (b3=(-1:Int)))) (some false):Option (Bool)).bind (fun (b4:Bool)=>cond (b4) (idx a2 a7 fun b5=>chk (zaz (List.length a6+1) 8) (some (.inl ((List.set a2 a7.toNat (↑a6.length:Int)),(a6++[a7]),(a8+1))))) (some (.inl (a2,a6,(a8+1)))))) (some (.inr (a2,a6)))
def zaj.k19 (a2:Nat) (a6:yab) (a7:yab):Option ((yab×yab×Nat)⊕(yab×yab)) :=
 some (.inl (a6,a7,(a2+1)))
def zaj.s20 (p_:zac) (a7:yab) (a2:yab) (a6:Nat):Option ((yab×yab×Nat)⊕(yab×yab)) :=
 cond (decide ((↑a6:Int)<(↑a2.length:Int))) (idxn a2 a6 fun a8=>idx p_.Next a8 fun b2=>(iter (fun (s:yab×yab×Nat)=>zaj.s18 b2 s.1 s.2.1 s.2.2) fuel (a7,a2,0):Option (yab×yab)).bind (fun (s:yab×yab)=>zaj.k19 a6 s.1 s.2)) (some (.inr (a7,a2)))
def zaj.s38 (p_:zac) (b7:yab) (b3:Int) (a8:yab) (a6:yab) (a7:yab) (a2:Nat):Option ((yab×yab×Nat)⊕(yab×yab)) :=
 cond (decide ((↑a2:Int)<(↑a8.length:Int))) (idxn a8 a2 fun b2=>cond (decide (b2≠(-1:Int))) (idx b7 b2 fun b4=>idx p_.Out b3 fun b5=>idxn b5 a2 fun b6=>idxn a6 a2 fun b8=>idxn a7 a2 fun b9=>some (.inl ((List.set a6 a2 b4),(List.set a7 a2 b6),(a2+1)))) (some (.inl (a6,a7,(a2+1))))) (some (.inr (a6,a7)))
def zaj.k39 (a2:yaa) (a6:yaa) (a7:Nat) (a8:yab) (b2:yab):Option ((yaa×yaa×Nat)⊕(yaa×yaa)) :=
 chk (zaz (List.length a2+1) 24) (chk (zaz (List.length a6+1) 24) (some (.inl ((a2++[a8]),(a6++[b2]),(a7+1)))))
def zaj.s40 (p_:zac) (b6:yab) (b2:yab) (a6:yaa) (a7:yaa) (a2:Nat):Option ((yaa×yaa×Nat)⊕(yaa×yaa)) :=
 cond (decide ((↑a2:Int)<(↑b2.length:Int))) (idxn b2 a2 fun a8=>(zc0 p_.Inputs).bind fun b3=>(zc0 p_.Inputs).bind fun b4=>idx p_.Next a8 fun b5=>(iter (fun (s:yab×yab×Nat)=>zaj.s38 p_ b6 a8 b5 s.1 s.2.1 s.2.2) fuel (b3,b4,0):Option (yab×yab)).bind (fun (s:yab×yab)=>zaj.k39 a6 a7 a2 s.1 s.2)) (some (.inr (a6,a7)))
def zaj.k41 (p_:zac) (a7:yab) (a2:yaa) (a6:yaa):Option (zac×yab) :=
 some ((⟨p_.Inputs,0,a2,a6⟩:zac),a7)
def zaj.k42 (p_:zac) (a2:yab) (a6:yab):Option (zac×yab) :=
 (iter (fun (s:yaa×yaa×Nat)=>zaj.s40 p_ a2 a6 s.1 s.2.1 s.2.2) fuel ([],[],0):Option (yaa×yaa)).bind (fun (s:yaa×yaa)=>zaj.k41 p_ a2 s.1 s.2)
def zaj (p_:zac):Option (zac×yab) :=
 (zc0 (↑p_.Next.length:Int)).bind fun a2=>idx a2 p_.Start fun a6=>(iter (fun (s:yab×yab×Nat)=>zaj.s20 p_ s.1 s.2.1 s.2.2) fuel ((List.set a2 p_.Start.toNat 0),[p_.Start],0):Option (yab×yab)).bind (fun (s:yab×yab)=>zaj.k42 p_ s.1 s.2)
def zbf.k53 (a6:Int) (a7:Nat) (a8:Int) (a2:yaa) (b2:yaa):Option ((yaa×yaa×Int×Nat)⊕((yaa×yaa)⊕((yaa×yaa×Nat)⊕((yaa×yaa)⊕(zac×Int))))) :=
 idx a2 a6 fun b3=>idx b3 a8 fun b4=>some (.inl (a2,b2,b4,(a7+1)))
def zbf.s54 (o_:zar) (b3:zab) (a2:yaa) (a8:yaa) (a6:Int) (b2:Nat):Option ((yaa×yaa×Int×Nat)⊕((yaa×yaa)⊕((yaa×yaa×Nat)⊕((yaa×yaa)⊕(zac×Int))))) :=
 cond (decide ((↑b2:Int)<(↑b3.In.length:Int))) (idxn b3.In b2 fun a7=>(idx a2 a6 fun b9=>idx b9 a7 fun c0=>cond (decide (c0=(-1:Int))) (cond (decide ((↑a2.length:Int)=4096)) (some (.inr (.inr (.inr (.inr (.inr ((⟨0,0,[],[]⟩:zac),11))))))) (idx a2 a6 fun b4=>idx a8 a6 fun b5=>idxn b3.Out b2 fun b6=>idx b4 a7 fun c6=>idx b5 a7 fun c7=>(zc0 o_.Inputs).bind fun b7=>chk (zaz (List.length (List.set a2 (Int.toNat a6) (List.set b4 (Int.toNat a7) (↑a2.length:Int)))+List.length [b7]) 24) ((zc0 o_.Inputs).bind fun b8=>chk (zaz (List.length (List.set a8 (Int.toNat a6) (List.set b5 (Int.toNat a7) b6))+List.length [b8]) 24) (some (.inl (((List.set a2 (Int.toNat a6) (List.set b4 (Int.toNat a7) (↑a2.length:Int)))++[b7]),((List.set a8 (Int.toNat a6) (List.set b5 (Int.toNat a7) b6))++[b8]))))))) (some (.inl (a2,a8))):Option ((yaa×yaa)⊕((yaa×yaa×Int×Nat)⊕((yaa×yaa)⊕((yaa×yaa×Nat)⊕((yaa×yaa)⊕(zac×Int))))))).bind (Sum.elim (fun (s:yaa×yaa)=>zbf.k53 a6 b2 a7 s.1 s.2) some)) (some (.inr (.inl (a2,a8))))
def zbf.k55 (a2:Nat) (a6:yaa) (a7:yaa):Option ((yaa×yaa×Nat)⊕((yaa×yaa)⊕(zac×Int))) :=
 some (.inl (a6,a7,(a2+1)))
def zbf.s56 (o_:zar) (a6:yaa) (a7:yaa) (a2:Nat):Option ((yaa×yaa×Nat)⊕((yaa×yaa)⊕(zac×Int))) :=
 cond (decide ((↑a2:Int)<(↑o_.Traces.length:Int))) (idxn o_.Traces a2 fun a8=>(iter (fun (s:yaa×yaa×Int×Nat)=>zbf.s54 o_ a8 s.1 s.2.1 s.2.2.1 s.2.2.2) fuel (a6,a7,0,0):Option ((yaa×yaa)⊕((yaa×yaa×Nat)⊕((yaa×yaa)⊕(zac×Int))))).bind (Sum.elim (fun (s:yaa×yaa)=>zbf.k55 a2 s.1 s.2) some)) (some (.inr (.inl (a6,a7))))
def zbf.k57 (o_:zar) (a6:yaa) (a7:yaa):Option (zac×Int) :=
 (zaj (⟨o_.Inputs,0,a6,a7⟩:zac)).bind fun a2=>some (a2.1,0)
def zbf (o_:zar):Option (zac×Int) :=
 (zby o_).bind fun a2=>cond (decide (a2≠0)) (some ((⟨0,0,[],[]⟩:zac),a2)) ((zc0 o_.Inputs).bind fun a6=>(zc0 o_.Inputs).bind fun a7=>(iter (fun (s:yaa×yaa×Nat)=>zbf.s56 o_ s.1 s.2.1 s.2.2) fuel ([a6],[a7],0):Option ((yaa×yaa)⊕(zac×Int))).bind (Sum.elim (fun (s:yaa×yaa)=>zbf.k57 o_ s.1 s.2) some))
def zbo.s1 (b_:zbd) (a2:Int):Option (Int⊕(Int×(List (Int×Int)))) :=
 cond ((!((mget a2 b_.up).isSome))) (some (.inr (a2,b_.up))) (some (.inl ((mget a2 b_.up).getD 0)))
def zbo (b_:zbd) (x_:Int):Option (Int×(List (Int×Int))) :=
 iter (fun (s:Int)=>zbo.s1 b_ s) fuel x_
def zds (b_:zbd) (x_:Int) (y_:Int):Option (List (Int×Int)) :=
 some (mset y_ x_ b_.up)
def zaf.s2 (p_:zac) (a6:yaa) (a7:yaa) (a2:Nat):Option ((yaa×yaa×Nat)⊕(yaa×yaa)) :=
 cond (decide ((↑a2:Int)<(↑p_.Next.length:Int))) (idxn p_.Next a2 fun a8=>chk (zaz (List.length ([]:List Unit)+List.length a8) 8) (chk (zaz (List.length a6+List.length [([]++a8)]) 24) (idxn p_.Out a2 fun b2=>chk (zaz (List.length ([]:List Unit)+List.length b2) 8) (chk (zaz (List.length a7+List.length [([]++b2)]) 24) (some (.inl ((a6++[([]++a8)]),(a7++[([]++b2)]),(a2+1)))))))) (some (.inr (a6,a7)))
def zaf.s43 (a6:Int×(List (Int×Int))) (a7:Int×(List (Int×Int))) (b7:yab) (a8:yaa) (b2:yaa) (b3:List T_A2) (a2:Nat):Option ((yaa×yaa×List T_A2×Nat)⊕((yaa×yaa×List T_A2)⊕((yaa×yaa×(List (Int×Int))×List T_A2)⊕((yaa×yaa×(List (Int×Int))×List T_A2)⊕((yaa×yaa×(List (Int×Int)))⊕(zac×yab×Bool)))))) :=
 cond (decide ((↑a2:Int)<(↑b7.length:Int))) (idxn a8 (Int.toNat (max a6.1 a7.1)) fun b8=>idxn b8 a2 fun b4=>cond (decide (b4=(-1:Int))) (chk (inR ((↑a2:Int)+1)) (some (.inl (a8,b2,b3,(a2+1))))) (idx a8 (min a6.1 a7.1) fun b9=>idxn b9 a2 fun c0=>cond (decide (c0=(-1:Int))) (idx a8 (min a6.1 a7.1) fun b5=>idx b2 (min a6.1 a7.1) fun b6=>idx b2 (max a6.1 a7.1) fun c6=>idxn c6 a2 fun c7=>idxn b5 a2 fun d4=>idxn b6 a2 fun d5=>chk (inR ((↑a2:Int)+1)) (some (.inl ((List.set a8 (Int.toNat (min a6.1 a7.1)) (List.set b5 a2 b4)),(List.set b2 (Int.toNat (min a6.1 a7.1)) (List.set b6 a2 c7)),b3,(a2+1))))) (idx b2 (min a6.1 a7.1) fun c8=>idxn c8 a2 fun c9=>idx b2 (max a6.1 a7.1) fun d0=>idxn d0 a2 fun d1=>cond (decide (c9≠d1)) (some (.inr (.inr (.inr (.inr (.inr ((⟨0,0,[],[]⟩:zac),[],false))))))) (idx a8 (min a6.1 a7.1) fun d2=>idxn d2 a2 fun d3=>chk (zaz (List.length b3+1) 16) (chk (inR ((↑a2:Int)+1)) (some (.inl (a8,b2,(b3++[(⟨d3,b4⟩:T_A2)]),(a2+1))))))))) (some (.inr (.inl (a8,b2,b3))))
def zaf.k44 (a2:List (Int×Int)) (a6:yaa) (a7:yaa) (a8:List T_A2):Option ((yaa×yaa×(List (Int×Int))×List T_A2)⊕((yaa×yaa×(List (Int×Int))×List T_A2)⊕((yaa×yaa×(List (Int×Int)))⊕(zac×yab×Bool)))) :=
 some (.inl (a6,a7,a2,a8))
def zaf.k45 (a2:yaa) (a6:yaa) (a7:List (Int×Int)) (a8:List T_A2):Option ((yaa×yaa×(List (Int×Int))×List T_A2)⊕((yaa×yaa×(List (Int×Int)))⊕(zac×yab×Bool))) :=
 some (.inl (a2,a6,a7,a8))
def zaf.s46 (a8:yaa) (b2:yaa) (b3:List (Int×Int)) (a6:List T_A2):Option ((yaa×yaa×(List (Int×Int))×List T_A2)⊕((yaa×yaa×(List (Int×Int)))⊕(zac×yab×Bool))) :=
 cond (decide (0<(↑a6.length:Int))) ((idxn a6 0 fun b4=>(zbo (⟨b3⟩:zbd) b4.f0).bind fun a7=>idxn a6 0 fun b5=>(zbo (⟨a7.2⟩:zbd) b5.f1).bind fun a2=>chk (1<=List.length a6) (cond (decide (a7.1=a2.1)) (some (.inl (a8,b2,a2.2,(List.drop 1 a6)))) ((zds (⟨a2.2⟩:zbd) (min a7.1 a2.1) (max a7.1 a2.1)).bind fun b6=>idx a8 (max a7.1 a2.1) fun b7=>(iter (fun (s:yaa×yaa×List T_A2×Nat)=>zaf.s43 a7 a2 b7 s.1 s.2.1 s.2.2.1 s.2.2.2) fuel (a8,b2,(List.drop 1 a6),0):Option ((yaa×yaa×List T_A2)⊕((yaa×yaa×(List (Int×Int))×List T_A2)⊕((yaa×yaa×(List (Int×Int))×List T_A2)⊕((yaa×yaa×(List (Int×Int)))⊕(zac×yab×Bool)))))).bind (Sum.elim (fun (s:yaa×yaa×List T_A2)=>zaf.k44 b6 s.1 s.2.1 s.2.2) some))):Option ((yaa×yaa×(List (Int×Int))×List T_A2)⊕((yaa×yaa×(List (Int×Int))×List T_A2)⊕((yaa×yaa×(List (Int×Int)))⊕(zac×yab×Bool))))).bind (Sum.elim (fun (s:yaa×yaa×(List (Int×Int))×List T_A2)=>zaf.k45 s.1 s.2.1 s.2.2.1 s.2.2.2) some)) (some (.inr (.inl (a8,b2,b3))))
def zaf.s64 (a7:Nat) (b5:yab) (a6:yaa) (a8:List (Int×Int)) (a2:Nat):Option ((yaa×(List (Int×Int))×Nat)⊕(yaa×(List (Int×Int)))) :=
 cond (decide ((↑a2:Int)<(↑b5.length:Int))) (idxn a6 a7 fun b6=>idxn b6 a2 fun b2=>cond (decide (b2≠(-1:Int))) (idxn a6 a7 fun b3=>(zbo (⟨a8⟩:zbd) b2).bind fun b4=>idxn b3 a2 fun b7=>chk (inR ((↑a2:Int)+1)) (some (.inl ((List.set a6 a7 (List.set b3 a2 b4.1)),b4.2,(a2+1))))) (chk (inR ((↑a2:Int)+1)) (some (.inl (a6,a8,(a2+1)))))) (some (.inr (a6,a8)))
def zaf.k65 (a2:Nat) (a6:yaa) (a7:List (Int×Int)):Option ((yaa×(List (Int×Int))×Nat)⊕(yaa×(List (Int×Int)))) :=
 some (.inl (a6,a7,(a2+1)))
def zaf.s66 (a8:yaa) (a6:yaa) (a7:List (Int×Int)) (a2:Nat):Option ((yaa×(List (Int×Int))×Nat)⊕(yaa×(List (Int×Int)))) :=
 cond (decide ((↑a2:Int)<(↑a8.length:Int))) (idxn a6 a2 fun b2=>(iter (fun (s:yaa×(List (Int×Int))×Nat)=>zaf.s64 a2 b2 s.1 s.2.1 s.2.2) fuel (a6,a7,0):Option (yaa×(List (Int×Int)))).bind (fun (s:yaa×(List (Int×Int)))=>zaf.k65 a2 s.1 s.2)) (some (.inr (a6,a7)))
def zaf.s68 (a7:zac×yab) (b2:List (Int×Int)) (a6:yab) (a2:Nat):Option (((List (Int×Int))×yab×Nat)⊕yab) :=
 cond (decide ((↑a2:Int)<(↑(List.length (List.replicate a7.2.length (0:Int))):Int))) ((zbo (⟨b2⟩:zbd) (↑a2:Int)).bind fun a8=>idx a7.2 a8.1 fun b3=>idxn a6 a2 fun b4=>chk (inR ((↑a2:Int)+1)) (some (.inl (a8.2,(List.set a6 a2 b3),(a2+1))))) (some (.inr a6))
def zaf.k69 (p_:zac) (a7:yaa) (a8:yaa) (b2:List (Int×Int)):Option (zac×yab×Bool) :=
 (zbo (⟨b2⟩:zbd) p_.Start).bind fun a6=>(zaj (⟨p_.Inputs,a6.1,a8,a7⟩:zac)).bind fun a2=>chk ((0:Int)<=(↑a2.2.length:Int)∧(↑a2.2.length:Int)<=(↑a2.2.length:Int)∧zaz (Int.toNat (↑a2.2.length:Int)) 8) ((iter (fun (s:(List (Int×Int))×yab×Nat)=>zaf.s68 a2 s.1 s.2.1 s.2.2) fuel (a6.2,(List.replicate a2.2.length (0:Int)),0):Option (yab)).bind (fun (b3:yab)=>some (a2.1,b3,true)))
def zaf.k70 (p_:zac) (a2:yaa) (a6:yaa) (a7:List (Int×Int)):Option (zac×yab×Bool) :=
 (iter (fun (s:yaa×(List (Int×Int))×Nat)=>zaf.s66 a2 s.1 s.2.1 s.2.2) fuel (a2,a7,0):Option (yaa×(List (Int×Int)))).bind (fun (s:yaa×(List (Int×Int)))=>zaf.k69 p_ a6 s.1 s.2)
def zaf.k71 (p_:zac) (s_:Int) (t_:Int) (a2:yaa) (a6:yaa):Option (zac×yab×Bool) :=
 (iter (fun (s:yaa×yaa×(List (Int×Int))×List T_A2)=>zaf.s46 s.1 s.2.1 s.2.2.1 s.2.2.2) fuel (a2,a6,([]:List (Int×Int)),[(⟨s_,t_⟩:T_A2)]):Option ((yaa×yaa×(List (Int×Int)))⊕(zac×yab×Bool))).bind (Sum.elim (fun (s:yaa×yaa×(List (Int×Int)))=>zaf.k70 p_ s.1 s.2.1 s.2.2) some)
def zaf (p_:zac) (s_:Int) (t_:Int):Option (zac×yab×Bool) :=
 (iter (fun (s:yaa×yaa×Nat)=>zaf.s2 p_ s.1 s.2.1 s.2.2) fuel ([],[],0):Option (yaa×yaa)).bind (fun (s:yaa×yaa)=>zaf.k71 p_ s_ t_ s.1 s.2)
def zl0 (p_:zac) (s_:Int) (t_:Int):Option (zac×Bool×Int) :=
 (zc6 p_).bind fun a2=>cond (decide (a2≠0)) (some ((⟨0,0,[],[]⟩:zac),false,a2)) ((cond (decide ((min s_ t_)<0)) (some true) (some (decide ((↑p_.Next.length:Int)<=(max s_ t_)))):Option (Bool)).bind (fun (a7:Bool)=>cond (a7) (some ((⟨0,0,[],[]⟩:zac),false,2)) ((zaf p_ s_ t_).bind fun a6=>some (a6.1,a6.2.2,0))))
def zcn.s25 (red_:List Bool) (a7:yab) (best1109:Int) (a2:Nat):Option ((Int×Nat)⊕Int) :=
 cond (decide ((↑a2:Int)<(↑a7.length:Int))) (idxn a7 a2 fun a6=>(cond (decide (a6≠(-1:Int))) (idx red_ a6 fun a8=>some (!a8)) (some false):Option (Bool)).bind (fun (b2:Bool)=>cond (b2) (some (.inl ((min best1109 a6),(a2+1)))) (some (.inl (best1109,(a2+1)))))) (some (.inr best1109))
def zcn.s26 (p_:zac) (red_:List Bool) (best777:Int) (a2:Nat):Option ((Int×Nat)⊕Int) :=
 cond (decide ((↑a2:Int)<(↑red_.length:Int))) ((idxn red_ a2 fun a6=>cond ((!a6)) (some best777) (idxn p_.Next a2 fun a7=>(iter (fun (s:Int×Nat)=>zcn.s25 red_ a7 s.1 s.2) fuel (best777,0):Option (Int)).bind (fun (best1096:Int)=>some best1096)):Option (Int)).bind (fun (best1050:Int)=>some (.inl (best1050,(a2+1))))) (some (.inr best777))
def zcn (p_:zac) (red_:List Bool):Option (Int×Bool) :=
 (iter (fun (s:Int×Nat)=>zcn.s26 p_ red_ s.1 s.2) fuel ((↑red_.length:Int),0):Option (Int)).bind (fun (best596:Int)=>some (best596,decide (best596<(↑red_.length:Int))))
def zbs.s25 (red_:List Bool) (a7:zac×yab×Bool) (a6:List Bool) (a2:Nat):Option ((List Bool×Nat)⊕List Bool) :=
 cond (decide ((↑a2:Int)<(↑red_.length:Int))) (idxn red_ a2 fun b2=>(cond (b2) (idxn a7.2.1 a2 fun b3=>some (decide (b3≠(-1:Int)))) (some false):Option (Bool)).bind (fun (b4:Bool)=>cond (b4) (idxn a7.2.1 a2 fun a8=>idx a6 a8 fun b5=>some (.inl ((List.set a6 a8.toNat true),(a2+1)))) (some (.inl (a6,(a2+1)))))) (some (.inr a6))
def zbs.s26 (p_:zac) (red_:List Bool) (b_:Int) (a6:Nat):Option (Nat⊕(Unit⊕(zac×List Bool))) :=
 cond (decide ((↑a6:Int)<(↑red_.length:Int))) ((idxn red_ a6 fun a7=>cond ((!a7)) (some (.inl ())) ((zaf p_ (↑a6:Int) b_).bind fun a2=>cond ((!a2.2.2)) (some (.inl ())) (chk ((0:Int)<=(↑a2.1.Next.length:Int)∧(↑a2.1.Next.length:Int)<=(↑a2.1.Next.length:Int)∧zaz (Int.toNat (↑a2.1.Next.length:Int)) 1) ((iter (fun (s:List Bool×Nat)=>zbs.s25 red_ a2 s.1 s.2) fuel ((List.replicate a2.1.Next.length false),0):Option (List Bool)).bind (fun (a8:List Bool)=>some (.inr (.inr (.inr (a2.1,a8)))))))):Option (Unit⊕(Nat⊕(Unit⊕(zac×List Bool))))).bind (Sum.elim (fun (_:Unit)=>some (.inl (a6+1))) some)) (some (.inr (.inl ())))
def zbs (p_:zac) (red_:List Bool) (b_:Int):Option (zac×List Bool) :=
 (iter (fun (s:Nat)=>zbs.s26 p_ red_ b_ s) fuel 0:Option (Unit⊕(zac×List Bool))).bind (Sum.elim (fun (_:Unit)=>chk (zaz (List.length ([]:List Unit)+List.length red_) 1) (idx ([]++red_) b_ fun a2=>some (p_,(List.set ([]++red_) b_.toNat true)))) some)
def zce.s1 (a6:Int) (a7:Int) (a8:yaa) (b2:yaa) (red62:List Bool):Option ((Int×Int×yaa×yaa×List Bool)⊕(zac×Int)) :=
 (zcn (⟨a6,a7,a8,b2⟩:zac) red62).bind fun b3=>cond ((!b3.2)) (some (.inr ((⟨a6,a7,a8,b2⟩:zac),0))) ((zbs (⟨a6,a7,a8,b2⟩:zac) red62 b3.1).bind fun a2=>some (.inl (a2.1.Inputs,a2.1.Start,a2.1.Next,a2.1.Out,a2.2)))
def zce (o_:zar):Option (zac×Int) :=
 (zbf o_).bind fun a2=>cond (decide (a2.2≠0)) (some ((⟨0,0,[],[]⟩:zac),a2.2)) (chk ((0:Int)<=(↑a2.1.Next.length:Int)∧(↑a2.1.Next.length:Int)<=(↑a2.1.Next.length:Int)∧zaz (Int.toNat (↑a2.1.Next.length:Int)) 1) (idx (List.replicate a2.1.Next.length false) a2.1.Start fun a6=>iter (fun (s:Int×Int×yaa×yaa×List Bool)=>zce.s1 s.1 s.2.1 s.2.2.1 s.2.2.2.1 s.2.2.2.2) fuel (a2.1.Inputs,a2.1.Start,a2.1.Next,a2.1.Out,(List.set (List.replicate a2.1.Next.length false) a2.1.Start.toNat true))))
def L35_gate:Option (zaa) :=
 some (⟨2,0,[[1,0],[1,0]],[[1,0],[1,2]]⟩:zaa)
def zay.s2 (slices_:List (yaa)) (size73:Nat) (a2:Nat):Option ((Nat×Nat)⊕Nat) :=
 cond (decide ((↑a2:Int)<(↑slices_.length:Int))) (idxn slices_ a2 fun a6=>chk (inR ((↑size73:Int)+(↑a6.length:Int))) (cond (decide (((↑size73:Int)+(↑a6.length:Int))<0)) (none) (some (.inl ((size73+a6.length),(a2+1)))))) (some (.inr size73))
def zay.s4 (slices_:List (yaa)) (a2:yaa) (a6:Nat):Option ((yaa×Nat)⊕yaa) :=
 cond (decide ((↑a6:Int)<(↑slices_.length:Int))) (idxn slices_ a6 fun a7=>chk (zaz (List.length a2+List.length a7) 24) (some (.inl ((a2++a7),(a6+1))))) (some (.inr a2))
def zay (slices_:List (yaa)):Option (yaa) :=
 (iter (fun (s:Nat×Nat)=>zay.s2 slices_ s.1 s.2) fuel (0,0):Option (Nat)).bind (fun (size68:Nat)=>(zir (↑size68:Int)).bind fun a6=>(iter (fun (s:yaa×Nat)=>zay.s4 slices_ s.1 s.2) fuel (a6,0):Option (yaa)).bind (fun (a2:yaa)=>some a2))
def zem (a_:yab) (b_:yab) (p2_:(yab)->(yab)->Option Int):Option (Bool) :=
 (p2_ a_ b_).bind fun a2=>some (decide (a2=0))
def zak.s18 (eq_:(yab)->(yab)->Option Bool) (a8:Nat) (a2:yaa) (a7:Nat) (a6:Nat):Option ((yaa×Nat×Nat)⊕(yaa×Nat)) :=
 cond (decide ((↑a6:Int)<(↑(List.length a2-a8):Int))) (idxn a2 (a8+a6) fun b2=>chk ((0:Int)<=((↑a6:Int)-1)) (idxn a2 (a8+(Int.toNat ((↑a6:Int)-1))) fun b3=>(eq_ b2 b3).bind fun b4=>cond ((!b4)) (idxn a2 (a8+a6) fun b5=>idxn a2 a7 fun b6=>chk (inR ((↑a7:Int)+1)) (some (.inl ((List.set a2 a7 b5),(a7+1),(a6+1))))) (some (.inl (a2,a7,(a6+1)))))) (some (.inr (a2,a7)))
def zak.k19 (a6:yaa) (a2:Nat):Option (Nat⊕(Unit⊕yaa)) :=
 chk ((0:Int)<=(↑a2:Int)∧(↑a2:Int)<=(↑a6.length:Int)∧0<List.length a6) (chk (a2<=List.length a6) (chk ((0:Int)<=(↑a2:Int)∧(↑a2:Int)<=(↑(List.length (List.take a2 a6++List.replicate (List.length a6-a2) [])):Int)∧0<List.length (List.take a2 a6++List.replicate (List.length a6-a2) [])) (some (.inr (.inr (List.take a2 (List.take a2 a6++List.replicate (List.length a6-a2) [])))))))
def zak.s20 (s_:yaa) (eq_:(yab)->(yab)->Option Bool) (a2:Nat):Option (Nat⊕(Unit⊕yaa)) :=
 cond (decide ((↑a2:Int)<(↑s_.length:Int))) (idxn s_ a2 fun a6=>idx s_ ((↑a2:Int)-1) fun a7=>(eq_ a6 a7).bind fun a8=>cond (a8) (chk ((0:Int)<=(↑a2:Int)∧(↑a2:Int)<=(↑s_.length:Int)∧0<List.length s_) ((iter (fun (s:yaa×Nat×Nat)=>zak.s18 eq_ a2 s.1 s.2.1 s.2.2) fuel (s_,a2,1):Option (yaa×Nat)).bind (fun (s:yaa×Nat)=>zak.k19 s.1 s.2))) (some (.inl (a2+1)))) (some (.inr (.inl ())))
def zak (s_:yaa) (eq_:(yab)->(yab)->Option Bool):Option (yaa) :=
 cond (decide ((↑s_.length:Int)<2)) (some s_) ((iter (fun (s:Nat)=>zak.s20 s_ eq_ s) fuel 1:Option (Unit⊕yaa)).bind (Sum.elim (fun (_:Unit)=>some s_) some))
def zci.s2 (a7:yaa) (a6:yaa) (a2:Nat):Option ((yaa×Nat)⊕yaa) :=
 cond (decide ((↑a2:Int)<(↑a7.length:Int))) (idxn a6 a2 fun a8=>(zfh a8).bind fun b2=>idxn a6 a2 fun b3=>chk (inR ((↑a2:Int)+1)) (some (.inl ((List.set a6 a2 b2),(a2+1))))) (some (.inr a6))
def zci (l_:yaa) (order_:(yab)->(yab)->Option Int):Option (yaa) :=
 (zgb l_).bind fun a6=>(zdw a6 order_).bind fun a7=>(zak a7 (fun u0 u1=>zem u0 u1 order_)).bind fun a2=>(iter (fun (s:yaa×Nat)=>zci.s2 a2 s.1 s.2) fuel (a2,0):Option (yaa)).bind (fun (a8:yaa)=>some a8)
def zcw (l_:yaa):Option (yaa) :=
 (zci l_ (fun u0 u1=>zdj u0 u1)).bind fun a2=>some a2
def zfg (lists_:List (yaa)):Option (yaa) :=
 (zay lists_).bind fun a2=>(zcw a2).bind fun a6=>some a6
def zcb.s2 (l_:yaa) (a6:Int) (a2:Nat):Option ((Int×Nat)⊕Int) :=
 cond (decide ((↑a2:Int)<(↑l_.length:Int))) (idxn l_ a2 fun a7=>some (.inl ((max a6 (↑a7.length:Int)),(a2+1)))) (some (.inr a6))
def zcb (l_:yaa):Option (Int) :=
 (iter (fun (s:Int×Nat)=>zcb.s2 l_ s.1 s.2) fuel (0,0):Option (Int)).bind (fun (a2:Int)=>some a2)
def za3.s2 (slices_:yaa) (size73:Nat) (a2:Nat):Option ((Nat×Nat)⊕Nat) :=
 cond (decide ((↑a2:Int)<(↑slices_.length:Int))) (idxn slices_ a2 fun a6=>chk (inR ((↑size73:Int)+(↑a6.length:Int))) (cond (decide (((↑size73:Int)+(↑a6.length:Int))<0)) (none) (some (.inl ((size73+a6.length),(a2+1)))))) (some (.inr size73))
def za3.s4 (slices_:yaa) (a2:yab) (a6:Nat):Option ((yab×Nat)⊕yab) :=
 cond (decide ((↑a6:Int)<(↑slices_.length:Int))) (idxn slices_ a6 fun a7=>chk (zaz (List.length a2+List.length a7) 8) (some (.inl ((a2++a7),(a6+1))))) (some (.inr a2))
def za3 (slices_:yaa):Option (yab) :=
 (iter (fun (s:Nat×Nat)=>za3.s2 slices_ s.1 s.2) fuel (0,0):Option (Nat)).bind (fun (size68:Nat)=>(zk9 (↑size68:Int)).bind fun a6=>(iter (fun (s:yab×Nat)=>za3.s4 slices_ s.1 s.2) fuel (a6,0):Option (yab)).bind (fun (a2:yab)=>some a2))
def zep (parts_:yaa):Option (yab) :=
 (za3 parts_).bind fun a2=>some a2
def za0.k53 (a2:Nat) (a6:List (ByteArray×Bool)) (a7:yaa):Option (((List (ByteArray×Bool))×yaa×Nat)⊕(((List (ByteArray×Bool))×yaa)⊕(((List (ByteArray×Bool))×yaa×Nat)⊕(yaa⊕(yaa×Int))))) :=
 some (.inl (a6,a7,(a2+1)))
def za0.s54 (b5:yaa) (b3:yab) (a6:List (ByteArray×Bool)) (a2:yaa) (a7:Nat):Option (((List (ByteArray×Bool))×yaa×Nat)⊕(((List (ByteArray×Bool))×yaa)⊕(((List (ByteArray×Bool))×yaa×Nat)⊕(yaa⊕(yaa×Int))))) :=
 cond (decide ((↑a7:Int)<(↑b5.length:Int))) ((idxn b5 a7 fun b4=>(zep [b3,b4]).bind fun a8=>(zj6 a8).bind fun b2=>cond (((mget b2 a6).getD false)) (some (.inl (a6,a2))) (cond (decide ((↑a2.length:Int)=10000)) (some (.inr (.inr (.inr (.inr (.inr ([],11))))))) (chk (zaz (List.length a2+1) 24) (some (.inl ((mset b2 true a6),(a2++[a8])))))):Option (((List (ByteArray×Bool))×yaa)⊕(((List (ByteArray×Bool))×yaa×Nat)⊕(((List (ByteArray×Bool))×yaa)⊕(((List (ByteArray×Bool))×yaa×Nat)⊕(yaa⊕(yaa×Int))))))).bind (Sum.elim (fun (s:(List (ByteArray×Bool))×yaa)=>za0.k53 a7 s.1 s.2) some)) (some (.inr (.inl (a6,a2))))
def za0.k55 (a2:Nat) (a6:List (ByteArray×Bool)) (a7:yaa):Option (((List (ByteArray×Bool))×yaa×Nat)⊕(yaa⊕(yaa×Int))) :=
 some (.inl (a6,a7,(a2+1)))
def za0.s56 (b2:yaa) (b3:yaa) (a7:List (ByteArray×Bool)) (a6:yaa) (a2:Nat):Option (((List (ByteArray×Bool))×yaa×Nat)⊕(yaa⊕(yaa×Int))) :=
 cond (decide ((↑a2:Int)<(↑b2.length:Int))) (idxn b2 a2 fun a8=>(iter (fun (s:(List (ByteArray×Bool))×yaa×Nat)=>za0.s54 b3 a8 s.1 s.2.1 s.2.2) fuel (a7,a6,0):Option (((List (ByteArray×Bool))×yaa)⊕(((List (ByteArray×Bool))×yaa×Nat)⊕(yaa⊕(yaa×Int))))).bind (Sum.elim (fun (s:(List (ByteArray×Bool))×yaa)=>za0.k55 a2 s.1 s.2) some)) (some (.inr (.inl a6)))
def za0 (a_:yaa) (b_:yaa):Option (yaa×Int) :=
 (cond (decide ((↑a_.length:Int)=0)) (some true) (some (decide ((↑b_.length:Int)=0))):Option (Bool)).bind (fun (b4:Bool)=>cond (b4) (some ([],0)) ((zcb a_).bind fun a7=>(zcb b_).bind fun a8=>chk (inR (a7+a8)) (cond (decide (1024<(a7+a8))) (some ([],3)) ((zcw a_).bind fun b2=>(zcw b_).bind fun b3=>cond (decide (10000<(max (↑b2.length:Int) (↑b3.length:Int)))) (some ([],11)) ((iter (fun (s:(List (ByteArray×Bool))×yaa×Nat)=>za0.s56 b2 b3 s.1 s.2.1 s.2.2) fuel (([]:List (ByteArray×Bool)),[],0):Option (yaa⊕(yaa×Int))).bind (Sum.elim (fun (a2:yaa)=>(zdw a2 (fun u0 u1=>zdj u0 u1)).bind fun a6=>some (a6,0)) some))))))
def zck.s2 (a8:yaa) (a6:yaa) (a2:Nat):Option ((yaa×Nat)⊕yaa) :=
 cond (decide ((↑a2:Int)<(↑a8.length:Int))) (idxn a8 a2 fun a7=>(cond (decide (((↑a2:Int)+1)=(↑a8.length:Int))) (some true) (idxn a8 (a2+1) fun b2=>(zeh b2 a7).bind fun b3=>some (!b3)):Option (Bool)).bind (fun (b4:Bool)=>cond (b4) (chk (zaz (List.length a6+1) 24) (some (.inl ((a6++[a7]),(a2+1))))) (some (.inl (a6,(a2+1)))))) (some (.inr a6))
def zck (l_:yaa):Option (yaa) :=
 (zci l_ (fun u0 u1=>zhk u0 u1)).bind fun a7=>(iter (fun (s:yaa×Nat)=>zck.s2 a7 s.1 s.2) fuel ([],0):Option (yaa)).bind (fun (a2:yaa)=>(zcw a2).bind fun a6=>some a6)
def zbn.s13 (m_:zaa) (a6:Nat) (a2:Nat):Option (Nat⊕(Unit⊕(Nat⊕(Unit⊕Int)))) :=
 cond (decide ((↑a2:Int)<m_.Inputs)) (idxn m_.Next a6 fun b2=>idxn b2 a2 fun a7=>idxn m_.Out a6 fun b3=>idxn b3 a2 fun a8=>(cond (decide (a7<0)) (some true) (cond (decide ((↑m_.Next.length:Int)<=a7)) (some true) (cond (decide (a8<0)) (some true) (some (decide (1048576<a8))))):Option (Bool)).bind (fun (b4:Bool)=>cond (b4) (some (.inr (.inr (.inr (.inr 2))))) (chk (inR ((↑a2:Int)+1)) (some (.inl (a2+1)))))) (some (.inr (.inl ())))
def zbn.s14 (m_:zaa) (a2:Nat):Option (Nat⊕(Unit⊕Int)) :=
 cond (decide ((↑a2:Int)<(↑m_.Next.length:Int))) ((idxn m_.Next a2 fun a6=>cond (decide ((↑a6.length:Int)≠m_.Inputs)) (some true) (idxn m_.Out a2 fun a7=>some (decide ((↑a7.length:Int)≠m_.Inputs))):Option (Bool)).bind (fun (a8:Bool)=>cond (a8) (some (.inr (.inr 1))) ((iter (fun (s:Nat)=>zbn.s13 m_ a2 s) fuel 0:Option (Unit⊕(Nat⊕(Unit⊕Int)))).bind (Sum.elim (fun (_:Unit)=>some (.inl (a2+1))) some)))) (some (.inr (.inl ())))
def zbn (m_:zaa):Option (Int) :=
 (cond (decide (m_.Inputs<1)) (some true) (some (decide (64<m_.Inputs))):Option (Bool)).bind (fun (a2:Bool)=>cond (a2) (some 2) (cond (decide ((↑m_.Next.length:Int)=0)) (some 19) (cond (decide (128<(↑m_.Next.length:Int))) (some 11) ((cond (decide (m_.Start<0)) (some true) (some (decide ((↑m_.Next.length:Int)<=m_.Start))):Option (Bool)).bind (fun (a6:Bool)=>cond (a6) (some 2) (cond (decide ((↑m_.Out.length:Int)≠(↑m_.Next.length:Int))) (some 1) ((iter (fun (s:Nat)=>zbn.s14 m_ s) fuel 0:Option (Unit⊕Int)).bind (Sum.elim (fun (_:Unit)=>some 0) some))))))))
def zb4.s18 (b2:yab) (a2:List Bool) (a6:yab) (a7:Nat):Option ((List Bool×yab×Nat)⊕(List Bool×yab)) :=
 cond (decide ((↑a7:Int)<(↑b2.length:Int))) (idxn b2 a7 fun a8=>idx a2 a8 fun b3=>cond ((!b3)) (idx a2 a8 fun b4=>chk (zaz (List.length a6+1) 8) (some (.inl ((List.set a2 a8.toNat true),(a6++[a8]),(a7+1))))) (some (.inl (a2,a6,(a7+1))))) (some (.inr (a2,a6)))
def zb4.k19 (a2:Nat) (a6:List Bool) (a7:yab):Option ((List Bool×yab×Nat)⊕yab) :=
 some (.inl (a6,a7,(a2+1)))
def zb4.s20 (m_:zaa) (a7:List Bool) (a2:yab) (a6:Nat):Option ((List Bool×yab×Nat)⊕yab) :=
 cond (decide ((↑a6:Int)<(↑a2.length:Int))) (idxn a2 a6 fun a8=>idx m_.Next a8 fun b2=>(iter (fun (s:List Bool×yab×Nat)=>zb4.s18 b2 s.1 s.2.1 s.2.2) fuel (a7,a2,0):Option (List Bool×yab)).bind (fun (s:List Bool×yab)=>zb4.k19 a6 s.1 s.2)) (some (.inr a2))
def zb4 (m_:zaa):Option (yab) :=
 (zbn m_).bind fun a6=>cond (decide (a6≠0)) (some []) (chk ((0:Int)<=(↑m_.Next.length:Int)∧(↑m_.Next.length:Int)<=(↑m_.Next.length:Int)∧zaz (Int.toNat (↑m_.Next.length:Int)) 1) (idx (List.replicate m_.Next.length false) m_.Start fun a7=>(iter (fun (s:List Bool×yab×Nat)=>zb4.s20 m_ s.1 s.2.1 s.2.2) fuel ((List.set (List.replicate m_.Next.length false) m_.Start.toNat true),[m_.Start],0):Option (yab)).bind (fun (a2:yab)=>some a2)))
def zbx.s2 (a7:yab) (a6:yab) (a2:Nat):Option ((yab×Nat)⊕yab) :=
 cond (decide ((↑a2:Int)<(↑a7.length:Int))) (idxn a7 a2 fun a8=>idx a6 a8 fun b2=>some (.inl ((List.set a6 a8.toNat (↑a2:Int)),(a2+1)))) (some (.inr a6))
def zbx.s15 (b3:yab) (a7:yab) (a6:yab) (a2:Nat):Option ((yab×Nat)⊕yab) :=
 cond (decide ((↑a2:Int)<(↑a7.length:Int))) (idxn a7 a2 fun a8=>idx b3 a8 fun b2=>idxn a6 a2 fun b4=>some (.inl ((List.set a6 a2 b2),(a2+1)))) (some (.inr a6))
def zbx.s16 (m_:zaa) (b6:yab) (b7:yab) (a2:yaa) (a6:yaa) (a7:Nat):Option ((yaa×yaa×Nat)⊕(yaa×yaa)) :=
 cond (decide ((↑a7:Int)<(↑b6.length:Int))) (idxn b6 a7 fun a8=>chk ((0:Int)<=m_.Inputs∧m_.Inputs<=m_.Inputs∧zaz (Int.toNat m_.Inputs) 8) (idx m_.Next a8 fun b2=>(iter (fun (s:yab×Nat)=>zbx.s15 b7 b2 s.1 s.2) fuel ((List.replicate (Int.toNat m_.Inputs) (0:Int)),0):Option (yab)).bind (fun (b3:yab)=>chk (zaz (List.length a2+1) 24) (idx m_.Out a8 fun b4=>(zfh b4).bind fun b5=>chk (zaz (List.length a6+1) 24) (some (.inl ((a2++[b3]),(a6++[b5]),(a7+1)))))))) (some (.inr (a2,a6)))
def zbx.k17 (m_:zaa) (a2:yaa) (a6:yaa):Option (zaa×Int) :=
 some ((⟨m_.Inputs,0,a2,a6⟩:zaa),0)
def zbx (m_:zaa):Option (zaa×Int) :=
 (zbn m_).bind fun a2=>cond (decide (a2≠0)) (some ((⟨0,0,[],[]⟩:zaa),a2)) ((zb4 m_).bind fun a6=>chk ((0:Int)<=(↑m_.Next.length:Int)∧(↑m_.Next.length:Int)<=(↑m_.Next.length:Int)∧zaz (Int.toNat (↑m_.Next.length:Int)) 8) ((iter (fun (s:yab×Nat)=>zbx.s2 a6 s.1 s.2) fuel ((List.replicate m_.Next.length (0:Int)),0):Option (yab)).bind (fun (a7:yab)=>(iter (fun (s:yaa×yaa×Nat)=>zbx.s16 m_ a6 a7 s.1 s.2.1 s.2.2) fuel ([],[],0):Option (yaa×yaa)).bind (fun (s:yaa×yaa)=>zbx.k17 m_ s.1 s.2))))
def zba.s18 (m_:zaa) (class_:yab) (a7:Nat) (a6:yab) (a2:Nat):Option ((yab×Nat)⊕yab) :=
 cond (decide ((↑a2:Int)<m_.Inputs)) (idxn m_.Out a7 fun b2=>idxn b2 a2 fun a8=>chk ((↑a2:Int)<128) (idxn a6 a2 fun b6=>chk (inR (64+(↑a2:Int))) (idxn m_.Next a7 fun b3=>idxn b3 a2 fun b4=>idx class_ b4 fun b5=>chk ((64+(↑a2:Int))<128) (idxn (List.set a6 a2 a8) (64+a2) fun b7=>chk (inR ((↑a2:Int)+1)) (some (.inl ((List.set (List.set a6 a2 a8) (64+a2) b5),(a2+1)))))))) (some (.inr a6))
def zba.k19 (a6:yab) (a2:Nat) (a7:List (yab×Int)) (a8:Int):Option (((List (yab×Int))×yab×Nat)⊕((List (yab×Int))×yab)) :=
 idxn a6 a2 fun b2=>some (.inl (a7,(List.set a6 a2 a8),(a2+1)))
def zba.s20 (m_:zaa) (class_:yab) (a2:List (yab×Int)) (a8:yab) (a7:Nat):Option (((List (yab×Int))×yab×Nat)⊕((List (yab×Int))×yab)) :=
 cond (decide ((↑a7:Int)<(↑class_.length:Int))) ((iter (fun (s:yab×Nat)=>zba.s18 m_ class_ a7 s.1 s.2) fuel ((List.replicate 128 0),0):Option (yab)).bind (fun (a6:yab)=>chk (List.length a6=128) (chk (List.length a6=128∧∀ p∈a2,List.length p.1=128) ((cond ((!((mget a6 a2).isSome))) (chk (List.length a6=128) (chk (List.length a6=128∧∀ p∈a2,List.length p.1=128) (some ((mset a6 (↑a2.length:Int) a2),(↑a2.length:Int))))) (some (a2,((mget a6 a2).getD 0))):Option ((List (yab×Int))×Int)).bind (fun (s:(List (yab×Int))×Int)=>zba.k19 a8 a7 s.1 s.2))))) (some (.inr (a2,a8)))
def zba.k21 (a2:List (yab×Int)) (a6:yab):Option (yab×Int) :=
 some (a6,(↑a2.length:Int))
def zba (m_:zaa) (class_:yab):Option (yab×Int) :=
 chk ((0:Int)<=(↑class_.length:Int)∧(↑class_.length:Int)<=(↑class_.length:Int)∧zaz (Int.toNat (↑class_.length:Int)) 8) ((iter (fun (s:(List (yab×Int))×yab×Nat)=>zba.s20 m_ class_ s.1 s.2.1 s.2.2) fuel (([]:List (yab×Int)),(List.replicate class_.length (0:Int)),0):Option ((List (yab×Int))×yab)).bind (fun (s:(List (yab×Int))×yab)=>zba.k21 s.1 s.2))
def zcj.s2 (m_:zaa) (k_:Int) (class71:yab) (a7:Int) (a2:Nat):Option ((yab×Int×Nat)⊕(yab⊕(yab×Int))) :=
 cond (decide ((↑a2:Int)<(min (max k_ 0) (↑m_.Next.length:Int)))) ((zba m_ class71).bind fun a6=>cond (decide (a6.2=a7)) (some (.inr (.inr (class71,(↑a2:Int))))) (some (.inl (a6.1,a6.2,(a2+1))))) (some (.inr (.inl class71)))
def zcj (m_:zaa) (k_:Int):Option (yab×Int) :=
 chk ((0:Int)<=(↑m_.Next.length:Int)∧(↑m_.Next.length:Int)<=(↑m_.Next.length:Int)∧zaz (Int.toNat (↑m_.Next.length:Int)) 8) ((iter (fun (s:yab×Int×Nat)=>zcj.s2 m_ k_ s.1 s.2.1 s.2.2) fuel ((List.replicate m_.Next.length (0:Int)),1,0):Option (yab⊕(yab×Int))).bind (Sum.elim (fun (class67:yab)=>some (class67,(min (max k_ 0) (↑m_.Next.length:Int)))) some))
def ze4 (m_:zaa) (k_:Int):Option (yab×Int) :=
 (zbn m_).bind fun a2=>cond (decide (a2≠0)) (some ([],a2)) ((zcj m_ k_).bind fun a6=>some (a6.1,0))
def zey (m_:zaa):Option (yab×Int) :=
 (ze4 m_ 128).bind fun a2=>some (a2.1,a2.2)
def zbl.s30 (b3:yab×Int) (a7:yab) (a2:yab) (a6:Nat):Option ((yab×Nat)⊕yab) :=
 cond (decide ((↑a6:Int)<(↑a7.length:Int))) (idxn a7 a6 fun a8=>idx b3.1 a8 fun b2=>chk (zaz (List.length a2+1) 8) (some (.inl ((a2++[b2]),(a6+1))))) (some (.inr a2))
def zbl.k31 (a2:Nat) (a6:yaa) (a7:yaa):Option ((yaa×yaa×Nat)⊕(yaa×yaa)) :=
 some (.inl (a6,a7,(a2+1)))
def zbl.s32 (b6:zaa×Int) (b2:yab×Int) (a2:yaa) (a7:yaa) (a6:Nat):Option ((yaa×yaa×Nat)⊕(yaa×yaa)) :=
 cond (decide ((↑a6:Int)<(↑b2.1.length:Int))) ((idxn b2.1 a6 fun b3=>cond (decide (b3<(↑a2.length:Int))) (some (a2,a7)) (idxn b6.1.Next a6 fun b4=>(iter (fun (s:yab×Nat)=>zbl.s30 b2 b4 s.1 s.2) fuel ([],0):Option (yab)).bind (fun (b5:yab)=>chk (zaz (List.length a2+1) 24) (idxn b6.1.Out a6 fun a8=>chk (zaz (List.length ([]:List Unit)+List.length a8) 8) (chk (zaz (List.length a7+1) 24) (some ((a2++[b5]),(a7++[([]++a8)]))))))):Option (yaa×yaa)).bind (fun (s:yaa×yaa)=>zbl.k31 a6 s.1 s.2)) (some (.inr (a2,a7)))
def zbl.k33 (a7:zaa×Int) (a2:yaa) (a6:yaa):Option (zaa×Int) :=
 some ((⟨a7.1.Inputs,0,a2,a6⟩:zaa),0)
def zbl (m_:zaa):Option (zaa×Int) :=
 (zbx m_).bind fun a2=>cond (decide (a2.2≠0)) (some ((⟨0,0,[],[]⟩:zaa),a2.2)) ((zey a2.1).bind fun a6=>cond (decide (a6.2≠0)) (some ((⟨0,0,[],[]⟩:zaa),a6.2)) ((iter (fun (s:yaa×yaa×Nat)=>zbl.s32 a2 a6 s.1 s.2.1 s.2.2) fuel ([],[],0):Option (yaa×yaa)).bind (fun (s:yaa×yaa)=>zbl.k33 a2 s.1 s.2)))
def zbw.s18 (b3:Nat) (b2:yab) (a2:List Bool) (a6:List za6) (a7:Nat):Option ((List Bool×List za6×Nat)⊕(List Bool×List za6)) :=
 cond (decide ((↑a7:Int)<(↑b2.length:Int))) (idxn b2 a7 fun a8=>idx a2 a8 fun b4=>cond ((!b4)) (idx a2 a8 fun b7=>idxn a6 b3 fun b5=>(zep [b5.word,[(↑a7:Int)]]).bind fun b6=>chk (zaz (List.length a6+1) 32) (some (.inl ((List.set a2 a8.toNat true),(a6++[(⟨a8,b6⟩:za6)]),(a7+1))))) (some (.inl (a2,a6,(a7+1))))) (some (.inr (a2,a6)))
def zbw.k19 (a2:Nat) (a6:List Bool) (a7:List za6):Option ((List Bool×List za6×Nat)⊕List za6) :=
 some (.inl (a6,a7,(a2+1)))
def zbw.s20 (m_:zaa) (a7:List Bool) (a2:List za6) (a6:Nat):Option ((List Bool×List za6×Nat)⊕List za6) :=
 cond (decide ((↑a6:Int)<(↑a2.length:Int))) (idxn a2 a6 fun a8=>idx m_.Next a8.state fun b2=>(iter (fun (s:List Bool×List za6×Nat)=>zbw.s18 a6 b2 s.1 s.2.1 s.2.2) fuel (a7,a2,0):Option (List Bool×List za6)).bind (fun (s:List Bool×List za6)=>zbw.k19 a6 s.1 s.2)) (some (.inr a2))
def zbw (m_:zaa) (from_:Int):Option (List za6) :=
 chk ((0:Int)<=(↑m_.Next.length:Int)∧(↑m_.Next.length:Int)<=(↑m_.Next.length:Int)∧zaz (Int.toNat (↑m_.Next.length:Int)) 1) (idx (List.replicate m_.Next.length false) from_ fun a6=>(iter (fun (s:List Bool×List za6×Nat)=>zbw.s20 m_ s.1 s.2.1 s.2.2) fuel ((List.set (List.replicate m_.Next.length false) from_.toNat true),[(⟨from_,[]⟩:za6)],0):Option (List za6)).bind (fun (a2:List za6)=>some a2))
def zcg.s2 (a8:List za6) (a2:yab) (a6:yaa) (a7:Nat):Option ((yab×yaa×Nat)⊕(yab×yaa)) :=
 cond (decide ((↑a7:Int)<(↑a8.length:Int))) (idxn a8 a7 fun b2=>chk (zaz (List.length a2+1) 8) (chk (zaz (List.length a6+1) 24) (some (.inl ((a2++[b2.state]),(a6++[b2.word]),(a7+1)))))) (some (.inr (a2,a6)))
def zcg.k3 (a2:yab) (a6:yaa):Option (yab×yaa×Int) :=
 some (a2,a6,0)
def zcg (m_:zaa):Option (yab×yaa×Int) :=
 (zbn m_).bind fun a2=>cond (decide (a2≠0)) (some ([],[],a2)) ((zbw m_ m_.Start).bind fun a6=>(iter (fun (s:yab×yaa×Nat)=>zcg.s2 a6 s.1 s.2.1 s.2.2) fuel ([],[],0):Option (yab×yaa)).bind (fun (s:yab×yaa)=>zcg.k3 s.1 s.2))
def zez (m_:zaa):Option (yaa×Int) :=
 (zcg m_).bind fun a2=>some (a2.2.1,a2.2.2)
def za9.s13 (m_:zaa) (a7:yab) (a6:yaa) (a2:Nat):Option ((yaa×Nat)⊕yaa) :=
 cond (decide ((↑a2:Int)<m_.Inputs)) ((zep [a7,[(↑a2:Int)]]).bind fun a8=>chk (zaz (List.length a6+1) 24) (chk (inR ((↑a2:Int)+1)) (some (.inl ((a6++[a8]),(a2+1)))))) (some (.inr a6))
def za9.s14 (m_:zaa) (b2:yab×yaa×Int) (a6:yaa) (a2:Nat):Option ((yaa×Nat)⊕yaa) :=
 cond (decide ((↑a2:Int)<(↑b2.2.1.length:Int))) (idxn b2.2.1 a2 fun a7=>(iter (fun (s:yaa×Nat)=>za9.s13 m_ a7 s.1 s.2) fuel (a6,0):Option (yaa)).bind (fun (a8:yaa)=>some (.inl (a8,(a2+1))))) (some (.inr a6))
def za9 (m_:zaa):Option (yaa×Int) :=
 (zcg m_).bind fun a2=>cond (decide (a2.2.2≠0)) (some ([],a2.2.2)) ((iter (fun (s:yaa×Nat)=>za9.s14 m_ a2 s.1 s.2) fuel ([],0):Option (yaa)).bind (fun (a6:yaa)=>(zcw a6).bind fun a7=>some (a7,0)))
def zcq.s2 (m_:zaa) (w_:yab) (b5:Int) (a6:yab) (a7:Nat):Option ((Int×yab×Nat)⊕yab) :=
 cond (decide ((↑a7:Int)<(↑w_.length:Int))) (idxn w_ a7 fun a2=>idx m_.Out b5 fun a8=>idx a8 a2 fun b2=>chk (zaz (List.length a6+1) 8) (idx m_.Next b5 fun b3=>idx b3 a2 fun b4=>some (.inl (b4,(a6++[b2]),(a7+1))))) (some (.inr a6))
def zcq (m_:zaa) (s_:Int) (w_:yab):Option (yab) :=
 chk ((0:Int)<=0∧0<=(↑w_.length:Int)∧zaz (Int.toNat (↑w_.length:Int)) 8) ((iter (fun (s:Int×yab×Nat)=>zcq.s2 m_ w_ s.1 s.2.1 s.2.2) fuel (s_,[],0):Option (yab)).bind (fun (a2:yab)=>some a2))
def zbu.s2 (s1_:yab) (s2_:yab) (a2:Nat):Option (Nat⊕(Unit⊕Bool)) :=
 cond (decide ((↑a2:Int)<(↑s1_.length:Int))) (idxn s1_ a2 fun a6=>idxn s2_ a2 fun a7=>cond (decide (a6≠a7)) (some (.inr (.inr false))) (some (.inl (a2+1)))) (some (.inr (.inl ())))
def zbu (s1_:yab) (s2_:yab):Option (Bool) :=
 cond (decide ((↑s1_.length:Int)≠(↑s2_.length:Int))) (some false) ((iter (fun (s:Nat)=>zbu.s2 s1_ s2_ s) fuel 0:Option (Unit⊕Bool)).bind (Sum.elim (fun (_:Unit)=>some true) some))
def zd1 (w_:yab) (p1_:zaa) (p2_:Int) (p3_:Int):Option (Bool) :=
 (zcq p1_ p2_ w_).bind fun a2=>(zcq p1_ p3_ w_).bind fun a6=>(zbu a2 a6).bind fun a7=>some (!a7)
def zb1.s2 (l_:yaa) (has_:(yab)->Option Bool) (a2:Nat):Option (Nat⊕(Unit⊕Bool)) :=
 cond (decide ((↑a2:Int)<(↑l_.length:Int))) (idxn l_ a2 fun a6=>(has_ a6).bind fun a7=>cond (a7) (some (.inr (.inr true))) (some (.inl (a2+1)))) (some (.inr (.inl ())))
def zb1 (l_:yaa) (has_:(yab)->Option Bool):Option (Bool) :=
 (iter (fun (s:Nat)=>zb1.s2 l_ has_ s) fuel 0:Option (Unit⊕Bool)).bind (Sum.elim (fun (_:Unit)=>some false) some)
def zef (m_:zaa) (words_:yaa) (s_:Int) (t_:Int):Option (Bool) :=
 (zb1 words_ (fun u0=>zd1 u0 m_ s_ t_)).bind fun a2=>some a2
def ze0 (m_:zaa):Option (Bool) :=
 ((zbn m_).bind fun a6=>cond (decide (a6≠0)) (some true) ((zb4 m_).bind fun a7=>some (decide ((↑a7.length:Int)≠(↑m_.Next.length:Int)))):Option (Bool)).bind (fun (a8:Bool)=>cond (a8) (some false) ((zbl m_).bind fun a2=>(cond (decide (a2.2=0)) (some (decide ((↑a2.1.Next.length:Int)=(↑m_.Next.length:Int)))) (some false):Option (Bool)).bind (fun (b2:Bool)=>some b2)))
def zft (m_:zaa):Option (Int) :=
 (zbn m_).bind fun a2=>cond (decide (a2≠0)) (some a2) ((ze0 m_).bind fun a6=>cond ((!a6)) (some 1) (some 0))
def zbe.s2 (a_:zaa) (b_:zaa) (a6:List (List Bool)) (a2:Nat):Option ((List (List Bool)×Nat)⊕List (List Bool)) :=
 cond (decide ((↑a2:Int)<(↑(List.length (List.replicate a_.Next.length ([]:List Bool))):Int))) (chk ((0:Int)<=(↑b_.Next.length:Int)∧(↑b_.Next.length:Int)<=(↑b_.Next.length:Int)∧zaz (Int.toNat (↑b_.Next.length:Int)) 1) (idxn a6 a2 fun a7=>chk (inR ((↑a2:Int)+1)) (some (.inl ((List.set a6 a2 (List.replicate b_.Next.length false)),(a2+1)))))) (some (.inr a6))
def zbe.s20 (a_:zaa) (b_:zaa) (b5:Nat) (a6:zbc) (a8:List (List Bool)) (a7:List zbc) (a2:Nat):Option ((List (List Bool)×List zbc×Nat)⊕((List (List Bool)×List zbc)⊕((List (List Bool)×List zbc×Nat)⊕(Unit⊕(yab×Bool))))) :=
 cond (decide ((↑a2:Int)<a_.Inputs)) (idx a_.Out a6.at_.s fun b6=>idxn b6 a2 fun b7=>idx b_.Out a6.at_.t fun b8=>idxn b8 a2 fun b9=>cond (decide (b7≠b9)) (idxn a7 b5 fun c0=>(zep [c0.word,[(↑a2:Int)]]).bind fun c6=>some (.inr (.inr (.inr (.inr (c6,true)))))) (idx a_.Next a6.at_.s fun c7=>idxn c7 a2 fun b2=>idx b_.Next a6.at_.t fun c8=>idxn c8 a2 fun b3=>(cond ((!(decide (b2=a6.at_.s)&&(decide (b3=a6.at_.t)&&true)))) (idx a8 b2 fun c9=>idx c9 b3 fun d0=>some (!d0)) (some false):Option (Bool)).bind (fun (d1:Bool)=>cond (d1) (idx a8 b2 fun b4=>idx b4 b3 fun d4=>idxn a7 b5 fun d2=>(zep [d2.word,[(↑a2:Int)]]).bind fun d3=>chk (zaz (List.length a7+1) 40) (chk (inR ((↑a2:Int)+1)) (some (.inl ((List.set a8 (Int.toNat b2) (List.set b4 (Int.toNat b3) true)),(a7++[(⟨(⟨b2,b3⟩:zdl),d3⟩:zbc)]),(a2+1)))))) (chk (inR ((↑a2:Int)+1)) (some (.inl (a8,a7,(a2+1)))))))) (some (.inr (.inl (a8,a7))))
def zbe.k21 (a7:Nat) (a2:List (List Bool)) (a6:List zbc):Option ((List (List Bool)×List zbc×Nat)⊕(Unit⊕(yab×Bool))) :=
 some (.inl (a2,a6,(a7+1)))
def zbe.s22 (a_:zaa) (b_:zaa) (a8:List (List Bool)) (a6:List zbc) (a2:Nat):Option ((List (List Bool)×List zbc×Nat)⊕(Unit⊕(yab×Bool))) :=
 cond (decide ((↑a2:Int)<(↑a6.length:Int))) (idxn a6 a2 fun a7=>(iter (fun (s:List (List Bool)×List zbc×Nat)=>zbe.s20 a_ b_ a2 a7 s.1 s.2.1 s.2.2) fuel (a8,a6,0):Option ((List (List Bool)×List zbc)⊕((List (List Bool)×List zbc×Nat)⊕(Unit⊕(yab×Bool))))).bind (Sum.elim (fun (s:List (List Bool)×List zbc)=>zbe.k21 a2 s.1 s.2) some)) (some (.inr (.inl ())))
def zbe (a_:zaa) (b_:zaa) (first_:zdl):Option (yab×Bool) :=
 chk ((0:Int)<=(↑a_.Next.length:Int)∧(↑a_.Next.length:Int)<=(↑a_.Next.length:Int)∧zaz (Int.toNat (↑a_.Next.length:Int)) 24) ((iter (fun (s:List (List Bool)×Nat)=>zbe.s2 a_ b_ s.1 s.2) fuel ((List.replicate a_.Next.length ([]:List Bool)),0):Option (List (List Bool))).bind (fun (a2:List (List Bool))=>idx a2 first_.s fun a6=>idx a6 first_.t fun a7=>(iter (fun (s:List (List Bool)×List zbc×Nat)=>zbe.s22 a_ b_ s.1 s.2.1 s.2.2) fuel ((List.set a2 (Int.toNat first_.s) (List.set a6 (Int.toNat first_.t) true)),[(⟨first_,[]⟩:zbc)],0):Option (Unit⊕(yab×Bool))).bind (Sum.elim (fun (_:Unit)=>some ([],false)) some)))
def zg9 (m_:zaa) (s_:Int) (t_:Int):Option (yab×Bool×Int) :=
 (zbn m_).bind fun a2=>cond (decide (a2≠0)) (some ([],false,a2)) ((cond (decide (s_<0)) (some true) (cond (decide ((↑m_.Next.length:Int)<=s_)) (some true) (cond (decide (t_<0)) (some true) (some (decide ((↑m_.Next.length:Int)<=t_))))):Option (Bool)).bind (fun (a7:Bool)=>cond (a7) (some ([],false,2)) ((zbe m_ m_ (⟨s_,t_⟩:zdl)).bind fun a6=>some (a6.1,a6.2,0))))
def zbq.s13 (m_:zaa) (a8:Nat) (a2:yaa) (a6:Nat):Option ((yaa×Nat)⊕(yaa⊕((yaa×Nat)⊕(yaa⊕(yaa×Int))))) :=
 cond (decide ((↑a6:Int)<(↑m_.Next.length:Int))) (((zef m_ a2 (↑a8:Int) (↑a6:Int)).bind fun b2=>cond (b2) (some (.inl a2)) ((zg9 m_ (↑a8:Int) (↑a6:Int)).bind fun a7=>cond (decide (a7.2.2≠0)) (some (.inr (.inr (.inr (.inr (.inr ([],a7.2.2))))))) (chk (zaz (List.length a2+1) 24) (some (.inl (a2++[a7.1]))))):Option (yaa⊕((yaa×Nat)⊕(yaa⊕((yaa×Nat)⊕(yaa⊕(yaa×Int))))))).bind (Sum.elim (fun (b3:yaa)=>some (.inl (b3,(a6+1)))) some)) (some (.inr (.inl a2)))
def zbq.s14 (m_:zaa) (a6:yaa) (a2:Nat):Option ((yaa×Nat)⊕(yaa⊕(yaa×Int))) :=
 cond (decide ((↑a2:Int)<(↑m_.Next.length:Int))) ((iter (fun (s:yaa×Nat)=>zbq.s13 m_ a2 s.1 s.2) fuel (a6,(a2+1)):Option (yaa⊕((yaa×Nat)⊕(yaa⊕(yaa×Int))))).bind (Sum.elim (fun (a7:yaa)=>some (.inl (a7,(a2+1)))) some)) (some (.inr (.inl a6)))
def zbq (m_:zaa):Option (yaa×Int) :=
 (zft m_).bind fun a7=>cond (decide (a7≠0)) (some ([],a7)) ((iter (fun (s:yaa×Nat)=>zbq.s14 m_ s.1 s.2) fuel ([],0):Option (yaa⊕(yaa×Int))).bind (Sum.elim (fun (a2:yaa)=>(zcw a2).bind fun a6=>some (a6,0)) some))
def zf7 (m_:zaa):Option (yaa×Int) :=
 (zbn m_).bind fun a7=>cond (decide (a7≠0)) (some ([],a7)) ((zbl m_).bind fun a2=>(zez a2.1).bind fun b3=>(za9 a2.1).bind fun a8=>(zbq a2.1).bind fun b2=>(cond (decide ((↑b2.1.length:Int)=0)) (some [[]]) (some b2.1):Option (yaa)).bind (fun (ends60:yaa)=>(zfg [b3.1,a8.1]).bind fun b4=>(za0 b4 ends60).bind fun a6=>cond (decide (a6.2≠0)) (some ([],a6.2)) ((zfg [a8.1,a6.1]).bind fun b5=>(zck b5).bind fun b6=>some (b6,0))))
def zbt.s18 (p_:zac) (out_:Int) (b3:Nat) (b4:yab) (a6:yab) (a7:yab) (a2:Nat):Option ((yab×yab×Nat)⊕(yab×yab)) :=
 cond (decide ((↑a2:Int)<(↑b4.length:Int))) (idxn b4 a2 fun a8=>idxn p_.Out b3 fun b5=>idxn b5 a2 fun b2=>idxn a6 a2 fun b6=>idxn a7 a2 fun b7=>cond (decide (a8=(-1:Int))) (idxn (List.set a6 a2 a8) a2 fun b8=>idxn (List.set a7 a2 b2) a2 fun b9=>some (.inl ((List.set (List.set a6 a2 a8) a2 (↑b3:Int)),(List.set (List.set a7 a2 b2) a2 out_),(a2+1)))) (some (.inl ((List.set a6 a2 a8),(List.set a7 a2 b2),(a2+1))))) (some (.inr (a6,a7)))
def zbt.k19 (a2:yaa) (a6:yaa) (a7:Nat) (a8:yab) (b2:yab):Option ((yaa×yaa×Nat)⊕(yaa×yaa)) :=
 chk (zaz (List.length a2+1) 24) (chk (zaz (List.length a6+1) 24) (some (.inl ((a2++[a8]),(a6++[b2]),(a7+1)))))
def zbt.s20 (p_:zac) (out_:Int) (a6:yaa) (a7:yaa) (a2:Nat):Option ((yaa×yaa×Nat)⊕(yaa×yaa)) :=
 cond (decide ((↑a2:Int)<(↑p_.Next.length:Int))) (chk ((0:Int)<=p_.Inputs∧p_.Inputs<=p_.Inputs∧zaz (Int.toNat p_.Inputs) 8) (chk ((0:Int)<=p_.Inputs∧p_.Inputs<=p_.Inputs∧zaz (Int.toNat p_.Inputs) 8) (idxn p_.Next a2 fun a8=>(iter (fun (s:yab×yab×Nat)=>zbt.s18 p_ out_ a2 a8 s.1 s.2.1 s.2.2) fuel ((List.replicate (Int.toNat p_.Inputs) (0:Int)),(List.replicate (Int.toNat p_.Inputs) (0:Int)),0):Option (yab×yab)).bind (fun (s:yab×yab)=>zbt.k19 a6 a7 a2 s.1 s.2)))) (some (.inr (a6,a7)))
def zbt.k21 (p_:zac) (a2:yaa) (a6:yaa):Option (zaa×Int) :=
 some ((⟨p_.Inputs,p_.Start,a2,a6⟩:zaa),0)
def zbt (p_:zac) (out_:Int):Option (zaa×Int) :=
 (zc6 p_).bind fun a2=>cond (decide (a2≠0)) (some ((⟨0,0,[],[]⟩:zaa),a2)) ((cond (decide (out_<0)) (some true) (some (decide (1048576<out_))):Option (Bool)).bind (fun (a6:Bool)=>cond (a6) (some ((⟨0,0,[],[]⟩:zaa),2)) (cond (decide (128<(↑p_.Next.length:Int))) (some ((⟨0,0,[],[]⟩:zaa),11)) ((iter (fun (s:yaa×yaa×Nat)=>zbt.s20 p_ out_ s.1 s.2.1 s.2.2) fuel ([],[],0):Option (yaa×yaa)).bind (fun (s:yaa×yaa)=>zbt.k21 p_ s.1 s.2)))))
def znd (a_:zac) (b_:zac):Option (Bool) :=
 (cond (decide (a_.Inputs=b_.Inputs)) (cond (decide (a_.Start=b_.Start)) ((zb7 a_.Next b_.Next).bind fun a2=>cond (a2) ((zb7 a_.Out b_.Out).bind fun a6=>some a6) (some false)) (some false)) (some false):Option (Bool)).bind (fun (a7:Bool)=>some a7)
def zhq:Option (Bool) :=
 (zbf (⟨1,[(⟨[0,0],[1,2]⟩:zab)]⟩:zar)).bind fun a2=>(zl0 a2.1 0 1).bind fun b4=>(zl0 a2.1 0 2).bind fun a6=>(zce (⟨1,[(⟨[0,0,0,0],[1,2,1,2]⟩:zab)]⟩:zar)).bind fun a7=>(zg5 a7.1 [0,0,0,0,0]).bind fun b5=>(L35_gate).bind fun b7=>(zf7 b7).bind fun b6=>(zbt a2.1 7).bind fun a8=>((znd a2.1 (⟨1,0,[[1],[2],[(-1:Int)]],[[1],[2],[(-1:Int)]]⟩:zac)).bind fun b8=>cond (b8) (cond (decide (a2.2=0)) (cond ((!b4.2.1)) (cond (decide (b4.2.2=0)) ((znd a6.1 (⟨1,0,[[1],[0]],[[1],[2]]⟩:zac)).bind fun b9=>cond (b9) (cond (a6.2.1) (cond (decide (a6.2.2=0)) ((znd a7.1 (⟨1,0,[[1],[0]],[[1],[2]]⟩:zac)).bind fun c0=>cond (c0) (cond (decide (a7.2=0)) ((zl9 b5.1 [1,2,1,2,1]).bind fun c6=>cond (c6) (cond (b5.2) ((zb7 b6.1 [[1,1],[0,0,1],[0,1,1]]).bind fun c7=>cond (c7) (cond (decide (b6.2=0)) ((zb7 a8.1.Next [[1],[2],[2]]).bind fun b2=>cond (b2) ((zb7 a8.1.Out [[1],[2],[7]]).bind fun b3=>cond (b3) (some (decide (a8.2=0))) (some false)) (some false)) (some false)) (some false)) (some false)) (some false)) (some false)) (some false)) (some false)) (some false)) (some false)) (some false)) (some false)) (some false)) (some false):Option (Bool)).bind (fun (c8:Bool)=>some c8)
def zlr.s2 (a7:Int) (a8:Int) (b2:Int) (b3:Int) (a2:yab) (a6:Nat):Option ((yab×Nat)⊕yab) :=
 cond (decide ((↑a6:Int)<(↑a2.length:Int))) (idxn a2 a6 fun b4=>cond (decide (b4=(max b2 b3))) (idxn a2 a6 fun b5=>some (.inl ((List.set a2 a6 (min a7 a8)),(a6+1)))) (some (.inl (a2,(a6+1))))) (some (.inr a2))
def zlr (class_:yab) (s_:Int) (t_:Int):Option (yab) :=
 idx class_ s_ fun a2=>idx class_ t_ fun a6=>idx class_ s_ fun a7=>idx class_ t_ fun a8=>(iter (fun (s:yab×Nat)=>zlr.s2 a2 a6 a7 a8 s.1 s.2) fuel (class_,0):Option (yab)).bind (fun (b2:yab)=>some b2)
def zdt.s2 (l_:yaa) (words_:Int) (symbols_:Int) (a2:Nat):Option (Nat⊕(Unit⊕Bool)) :=
 (cond (decide ((↑a2:Int)<(↑l_.length:Int))) (some (decide ((↑a2:Int)<=words_))) (some false):Option (Bool)).bind (fun (a6:Bool)=>cond (a6) (idxn l_ a2 fun a7=>cond (decide (symbols_<(↑a7.length:Int))) (some (.inr (.inr true))) (chk (inR ((↑a2:Int)+1)) (some (.inl (a2+1))))) (some (.inr (.inl ()))))
def zdt (l_:yaa) (words_:Int) (symbols_:Int):Option (Bool) :=
 (iter (fun (s:Nat)=>zdt.s2 l_ words_ symbols_ s) fuel 0:Option (Unit⊕Bool)).bind (Sum.elim (fun (_:Unit)=>some (decide (words_<(↑l_.length:Int)))) some)
def zel.s2 (m_:zaa) (w_:yab) (s90:Int) (a6:yab) (a2:Nat):Option ((Int×yab×Nat)⊕(Int×yab)) :=
 cond (decide ((↑a2:Int)<(↑w_.length:Int))) (idx m_.Out s90 fun a7=>idxn w_ a2 fun a8=>idx a7 a8 fun b2=>chk (zaz (List.length a6+1) 8) (idx m_.Next s90 fun b3=>idxn w_ a2 fun b4=>idx b3 b4 fun b5=>some (.inl (b5,(a6++[b2]),(a2+1))))) (some (.inr (s90,a6)))
def zel.k3 (a2:Int) (a6:yab):Option (yab×Int) :=
 some (a6,a2)
def zel (m_:zaa) (s_:Int) (w_:yab):Option (yab×Int) :=
 (iter (fun (s:Int×yab×Nat)=>zel.s2 m_ w_ s.1 s.2.1 s.2.2) fuel (s_,[],0):Option (Int×yab)).bind (fun (s:Int×yab)=>zel.k3 s.1 s.2)
def zfe.s2 (parts_:yaa) (a2:yab) (a6:Nat):Option ((yab×Nat)⊕yab) :=
 cond (decide ((↑a6:Int)<(↑parts_.length:Int))) (idxn parts_ a6 fun a7=>chk (zaz (List.length a2+List.length a7) 8) (some (.inl ((a2++a7),(a6+1))))) (some (.inr a2))
def zfe (parts_:yaa):Option (yab) :=
 (iter (fun (s:yab×Nat)=>zfe.s2 parts_ s.1 s.2) fuel ([],0):Option (yab)).bind (fun (a2:yab)=>some a2)
def zfm.s2 (m_:zaa) (s_:Int) (a2:Nat):Option (Nat⊕(Unit⊕Int)) :=
 cond (decide ((↑a2:Int)<m_.Inputs)) ((idx m_.Next s_ fun a6=>idxn a6 a2 fun a7=>cond (decide (a7<0)) (some true) (idx m_.Next s_ fun a8=>idxn a8 a2 fun b2=>cond (decide ((↑m_.Next.length:Int)<=b2)) (some true) (idx m_.Out s_ fun b3=>idxn b3 a2 fun b4=>cond (decide (b4<0)) (some true) (idx m_.Out s_ fun b5=>idxn b5 a2 fun b6=>some (decide (1048576<b6))))):Option (Bool)).bind (fun (b7:Bool)=>cond (b7) (some (.inr (.inr 2))) (chk (inR ((↑a2:Int)+1)) (some (.inl (a2+1)))))) (some (.inr (.inl ())))
def zfm (m_:zaa) (s_:Int):Option (Int) :=
 (idx m_.Next s_ fun a2=>cond (decide ((↑a2.length:Int)≠m_.Inputs)) (some true) (idx m_.Out s_ fun a6=>some (decide ((↑a6.length:Int)≠m_.Inputs))):Option (Bool)).bind (fun (a7:Bool)=>cond (a7) (some 1) ((iter (fun (s:Nat)=>zfm.s2 m_ s_ s) fuel 0:Option (Unit⊕Int)).bind (Sum.elim (fun (_:Unit)=>some 0) some)))
def zcs.s2 (m_:zaa) (a2:Nat):Option (Nat⊕(Unit⊕Int)) :=
 cond (decide ((↑a2:Int)<(↑m_.Next.length:Int))) ((zfm m_ (↑a2:Int)).bind fun a6=>cond (decide (a6≠0)) (some (.inr (.inr a6))) (some (.inl (a2+1)))) (some (.inr (.inl ())))
def zcs (m_:zaa):Option (Int) :=
 (cond (decide (m_.Inputs<1)) (some true) (some (decide (64<m_.Inputs))):Option (Bool)).bind (fun (a2:Bool)=>cond (a2) (some 2) (cond (decide ((↑m_.Next.length:Int)=0)) (some 19) (cond (decide (128<(↑m_.Next.length:Int))) (some 11) ((cond (decide (m_.Start<0)) (some true) (some (decide ((↑m_.Next.length:Int)<=m_.Start))):Option (Bool)).bind (fun (a6:Bool)=>cond (a6) (some 2) (cond (decide ((↑m_.Out.length:Int)≠(↑m_.Next.length:Int))) (some 1) ((iter (fun (s:Nat)=>zcs.s2 m_ s) fuel 0:Option (Unit⊕Int)).bind (Sum.elim (fun (_:Unit)=>some 0) some))))))))
def zeb.s2 (m_:zaa) (words_:yaa) (a7:List zab) (a2:Nat):Option ((List zab×Nat)⊕(List zab⊕(List zab×Int))) :=
 cond (decide ((↑a2:Int)<(↑words_.length:Int))) (idxn words_ a2 fun a8=>(zee a8 m_.Inputs).bind fun a6=>cond (decide (a6≠0)) (some (.inr (.inr ([],a6)))) (idxn words_ a2 fun b2=>(zel m_ m_.Start b2).bind fun b3=>idxn words_ a2 fun b4=>(zfe [b4]).bind fun b5=>chk (zaz (List.length a7+1) 48) (some (.inl ((a7++[(⟨b5,b3.1⟩:zab)]),(a2+1)))))) (some (.inr (.inl a7)))
def zeb (m_:zaa) (words_:yaa):Option (List zab×Int) :=
 (zcs m_).bind fun a2=>cond (decide (a2≠0)) (some ([],a2)) (cond (decide (10000<(↑words_.length:Int))) (some ([],11)) ((iter (fun (s:List zab×Nat)=>zeb.s2 m_ words_ s.1 s.2) fuel ([],0):Option (List zab⊕(List zab×Int))).bind (Sum.elim (fun (a6:List zab)=>some (a6,0)) some)))
def zgn (t_:zab):Option (zab) :=
 (zfe [t_.In]).bind fun a2=>(zfe [t_.Out]).bind fun a6=>some (⟨a2,a6⟩:zab)
def zc8.s2 (o_:zar) (t_:zab) (done72:Bool) (a2:Nat):Option ((Bool×Nat)⊕Bool) :=
 cond (decide ((↑a2:Int)<(↑o_.Traces.length:Int))) (cond (done72) (some (.inl (true,(a2+1)))) (idxn o_.Traces a2 fun a6=>(zer a6.In t_.In).bind fun a7=>some (.inl (a7,(a2+1))))) (some (.inr done72))
def zc8.k9 (t_:zab) (a7:Nat) (a2:zab) (a6:List zab) (done345:Bool):Option ((List zab×Bool×Nat)⊕(List zab×Bool)) :=
 ((zer t_.In a2.In).bind fun a8=>cond ((!a8)) (some true) (some (decide ((↑t_.In.length:Int)=(↑a2.In.length:Int)))):Option (Bool)).bind (fun (b2:Bool)=>cond (b2) ((zgn a2).bind fun b3=>chk (zaz (List.length a6+1) 48) (some (.inl ((a6++[b3]),done345,(a7+1))))) (some (.inl (a6,done345,(a7+1)))))
def zc8.s10 (o_:zar) (t_:zab) (a2:List zab) (done276:Bool) (a6:Nat):Option ((List zab×Bool×Nat)⊕(List zab×Bool)) :=
 cond (decide ((↑a6:Int)<(↑o_.Traces.length:Int))) (idxn o_.Traces a6 fun a7=>((cond ((!done276)) ((zgo t_.In a7.In).bind fun a8=>some (decide (a8<0))) (some false):Option (Bool)).bind (fun (b2:Bool)=>cond (b2) ((zgn t_).bind fun b3=>chk (zaz (List.length a2+1) 48) (some ((a2++[b3]),true))) (some (a2,done276))):Option (List zab×Bool)).bind (fun (s:List zab×Bool)=>zc8.k9 t_ a6 a7 s.1 s.2)) (some (.inr (a2,done276)))
def zc8.k11 (o_:zar) (t_:zab) (a2:List zab) (done230:Bool):Option (zar) :=
 (cond ((!done230)) ((zgn t_).bind fun a6=>chk (zaz (List.length a2+1) 48) (some (a2++[a6]))) (some a2):Option (List zab)).bind (fun (a7:List zab)=>some (⟨o_.Inputs,a7⟩:zar))
def zc8 (o_:zar) (t_:zab):Option (zar) :=
 (iter (fun (s:Bool×Nat)=>zc8.s2 o_ t_ s.1 s.2) fuel (decide ((↑t_.In.length:Int)=0),0):Option (Bool)).bind (fun (done67:Bool)=>(iter (fun (s:List zab×Bool×Nat)=>zc8.s10 o_ t_ s.1 s.2.1 s.2.2) fuel ([],done67,0):Option (List zab×Bool)).bind (fun (s:List zab×Bool)=>zc8.k11 o_ t_ s.1 s.2))
def zhc.s2 (o_:zar) (t_:zab) (a2:Nat):Option (Nat⊕(Unit⊕(zar×Int))) :=
 cond (decide ((↑a2:Int)<(↑o_.Traces.length:Int))) (idxn o_.Traces a2 fun a6=>(zec a6 t_).bind fun a7=>cond (decide (0<=a7)) (some (.inr (.inr (o_,13)))) (some (.inl (a2+1)))) (some (.inr (.inl ())))
def zhc (o_:zar) (t_:zab):Option (zar×Int) :=
 (zd7 t_ o_.Inputs).bind fun a2=>cond (decide (a2≠0)) (some (o_,a2)) ((iter (fun (s:Nat)=>zhc.s2 o_ t_ s) fuel 0:Option (Unit⊕(zar×Int))).bind (Sum.elim (fun (_:Unit)=>(zc8 o_ t_).bind fun a6=>cond (decide (10000<(↑a6.Traces.length:Int))) (some (o_,11)) (some (a6,0))) some))
def zfp.s2 (o_:zar) (l_:List zab) (a7:Int) (a8:List zab) (a6:Nat):Option ((Int×List zab×Nat)⊕((Int×List zab)⊕(zar×Int))) :=
 cond (decide ((↑a6:Int)<(↑l_.length:Int))) (idxn l_ a6 fun b2=>(zhc (⟨a7,a8⟩:zar) b2).bind fun a2=>cond (decide (a2.2≠0)) (some (.inr (.inr (o_,a2.2)))) (some (.inl (a2.1.Inputs,a2.1.Traces,(a6+1))))) (some (.inr (.inl (a7,a8))))
def zfp.k3 (a2:Int) (a6:List zab):Option (zar×Int) :=
 some ((⟨a2,a6⟩:zar),0)
def zfp (o_:zar) (l_:List zab):Option (zar×Int) :=
 (iter (fun (s:Int×List zab×Nat)=>zfp.s2 o_ l_ s.1 s.2.1 s.2.2) fuel (o_.Inputs,o_.Traces,0):Option ((Int×List zab)⊕(zar×Int))).bind (Sum.elim (fun (s:Int×List zab)=>zfp.k3 s.1 s.2) some)
def R16_Of (m_:zaa) (words_:yaa):Option (zar×Int) :=
 (zeb m_ words_).bind fun a2=>cond (decide (a2.2≠0)) (some ((⟨0,[]⟩:zar),a2.2)) ((zfp (⟨m_.Inputs,[]⟩:zar) a2.1).bind fun a6=>cond (decide (a6.2≠0)) (some ((⟨0,[]⟩:zar),a6.2)) (some (a6.1,0)))
def zct.s2 (m_:zaa) (a2:Nat):Option (Nat⊕(Unit⊕Bool)) :=
 (cond (decide ((↑a2:Int)<(↑m_.Next.length:Int))) (some (decide ((↑a2:Int)<7))) (some false):Option (Bool)).bind (fun (a6:Bool)=>cond (a6) (idxn m_.Next a2 fun a7=>cond (decide (3<(↑a7.length:Int))) (some (.inr (.inr true))) (chk (inR ((↑a2:Int)+1)) (some (.inl (a2+1))))) (some (.inr (.inl ()))))
def zct.s4 (m_:zaa) (a2:Nat):Option (Nat⊕(Unit⊕Bool)) :=
 (cond (decide ((↑a2:Int)<(↑m_.Out.length:Int))) (some (decide ((↑a2:Int)<11))) (some false):Option (Bool)).bind (fun (a6:Bool)=>cond (a6) (idxn m_.Out a2 fun a7=>cond (decide (3<(↑a7.length:Int))) (some (.inr (.inr true))) (chk (inR ((↑a2:Int)+1)) (some (.inl (a2+1))))) (some (.inr (.inl ()))))
def zct (m_:zaa):Option (Bool) :=
 (iter (fun (s:Nat)=>zct.s2 m_ s) fuel 0:Option (Unit⊕Bool)).bind (Sum.elim (fun (_:Unit)=>(iter (fun (s:Nat)=>zct.s4 m_ s) fuel 0:Option (Unit⊕Bool)).bind (Sum.elim (fun (_:Unit)=>(cond (decide (6<(↑m_.Next.length:Int))) (some true) (some (decide (10<(↑m_.Out.length:Int)))):Option (Bool)).bind (fun (a2:Bool)=>some a2)) some)) some)
def zb2.s89 (m_:zaa) (class_:yab) (a6:Nat) (a7:Int) (same5139:Bool) (a2:Nat):Option ((Bool×Nat)⊕Bool) :=
 (cond (decide ((↑a2:Int)<m_.Inputs)) (some same5139) (some false):Option (Bool)).bind (fun (a8:Bool)=>cond (a8) (idxn m_.Out a6 fun b2=>idxn b2 a2 fun b3=>idx m_.Out a7 fun b4=>idxn b4 a2 fun b5=>cond (decide (b3=b5)) (idxn m_.Next a6 fun b6=>idxn b6 a2 fun b7=>idx class_ b7 fun b8=>idx m_.Next a7 fun b9=>idxn b9 a2 fun c0=>idx class_ c0 fun c6=>chk (inR ((↑a2:Int)+1)) (some (.inl (decide (b8=c6),(a2+1))))) (chk (inR ((↑a2:Int)+1)) (some (.inl (false,(a2+1)))))) (some (.inr same5139)))
def zb2.s90 (m_:zaa) (class_:yab) (a7:yab) (a6:Nat) (found4903:Int) (a2:Int):Option ((Int×Int)⊕Int) :=
 cond (decide (0<=a2)) (idxn class_ a6 fun a8=>idx class_ a2 fun b2=>(iter (fun (s:Bool×Nat)=>zb2.s89 m_ class_ a6 a2 s.1 s.2) fuel (decide (a8=b2),0):Option (Bool)).bind (fun (same5119:Bool)=>cond (same5119) (idx a7 a2 fun b3=>chk (inR (a2-1)) (some (.inl (b3,(a2-1))))) (chk (inR (a2-1)) (some (.inl (found4903,(a2-1))))))) (some (.inr found4903))
def zb2.k91 (a2:yab) (a6:Nat) (count5200:Nat) (found5201:Int):Option ((yab×Nat×Nat)⊕yab) :=
 chk (zaz (List.length a2+1) 8) (some (.inl ((a2++[found5201]),count5200,(a6+1))))
def zb2.s92 (m_:zaa) (class_:yab) (a6:yab) (count3444:Nat) (a2:Nat):Option ((yab×Nat×Nat)⊕yab) :=
 cond (decide ((↑a2:Int)<(↑class_.length:Int))) ((iter (fun (s:Int×Int)=>zb2.s90 m_ class_ a6 a2 s.1 s.2) fuel ((-1:Int),((↑a2:Int)-1)):Option (Int)).bind (fun (found4761:Int)=>(cond (decide (found4761<0)) (chk (inR ((↑count3444:Int)+1)) (some ((count3444+1),(↑count3444:Int)))) (some (count3444,found4761)):Option (Nat×Int)).bind (fun (s:Nat×Int)=>zb2.k91 a6 a2 s.1 s.2))) (some (.inr a6))
def zb2 (m_:zaa) (class_:yab):Option (yab) :=
 (iter (fun (s:yab×Nat×Nat)=>zb2.s92 m_ class_ s.1 s.2.1 s.2.2) fuel ([],0,0):Option (yab)).bind (fun (a2:yab)=>some a2)
def zc3.s2 (m_:zaa) (k_:Int) (class94:yab) (a2:Nat):Option ((yab×Nat)⊕yab) :=
 (cond (decide ((↑a2:Int)<k_)) (some (decide ((↑a2:Int)<(↑m_.Next.length:Int)))) (some false):Option (Bool)).bind (fun (a6:Bool)=>cond (a6) ((zb2 m_ class94).bind fun a7=>chk (inR ((↑a2:Int)+1)) (some (.inl (a7,(a2+1))))) (some (.inr class94)))
def zc3 (m_:zaa) (k_:Int):Option (yab×Int) :=
 (zcs m_).bind fun a2=>cond (decide (a2≠0)) (some ([],a2)) (chk ((0:Int)<=(↑m_.Next.length:Int)∧(↑m_.Next.length:Int)<=(↑m_.Next.length:Int)∧zaz (Int.toNat (↑m_.Next.length:Int)) 8) ((iter (fun (s:yab×Nat)=>zc3.s2 m_ k_ s.1 s.2) fuel ((List.replicate m_.Next.length (0:Int)),0):Option (yab)).bind (fun (class85:yab)=>some (class85,0))))
def zhy (m_:zaa):Option (yab×Int) :=
 (zc3 m_ (↑m_.Next.length:Int)).bind fun a2=>some (a2.1,a2.2)
def zcc.s2 (a2:yab) (a6:Nat):Option ((yab×Nat)⊕yab) :=
 cond (decide ((↑a6:Int)<(↑a2.length:Int))) (idxn a2 a6 fun a7=>some (.inl ((List.set a2 a6 (-1:Int)),(a6+1)))) (some (.inr a2))
def zcc.k55 (m_:zaa) (c0:yab×Int) (b3:Nat) (a6:yab) (a7:yab) (a2:Nat) (b4:Int) (a8:yab) (b2:yab):Option ((yab×yab×yab×yab×Nat)⊕(yab×yab×yab×yab)) :=
 idx c0.1 b4 fun b5=>idx b2 b5 fun b6=>chk (zaz (List.length a6+1) 8) (idxn a8 b3 fun b7=>idx m_.Out b7 fun b8=>idxn b8 a2 fun b9=>chk (zaz (List.length a7+1) 8) (chk (inR ((↑a2:Int)+1)) (some (.inl (a8,b2,(a6++[b6]),(a7++[b9]),(a2+1))))))
def zcc.s56 (m_:zaa) (c0:yab×Int) (b2:Nat) (a2:yab) (a6:yab) (b3:yab) (b4:yab) (a8:Nat):Option ((yab×yab×yab×yab×Nat)⊕(yab×yab×yab×yab)) :=
 cond (decide ((↑a8:Int)<m_.Inputs)) (idxn a2 b2 fun b6=>idx m_.Next b6 fun b7=>idxn b7 a8 fun a7=>(idx c0.1 a7 fun b8=>idx a6 b8 fun b9=>cond (decide (b9<0)) (idx c0.1 a7 fun b5=>idx a6 b5 fun c6=>chk (zaz (List.length a2+1) 8) (some ((a2++[a7]),(List.set a6 b5.toNat (↑a2.length:Int))))) (some (a2,a6)):Option (yab×yab)).bind (fun (s:yab×yab)=>zcc.k55 m_ c0 b2 b3 b4 a8 a7 s.1 s.2)) (some (.inr (a2,a6,b3,b4)))
def zcc.k57 (a2:yaa) (a6:yaa) (a7:Nat) (a8:yab) (b2:yab) (b3:yab) (b4:yab):Option ((yab×yab×yaa×yaa×Nat)⊕(yaa×yaa)) :=
 chk (zaz (List.length a2+1) 24) (chk (zaz (List.length a6+1) 24) (some (.inl (a8,b2,(a2++[b3]),(a6++[b4]),(a7+1)))))
def zcc.s58 (m_:zaa) (b3:yab×Int) (a6:yab) (b2:yab) (a7:yaa) (a8:yaa) (a2:Nat):Option ((yab×yab×yaa×yaa×Nat)⊕(yaa×yaa)) :=
 cond (decide ((↑a2:Int)<(↑a6.length:Int))) ((iter (fun (s:yab×yab×yab×yab×Nat)=>zcc.s56 m_ b3 a2 s.1 s.2.1 s.2.2.1 s.2.2.2.1 s.2.2.2.2) fuel (a6,b2,[],[],0):Option (yab×yab×yab×yab)).bind (fun (s:yab×yab×yab×yab)=>zcc.k57 a7 a8 a2 s.1 s.2.1 s.2.2.1 s.2.2.2)) (some (.inr (a7,a8)))
def zcc.k59 (m_:zaa) (a2:yaa) (a6:yaa):Option (zaa×Int) :=
 some ((⟨m_.Inputs,0,a2,a6⟩:zaa),0)
def zcc (m_:zaa):Option (zaa×Int) :=
 (zhy m_).bind fun a2=>cond (decide (a2.2≠0)) (some ((⟨0,0,[],[]⟩:zaa),a2.2)) (chk ((0:Int)<=(↑m_.Next.length:Int)∧(↑m_.Next.length:Int)<=(↑m_.Next.length:Int)∧zaz (Int.toNat (↑m_.Next.length:Int)) 8) ((iter (fun (s:yab×Nat)=>zcc.s2 s.1 s.2) fuel ((List.replicate m_.Next.length (0:Int)),0):Option (yab)).bind (fun (a6:yab)=>idx a2.1 m_.Start fun a7=>idx a6 a7 fun a8=>(iter (fun (s:yab×yab×yaa×yaa×Nat)=>zcc.s58 m_ a2 s.1 s.2.1 s.2.2.1 s.2.2.2.1 s.2.2.2.2) fuel ([m_.Start],(List.set a6 a7.toNat 0),[],[],0):Option (yaa×yaa)).bind (fun (s:yaa×yaa)=>zcc.k59 m_ s.1 s.2))))
def zd8 (m_:zaa) (more_:yaa):Option (Bool) :=
 ((zct m_).bind fun b4=>cond (b4) (some true) ((zcs m_).bind fun b5=>cond (decide (b5≠0)) (some true) ((zdt more_ 6 6).bind fun b6=>some b6)):Option (Bool)).bind (fun (b7:Bool)=>cond (b7) ((zhq).bind fun b8=>some b8) ((zf7 m_).bind fun a2=>(cond (decide (a2.2≠0)) (some true) ((zdt a2.1 400 40).bind fun b9=>some b9):Option (Bool)).bind (fun (c0:Bool)=>cond (c0) (some false) (chk (zaz (List.length ([]:List Unit)+List.length a2.1) 24) (chk (zaz (List.length ([]++a2.1)+List.length more_) 24) ((R16_Of m_ (([]++a2.1)++more_)).bind fun b3=>cond (decide (b3.2≠0)) ((zhq).bind fun c6=>some c6) ((zce b3.1).bind fun a6=>(zcc m_).bind fun a7=>(cond (decide (a6.2=0)) (cond (decide (a6.1.Inputs=a7.1.Inputs)) (cond (decide (a6.1.Start=a7.1.Start)) ((zb7 a6.1.Next a7.1.Next).bind fun c7=>cond (c7) ((zb7 a6.1.Out a7.1.Out).bind fun a8=>cond (a8) ((zhq).bind fun b2=>some b2) (some false)) (some false)) (some false)) (some false)) (some false):Option (Bool)).bind (fun (c8:Bool)=>some c8))))))))
end
section
section
variable {S R A B α β:Type}
theorem zaw {step:S->Option (S⊕R)} (I:S->Prop) (m:S->Nat) (Q:R->Prop) (h:∀ s,I s->(∃ s',step s=some (.inl s')∧I s'∧m s'<m s)∨∃ r,step s=some (.inr r)∧Q r) :
  ∀ (n:Nat) (s:S),I s->m s<n->∃ r,iter step n s=some r∧Q r
 | 0,_,_,hm=>absurd hm (ybe _)
 | n+1,s,hi,hm=>by
  unfold iter;rcases h s hi with ⟨s',e,hi',hm'⟩ | ⟨r,e,hq⟩
  ·rw [e];exact zaw I m Q h n s' hi' (by omega)
  ·rw [e];exact ⟨r,rfl,hq⟩
theorem ze7 {step:S->Option (S⊕R)} {r:R} (I:S->Prop) (m:S->Nat) (h:∀ s,I s->(∃ s',step s=some (.inl s')∧I s'∧m s'<m s)∨step s=some (.inr r)) {n:Nat} {s:S} (hi:I s) (hm:m s<n):iter step n s=some r:=by
 obtain ⟨r',e,rfl⟩:=zaw I m (fun r'=>r'=r) (fun s hs=>(h s hs).imp id fun e=>⟨r,e,rfl⟩) n s hi hm;exact e
def walk (g:A->Nat->α->Option (A⊕R)) (fin:A->Option R):A->Nat->List α->Option R
 | a,_,[]=>fin a
 | a,i,x::l=>(g a i x).bind (Sum.elim (fun a'=>walk g fin a' (i+1) l) some)
theorem zal {l:List α} {i:Nat} {x:α} {k:α->Option β} (h:l[i]?=some x):idxn l i k=k x:=by unfold idxn;rw [h]
theorem zbb {l:List α} {n:Int} {i:Nat} {x:α} {k:α->Option β} (hn:n=(i:Int)) (h:l[i]?=some x):idx l n k=k x:=by
 subst hn;unfold idx;rw [if_pos (by omega),yah,h]
theorem zas {c:Prop} [Decidable c] {k:Option α} (h:c):chk c k=k:=by unfold chk;rw [if_pos h]
theorem zam {a:α} {f:α->Option β}:(some a).bind f=f a:=(ybt a f).trans (Eq.trans rfl rfl)
theorem zav:100000000000000<fuel:=by unfold fuel;omega
theorem zdg {l:List α} {i:Nat} {x:α} (h:l[i]?=some x):decide ((↑i:Int)<(↑l.length:Int))=true:=by
 have:=(zkI.1 h).1;simpa using this
theorem zfb (l:List α):decide ((↑l.length:Int)<(↑l.length:Int))=false:=by simp
def scan (g:Nat->α->Option R):Nat->List α->Option R
 | _,[]=>none
 | i,x::l=>match g i x with | some r=>some r | none=>scan g (i+1) l
theorem zhx {g:Nat->α->Option R}:∀ {l:List α} {j:Nat},scan g j l=none↔∀ i x,l[i]?=some x->g (j+i) x=none
 | [],j=>by simp [scan]
 | y::l,j=>by
  constructor
  ·intro h i x hx;unfold scan at h;cases e:g j y with
   | some r=>rw [e] at h;cases h
   | none =>
    rw [e] at h
    match i,hx with
    | 0,hx =>
     simp at hx;subst hx;exact e
    | i+1,hx =>
     have:=(zhx (g:=g) (l:=l) (j:=j+1)).1 h i x (by simpa using hx)
     rwa [show j+1+i=j+(i+1) by omega] at this
  ·intro h;unfold scan;have h0:=h 0 y rfl;rw [yca] at h0;rw [h0]
   exact (zhx (g:=g) (l:=l) (j:=j+1)).2 fun i x hx=>by
    have:=h (i+1) x (by simpa using hx)
    rwa [show j+(i+1)=j+1+i by omega] at this
theorem zeg {step:Nat->Option (Nat⊕(Unit⊕R))} {l:List α} (g:Nat->α->Option R) (h1:∀ i x,l[i]?=some x->step i=some (match g i x with | some r=>.inr (.inr r) | none=>.inl (i+1))) (h2:step l.length=some (.inr (.inl ()))) (hl:l.length<=100000000000000) :
  iter step fuel 0=some (match scan g 0 l with | some r=>.inr r | none=>.inl ()):=by
 have key:∀ (n i:Nat),i<=l.length->l.length-i<n->iter step n i=some (match scan g i (l.drop i) with | some r=>.inr r | none=>.inl ()):=by
  intro n
  induction n with
  | zero=>intro i _ h;omega
  | succ n ih =>
   intro i hi hn;rcases yat i l.length with h | h
   ·rw [ycc h];unfold iter scan;rw [h1 i _ (zkM h)];cases g i l[i] with
    | some r=>rfl
    | none=>exact ih (i+1) h (by omega)
   ·have e:i=l.length:=by omega
    subst e;rw [yd0];unfold iter scan;rw [h2]
 exact key fuel 0 (yag _) (by have:=zav;omega)
def foldi (f:A->Nat->α->A):A->Nat->List α->A
 | a,_,[]=>a
 | a,i,x::l=>foldi f (f a i x) (i+1) l
theorem iter_fold {step:A×Nat->Option ((A×Nat)⊕R)} {l:List α} (f:A->Nat->α->A) (fin:A->R) (Inv:A->Nat->Prop) (h1:∀ a i x,Inv a i->l[i]?=some x->step (a,i)=some (.inl (f a i x,i+1))∧Inv (f a i x) (i+1))
  (h2:∀ a,Inv a l.length->step (a,l.length)=some (.inr (fin a))) (hl:l.length<=100000000000000) {a0:A} (h0:Inv a0 0):iter step fuel (a0,0)=some (fin (foldi f a0 0 l))∧Inv (foldi f a0 0 l) l.length:=by
 have key:∀ (n i:Nat) (a:A),Inv a i->i<=l.length->l.length-i<n->iter step n (a,i)=some (fin (foldi f a i (l.drop i)))∧Inv (foldi f a i (l.drop i)) l.length:=by
  intro n
  induction n with
  | zero=>intro i _ _ _ h;omega
  | succ n ih =>
   intro i a hv hi hn;rcases yat i l.length with h | h
   ·rw [ycc h];unfold iter foldi;obtain ⟨e,a2⟩:=h1 a i _ hv (zkM h);rw [e];exact ih (i+1) _ a2 h (by omega)
   ·have e:i=l.length:=by omega
    subst e;rw [yd0];unfold iter foldi;rw [h2 a hv];exact ⟨rfl,hv⟩
 exact key fuel 0 a0 h0 (yag _) (by have:=zav;omega)
theorem foldi_eq {f:A->α->A}:∀ (l:List α) (a:A) (i:Nat),foldi (fun a _ x=>f a x) a i l=l.foldl f a
 | [],_,_=>rfl
 | x::l,a,i=>by unfold foldi;exact foldi_eq l (f a x) (i+1)
end
end
section
open Go.RowKit
theorem zik (x y:Int):cmp_Compare_int x y=some (cmpI x y):=by
 unfold cmp_Compare_int cmp_isNaN_int cmpI;by_cases h1:x<y
 ·simp [h1]
 ·by_cases h2:y<x<;>simp [h1,h2]
theorem zjc (s t:yab) (hs:s.length<=100000000000000):zbh s t=some (lexI s t):=by
 have key:=zaw (step:=fun k=>zbh.s2 s t k) (fun k=>k<=s.length∧k<=t.length∧lexI s t=lexI (s.drop k) (t.drop k)) (fun k=>s.length-k)
  (fun r=>Sum.elim (fun (_:Unit)=>cond (decide ((↑s.length:Int)<(↑t.length:Int))) (some (-1:Int)) (some 0)) some r=some (lexI s t)) (fun k ⟨h1,h2,h3⟩=>by
   unfold zbh.s2
   rcases yat k s.length with h | h
   ·have hx:=zkM h
    rw [zdg hx,zkD,zal hx]
    by_cases h4:t.length<=k
    ·right
     refine ⟨.inr 1,by simp [h4],?_⟩
     rw [h3,lexI_long h h4]
     rfl
    ·have hy:=zkM (show k<t.length by omega)
     have a0:=lexI_step hx hy
     have d4:decide ((↑t.length:Int)<=(↑k:Int))=false:=by simp;omega
     rw [d4,zkC,zal hy,zik]
     by_cases h5:cmpI s[k] t[k]=0
     ·left
      rw [if_pos h5] at a0
      exact ⟨k+1,by simp [h5],⟨by omega,by omega,by rw [h3,a0]⟩,by omega⟩
     ·right
      rw [if_neg h5] at a0
      exact ⟨.inr (cmpI s[k] t[k]),by simp [h5],by rw [h3,a0];rfl⟩
   ·right
    have e:k=s.length:=by omega
    subst e
    rw [zfb,zkC]
    refine ⟨.inl (),rfl,?_⟩
    rw [h3,lexI_end (yap _)]
    by_cases h4:s.length<t.length<;>simp [h4]) fuel 0 ⟨yag _,yag _,rfl⟩ (by have:=zav;simp only [yep];omega)
 obtain ⟨r,e,hq⟩:=key;unfold zbh;rw [e];exact hq
theorem cmp_Or_two (x y:Int):zdx [x,y]=some (if x≠0 then x else y):=by
 unfold zdx;have e:fuel=(fuel-3)+1+1+1:=by unfold fuel;omega
 rw [e];by_cases h1:x=0
 ·by_cases h2:y=0
  ·simp [iter,zdx.s2,idxn,h1,h2]
  ·simp [iter,zdx.s2,idxn,h1,h2]
 ·simp [iter,zdx.s2,idxn,h1]
theorem zjw (s t:yab) (hs:s.length<=100000000000000):zhk s t=some (lexI s t):=by
 unfold zhk;rw [zjc s t hs];rfl
theorem zgd (s t:yab) (hs:s.length<=100000000000000):zdj s t=some (cmpW s t):=by
 unfold zdj;rw [zjc s t hs,zik];show (zdx [cmpI s.length t.length,lexI s t]).bind some=_;rw [cmp_Or_two];show some _=some _;congr 1;unfold cmpI cmpW;by_cases h1:s.length<t.length
 ·simp [h1]
 ·by_cases h2:t.length<s.length
  ·simp [h1,h2]
  ·simp [h1,h2]
theorem cmpE_word_Lex:CmpE Tryz.prog 99 (fun x=>nL cI x) (fun x y=>zhk x y) :=
 ⟨fun args w=>zen rfl rfl rfl args w,cmpG_lex fun x y r hx h=>by rw [zjw x y (by omega)] at h;injection h with h;exact h.symm⟩
theorem zjj:CmpE Tryz.prog 96 (fun x=>nL cI x) (fun x y=>zdj x y) :=
 ⟨fun args w=>zen rfl rfl rfl args w,cmpG_compare fun x y r hx h=>by rw [zgd x y (by omega)] at h;injection h with h;exact h.symm⟩
theorem zm9:CmpE Tryz.prog 110 (fun x=>.agg (zag x)) (fun x y=>zde x y) :=
 ⟨fun args w=>zen rfl rfl rfl args w,cmpG_fits1 (T:=zab) (i:=fun x=>x.In) (o:=fun x=>x.Out) (f:=fun x y=>zde x y) (fun _=>rfl) fun x y r hx h=>by
  simp only [zde] at h
  rw [zjw _ _ (by omega)] at h
  injection h with h
  exact h.symm⟩
end
section
section
variable {α β R:Type}
theorem get_at {l:List α} {i:Nat} (h:i<l.length):l[i]?=some l[i]:=zkM h
theorem iter_all2 [DecidableEq α] {a b:List α} {step:Nat->Option (Nat⊕(Unit⊕Bool))} (hlen:a.length=b.length) (h1:∀ i x y,a[i]?=some x->b[i]?=some y->step i=some (if x=y then .inl (i+1) else .inr (.inr false)))
  (h2:step a.length=some (.inr (.inl ()))) (hl:a.length<=100000000000000):(iter step fuel 0).bind (Sum.elim (fun _=>some true) some)=some (decide (a=b)):=by
 rw [zeg (l:=a) (fun i x=>if b[i]?=some x then none else some false) (fun i x hx=>?_) h2 hl]
 ·cases e:scan (fun i x=>if b[i]?=some x then none else some false) 0 a with
  | none =>
   have:=zhx.1 e
   have a0:a=b:=by
    apply yce;intro i;rcases yat i a.length with h | h
    ·have h3:=this i _ (get_at h);rw [yai] at h3;split at h3
     ·rename_i h4;rw [get_at h,h4]
     ·cases h3
    ·rw [yaq h,yaq (by omega)]
   simp [a0]
  | some r =>
   have a2:a≠b:=fun a0=>by
    subst a0;have:scan (fun i x=>if a[i]?=some x then none else some false) 0 a=none:=zhx.2 fun i x hx=>by rw [yai,if_pos hx]
    rw [this] at e;cases e
   have hr:r=false:=by
    have key:∀ (l:List α) (j:Nat),scan (fun i x=>if b[i]?=some x then none else some false) j l=some r->r=false:=by
     intro l
     induction l with
     | nil=>intro j h;cases h
     | cons x l ih =>
      intro j h;unfold scan at h;split at h
      ·rename_i r' h3;injection h with h
       subst h;split at h3
       ·cases h3
       ·injection h3 with h3
        exact h3.symm
      ·exact ih _ h
    exact key a 0 e
   subst hr;simp [a2]
 ·have hi:=(zkI.1 hx).1;have hy:=get_at (l:=b) (i:=i) (by omega);rw [h1 i x _ hx hy];by_cases h:x=b[i]'(by omega)
  ·rw [if_pos h,hy,if_pos (by rw [h])]
  ·rw [if_neg h,hy,if_neg (fun h3=>h (by injection h3 with h3;exact h3.symm))]
end
def SmW (x:yab):Prop:=x.length<=2000000
def SmL (l:yaa):Prop:=l.length<=2000000∧∀ x∈l,SmW x
theorem R01_Size_eq (n:Int):zog n=some (decide (1<=n∧n<=1024)):=by
 unfold zog;by_cases h1:1<=n<;>by_cases h2:n<=1024<;>simp [h1,h2]
theorem zo2 (n:Int):zfs n=some (decide (1<=n∧n<=1024)):=by
 unfold zfs;by_cases h1:1<=n<;>by_cases h2:n<=1024<;>simp [h1,h2]
theorem scan_all {α R:Type} {p:α->Bool} {r:R}:∀ (l:List α) (j:Nat),scan (fun _ x=>if p x=true then none else some r) j l=if l.all p=true then none else some r
 | [],_=>rfl
 | x::l,j=>by
  unfold scan;by_cases h:p x=true
  ·simp only [h,if_true,yfg,Bool.true_and];exact scan_all l (j+1)
  ·simp [h]
theorem zpe (w:yab) (n:Int) (hl:SmW w):zee w n=some (zgl w n):=by
 unfold zee zgl;rw [R01_Size_eq];by_cases h1:1<=n∧n<=1024
 ·rw [if_pos h1];simp only [ybt,h1,and_self,decide_true,yb8,zkC];by_cases h2:1024<w.length
  ·rw [if_pos h2,show decide ((1024:Int)<(↑w.length:Int))=true from zkB (by omega),zkD]
  ·rw [if_neg h2,show decide ((1024:Int)<(↑w.length:Int))=false from zkA (by omega),zkC]
   have key:=zeg (step:=fun s=>zee.s2 w n s) (l:=w) (fun _ x=>if decide (0<=x∧x<n)=true then none else some (1:Int)) (fun i x hx=>by
    simp only [zee.s2]
    rw [zdg hx,zkD,zal hx,zal hx]
    by_cases a1:x<0
    ·simp [a1,show ¬ (0<=x) by omega]
    ·by_cases a2:n<=x
     ·simp [a1,a2,show ¬ (x<n) by omega]
     ·simp [a1,a2,show 0<=x by omega,show x<n by omega]) (by
    simp only [zee.s2]
    rw [zfb]
    rfl) (by unfold SmW at hl;omega)
   rw [key,scan_all (p:=fun x=>decide (0<=x∧x<n))];by_cases h:(w.all fun x=>decide (0<=x∧x<n))=true
   ·rw [if_pos h,if_pos h];rfl
   ·rw [if_neg h,if_neg h];rfl
 ·rw [if_neg h1];simp [h1]
theorem zn3 (w:yab) (n:Int) (hl:SmW w):zho w n=some (zgl w n):=by
 unfold zho zgl zcr za5;rw [zo2];by_cases h1:1<=n∧n<=1024
 ·rw [if_pos h1];simp only [ybt,h1,and_self,decide_true,yb8,zkC];by_cases h2:1024<w.length
  ·rw [if_pos h2,show decide ((1024:Int)<(↑w.length:Int))=true from zkB (by omega),zkD]
  ·rw [if_neg h2,show decide ((1024:Int)<(↑w.length:Int))=false from zkA (by omega),zkC]
   have key:=zeg (step:=fun s=>za5.s2 w (fun u0=>zf8 u0 n) s) (l:=w) (fun i x=>if decide (0<=x∧x<n)=true then none else some (i:Int)) (fun i x hx=>by
    simp only [za5.s2,zf8]
    rw [zdg hx,zkD,zal hx]
    by_cases a1:x<0
    ·simp [a1,show ¬ (0<=x) by omega]
    ·by_cases a2:n<=x
     ·simp [a1,a2,show ¬ (x<n) by omega]
     ·simp [a1,a2,show 0<=x by omega,show x<n by omega]) (by
    simp only [za5.s2]
    rw [zfb]
    rfl) (by unfold SmW at hl;omega)
   rw [key];cases e:scan (fun i x=>if decide (0<=x∧x<n)=true then none else some (i:Int)) 0 w with
   | none =>
    have h3:=zhx.1 e
    have h:(w.all fun x=>decide (0<=x∧x<n))=true:=ybf.2 fun x hx=>by
     obtain ⟨i,hi,rfl⟩:=yb3.1 hx;have:=h3 i _ (get_at hi);split at this
     ·assumption
     ·cases this
    rw [if_pos h];simp
   | some r =>
    have h:¬ (w.all fun x=>decide (0<=x∧x<n))=true:=fun h=>by
     have:scan (fun i x=>if decide (0<=x∧x<n)=true then none else some (i:Int)) 0 w=none:=zhx.2 fun i x hx=>if_pos (ybf.1 h x (zkH hx));rw [this] at e;cases e
    have hr:0<=r:=by
     have key:∀ (l:yab) (j:Nat),scan (fun i x=>if decide (0<=x∧x<n)=true then none else some (i:Int)) j l=some r->0<=r:=by
      intro l
      induction l with
      | nil=>intro j h;cases h
      | cons x l ih =>
       intro j h;unfold scan at h;split at h
       ·rename_i r' h3;injection h with h
        subst h;split at h3
        ·cases h3
        ·injection h3 with h3
         omega
       ·exact ih _ h
     exact key w 0 e
    rw [if_neg h];simp [hr]
 ·rw [if_neg h1];simp [h1]
theorem zhg (a b:yab) (ha:SmW a):zdy a b=some (za7 a b:Int):=by
 unfold zdy;rw [ze7 (r:=za7 a b) (fun k=>k<=a.length∧za7 a b=za7 (a.drop k) (b.drop k)+k) (fun k=>a.length-k) (fun k ⟨h1,h2⟩=>?_) ⟨yag _,by simp⟩ (by have:=zav;unfold SmW at ha;omega)]
 ·rfl
 ·simp only [zdy.s2];rcases yat k a.length with h | h
  ·have hx:=get_at h;rcases yat k b.length with h' | h'
   ·have hy:=get_at h';rw [zdg hx,zdg hy,zkD,zkD,zal hx,zal hy];rw [ycc h,ycc h'] at h2;by_cases e:a[k]=b[k]
    ·left;unfold SmW at ha;refine ⟨k+1,?_,⟨h,?_⟩,by omega⟩
     ·rw [zas (by unfold inR;omega)];simp [e]
     ·rw [h2,e];simp [za7];omega
    ·right;simp only [za7,e,if_false,yai] at h2;simp [e,h2]
   ·right;rw [zdg hx,zkD,show decide ((↑k:Int)<(↑b.length:Int))=false by simp;omega];rw [zop (Or.inr h'),yai] at h2;simp [h2]
  ·right;rw [show decide ((↑k:Int)<(↑a.length:Int))=false by simp;omega];rw [zop (Or.inl h),yai] at h2;simp [h2]
theorem R01_Same_eq (a b:yab) (ha:SmW a):zl9 a b=some (decide (a=b)):=by
 unfold zl9;rw [zhg a b ha];have h:=same_iff a b;by_cases h1:a.length=b.length
 ·rw [show decide ((↑a.length:Int)=(↑b.length:Int))=true from zkB (by omega),zkD];by_cases h2:za7 a b=a.length
  ·have:a=b:=h.1 ⟨h1,h2⟩;subst this;simp [zjo]
  ·have:a≠b:=fun e=>h2 (h.2 e).2;simp only [ybt,this,decide_false];rw [zkA (by omega)]
 ·have:a≠b:=fun e=>h1 (by rw [e]);rw [show decide ((↑a.length:Int)=(↑b.length:Int))=false from zkA (by omega),zkC];simp [this]
theorem R01_Lex_eq (a b:yab) (ha:SmW a):zsj a b=some (lexI a b):=by
 unfold zsj;rw [zhg a b ha];have a2:=zi3 a b;have a0:=zqw a b;rw [a0];simp only [ybt];by_cases h1:za7 a b=a.length
 ·rw [show decide ((↑(za7 a b):Int)=↑a.length)=true from zkB (by omega),zkD,zkD];by_cases h2:za7 a b=b.length
  ·rw [show decide ((↑(za7 a b):Int)=↑b.length)=true from zkB (by omega),if_pos ⟨h1,h2⟩];rfl
  ·rw [show decide ((↑(za7 a b):Int)=↑b.length)=false from zkA (by omega),if_neg (fun h=>h2 h.2),if_pos (Or.inl h1)];rfl
 ·rw [show decide ((↑(za7 a b):Int)=↑a.length)=false from zkA (by omega),zkC,zkC,if_neg (fun h=>h1 h.1)];by_cases h2:za7 a b=b.length
  ·rw [show decide ((↑(za7 a b):Int)<(↑b.length:Int))=false from zkA (by omega),if_neg (fun h=>by omega)];rfl
  ·have hx:=get_at (l:=a) (i:=za7 a b) (by omega);have hy:=get_at (l:=b) (i:=za7 a b) (by omega);rw [show decide ((↑(za7 a b):Int)<(↑b.length:Int))=true from zkB (by omega),zkD,zbb rfl hx,zbb rfl hy];rw [ybs,ybs,hx,hy];by_cases h3:a[za7 a b]'(by omega)<b[za7 a b]'(by omega)
   ·rw [if_pos (Or.inr ⟨by omega,h3⟩)];simp [h3]
   ·rw [if_neg (fun h=>by
     rcases h with h | ⟨_,h⟩
     ·omega
     ·exact h3 h)]
    simp [h3]
theorem zsu (a b:yab) (ha:SmW a):zgo a b=some (cmpW a b):=by
 unfold zgo cmpW;rw [R01_Lex_eq a b ha];by_cases h1:a.length<b.length
 ·rw [show decide ((↑a.length:Int)<(↑b.length:Int))=true from zkB (by omega),if_pos h1];rfl
 ·rw [show decide ((↑a.length:Int)<(↑b.length:Int))=false from zkA (by omega),if_neg h1,zkC];by_cases h2:b.length<a.length
  ·rw [show decide ((↑b.length:Int)<(↑a.length:Int))=true from zkB (by omega),if_pos h2];rfl
  ·rw [show decide ((↑b.length:Int)<(↑a.length:Int))=false from zkA (by omega),if_neg h2];rfl
end
section
section
variable {κ ν:Type} [BEq κ]
theorem zg1 {k:κ} {v:ν} (hb:∀ a b:κ,(a==b)=true↔a=b):∀ m:List (κ×ν),mget k (mset k v m)=some v
 | []=>by
  unfold mset mget;rw [(hb k k).2 rfl]
 | p::m=>by
  unfold mset;cases h:k==p.1 with
  | true =>
   show mget k ((k,v)::m)=_;unfold mget;rw [(hb k k).2 rfl]
  | false =>
   show mget k (p::mset k v m)=_;unfold mget;rw [h];exact zg1 hb m
theorem zf5 {k k':κ} {v:ν} (hb:∀ a b:κ,(a==b)=true↔a=b) (hne:¬ k'=k):∀ m:List (κ×ν),mget k' (mset k v m)=mget k' m
 | []=>by
  have e:(k'==k)=false:=by
   cases e:k'==k with
   | true=>exact absurd ((hb _ _).1 e) hne
   | false=>rfl
  unfold mset mget;simp only [e];rfl
 | p::m=>by
  unfold mset;cases h:k==p.1 with
  | true =>
   have e1:k=p.1:=(hb _ _).1 h;show mget k' ((k,v)::m)=mget k' (p::m)
   have e:(k'==k)=false:=by
    cases e:k'==k with
    | true=>exact absurd ((hb _ _).1 e) hne
    | false=>rfl
   unfold mget;rw [<- e1];simp only [e]
  | false =>
   show mget k' (p::mset k v m)=mget k' (p::m);unfold mget;rw [zf5 hb hne m]
end
theorem ba_beq (a b:ByteArray):(a==b)=true↔a=b:=by
 cases a;cases b;show ByteArray.beq _ _=true↔_;unfold ByteArray.beq;simp
theorem longest_fold (l:yaa):∀ n:Nat,l.foldl (fun (n:Int) w=>max n (↑w.length:Int)) (↑n:Int)=↑(l.foldl (fun n w=>max n w.length) n):=by
 induction l with
 | nil=>intro n;rfl
 | cons x l ih =>
  intro n;rw [ycu,ycu,show max (↑n:Int) (↑x.length:Int)=((max n x.length:Nat):Int) by omega,ih]
def SmT (t:zrb):Prop:=inR t.Inputs∧SmL t.Prefixes∧SmL t.Suffixes∧∀ x∈t.Prefixes,∀ a∈x,inR a
end
section
structure zda (p:zac):Prop where
 i1:1<=p.Inputs
 i2:p.Inputs<=64
 n1:0<p.Next.length
 n2:p.Next.length<=4096
 st:0<=p.Start∧p.Start<(↑p.Next.length:Int)
 ol:p.Out.length=p.Next.length
 row:∀ s,s<p.Next.length->∃ x y,p.Next[s]?=some x∧p.Out[s]?=some y∧(↑x.length:Int)=p.Inputs∧(↑y.length:Int)=p.Inputs∧∀ (a:Nat) (t o:Int),x[a]?=some t->y[a]?=some o->-1<=t∧t<(↑p.Next.length:Int)∧-1<=o∧o<=1048576∧(t=-1↔o=-1)
structure Wrt (f:Nat->Int) (init:yab) (a:Nat) (y:yab):Prop where
 len:y.length=init.length
 at_:∀ b,b<init.length->y[b]?=if b<a then some (f b) else init[b]?
theorem Wrt.zero (f:Nat->Int) (init:yab):Wrt f init 0 init:=⟨rfl,fun b _=>by rw [if_neg (by omega)]⟩
theorem Wrt.step {f:Nat->Int} {init:yab} {a:Nat} {y:yab} (h:Wrt f init a y) (ha:a<init.length) {v:Int} (hv:v=f a):Wrt f init (a+1) (y.set a v):=by
 refine ⟨by rw [ybo];exact h.len,fun b hb=>?_⟩;have hl:=h.len;by_cases e:b=a
 ·subst e;rw [if_pos (by omega),ya7 (by omega),hv]
 ·rw [ybb (by omega),h.at_ b hb];by_cases g:b<a
  ·rw [if_pos g,if_pos (by omega)]
  ·rw [if_neg g,if_neg (by omega)]
theorem Wrt.skip {f:Nat->Int} {init:yab} {a:Nat} {y:yab} (h:Wrt f init a y) (ha:a<init.length) (hv:init[a]?=some (f a)):Wrt f init (a+1) y:=by
 refine ⟨h.len,fun b hb=>?_⟩;rw [h.at_ b hb];by_cases e:b=a
 ·subst e;rw [if_neg (by omega),if_pos (by omega),hv]
 ·by_cases g:b<a
  ·rw [if_pos g,if_pos (by omega)]
  ·rw [if_neg g,if_neg (by omega)]
theorem Wrt.done {f:Nat->Int} {init y:yab} {a:Nat} (h:Wrt f init a y) (ha:init.length<=a):y=(List.range init.length).map f:=by
 refine yce fun b=>?_;by_cases g:b<init.length
 ·rw [h.at_ b g,if_pos (by omega),yaf,ybh g];rfl
 ·rw [yaq (by have:=h.len;omega),yaq (by simp;omega)]
theorem Wrt.cur {f:Nat->Int} {init:yab} {a:Nat} {y:yab} (h:Wrt f init a y) (ha:a<init.length):y[a]?=init[a]?:=by rw [h.at_ a ha,if_neg (by omega)]
end
section
def pnx (p:zac) (s a:Nat):Int:=(((p.Next[s]?).getD [])[a]?).getD (-1)
def pot (p:zac) (s a:Nat):Int:=(((p.Out[s]?).getD [])[a]?).getD (-1)
theorem zda.at {p:zac} (H:zda p) {s a:Nat} (hs:s<p.Next.length) (ha:a<p.Inputs.toNat):-1<=pnx p s a∧pnx p s a<(↑p.Next.length:Int)∧-1<=pot p s a∧pot p s a<=1048576∧(pnx p s a=-1↔pot p s a=-1)∧∃ x y,p.Next[s]?=some x∧p.Out[s]?=some y∧x[a]?=some (pnx p s a)∧y[a]?=some (pot p s a)∧(↑x.length:Int)=p.Inputs∧(↑y.length:Int)=p.Inputs:=by
 obtain ⟨x,y,h1,h2,h3,h4,h5⟩:=H.row s hs;have hx:=get_at (l:=x) (i:=a) (by omega);have hy:=get_at (l:=y) (i:=a) (by omega);have e1:pnx p s a=x[a]:=by unfold pnx;rw [h1,yae,hx,yae]
 have e2:pot p s a=y[a]:=by unfold pot;rw [h2,yae,hy,yae]
 obtain ⟨k1,k2,k3,k4,k5⟩:=h5 a _ _ hx hy;rw [e1,e2];exact ⟨k1,k2,k3,k4,k5,x,y,h1,h2,hx,hy,h3,h4⟩
theorem zet {p:zac} (H:zda p) {q a u:Nat} (h:pnx p q a=(↑u:Int)):q<p.Next.length∧a<p.Inputs.toNat∧u<p.Next.length:=by
 have hq:q<p.Next.length:=ya5 fun g=>by
  unfold pnx at h;rw [show p.Next[q]?=none from yaq (by omega)] at h;have h:(-1:Int)=↑u:=h;omega
 have ha:a<p.Inputs.toNat:=ya5 fun g=>by
  obtain ⟨x,y,h1,h2,h3,h4,h5⟩:=H.row q hq;unfold pnx at h;rw [h1,yae,show x[a]?=none from yaq (by omega)] at h;have h:(-1:Int)=↑u:=h;omega
 have:=(H.at hq ha).2.1;exact ⟨hq,ha,by omega⟩
inductive Cong (p:zac) (s t:Nat):Nat->Nat->Prop
 | base:Cong p s t s t
 | refl (q:Nat):Cong p s t q q
 | symm {q r:Nat} (h:Cong p s t q r):Cong p s t r q
 | trans {q r u:Nat} (h:Cong p s t q r) (k:Cong p s t r u):Cong p s t q u
 | step {q r:Nat} (a u v:Nat) (h:Cong p s t q r) (hu:pnx p q a=(↑u:Int)) (hv:pnx p r a=(↑v:Int)):Cong p s t u v
def zme (p:zac) (s t:Nat):Prop:=∃ q r a,Cong p s t q r∧pnx p q a≠-1∧pnx p r a≠-1∧pot p q a≠pot p r a
noncomputable def clsOf (p:zac) (s t q:Nat):Nat:=by
 classical
 exact ((List.range (q+1)).find? fun r=>decide (Cong p s t q r)).getD q
section
variable {p:zac} {s t:Nat}
theorem zma (q:Nat):clsOf p s t q<=q∧Cong p s t q (clsOf p s t q)∧∀ r,r<clsOf p s t q->¬ Cong p s t q r:=by
 classical
 unfold clsOf;cases h:(List.range (q+1)).find? fun r=>decide (Cong p s t q r) with
 | none=>exact absurd (zkB (Cong.refl q)) (List.find?_eq_none.1 h q (ya8.2 (by omega)))
 | some r =>
  obtain ⟨h1,h2,h3⟩:=List.find?_range_eq_some.1 h;rw [yae];have h2:=ya8.1 h2;refine ⟨by omega,of_decide_eq_true h1,fun u hu hc=>?_⟩;have:=h3 u hu;simp [hc] at this
theorem clsOf_eq {q c:Nat} (h:Cong p s t q c) (h2:∀ r,Cong p s t q r->c<=r):clsOf p s t q=c:=by
 obtain ⟨g1,g2,g3⟩:=zma (p:=p) (s:=s) (t:=t) q;have h3:=h2 _ g2;rcases yat c (clsOf p s t q) with k | k
 ·exact absurd h (g3 c k)
 ·omega
theorem clsOf_same {q r:Nat}:Cong p s t q r↔clsOf p s t q=clsOf p s t r:=by
 obtain ⟨a1,a2,a3⟩:=zma (p:=p) (s:=s) (t:=t) q;obtain ⟨b1,b2,b3⟩:=zma (p:=p) (s:=s) (t:=t) r;constructor
 ·intro h;refine clsOf_eq (h.trans b2) fun u hu=>ycw fun k=>b3 u k (h.symm.trans hu)
 ·intro h;rw [h] at a2;exact a2.trans b2.symm
theorem cong_into (H:zda p) (hs:s<p.Next.length) (ht:t<p.Next.length) {cl:Nat->Nat} (h0:cl s=cl t) (hc:∀ q r a u v:Nat,q<p.Next.length->r<p.Next.length->cl q=cl r->pnx p q a=(↑u:Int)->pnx p r a=(↑v:Int)->cl u=cl v) {q r:Nat} (h:Cong p s t q r):q=r∨(q<p.Next.length∧r<p.Next.length∧cl q=cl r):=by
 induction h with
 | base=>exact .inr ⟨hs,ht,h0⟩
 | refl q=>exact .inl rfl
 | symm _ ih =>
  rcases ih with e | ⟨a,b,c⟩
  ·exact .inl e.symm
  ·exact .inr ⟨b,a,c.symm⟩
 | trans _ _ ih1 ih2 =>
  rcases ih1 with rfl | ⟨a,b,c⟩
  ·exact ih2
  ·rcases ih2 with rfl | ⟨a',b',c'⟩
   ·exact .inr ⟨a,b,c⟩
   ·exact .inr ⟨a,b',c.trans c'⟩
 | step a u v _ hu hv ih =>
  obtain ⟨q1,_,q3⟩:=zet H hu;obtain ⟨r1,_,r3⟩:=zet H hv;rcases ih with rfl | ⟨_,_,c⟩
  ·rw [hu] at hv;exact .inl (by omega)
  ·exact .inr ⟨q3,r3,hc _ _ a u v q1 r1 c hu hv⟩
structure ClsL (p:zac) (s t:Nat) (C:yab) (cl:Nat->Nat):Prop where
 len:C.length=p.Next.length
 at_:∀ q,q<p.Next.length->C[q]?=some (↑(cl q):Int)
 le:∀ q,q<p.Next.length->cl q<=q
 idem:∀ q,q<p.Next.length->cl (cl q)=cl q
 sound:∀ q,q<p.Next.length->Cong p s t q (cl q)
def zs3 (n:Nat) (cl:Nat->Nat):Nat:=(List.range n).countP fun q=>decide (cl q=q)
def zex (cl:Nat->Nat) (u v q:Nat):Nat:=if cl q=max (cl u) (cl v) then min (cl u) (cl v) else cl q
theorem joinF_same (cl:Nat->Nat) (u v:Nat):zex cl u v u=zex cl u v v:=by
 unfold zex;rcases ydl (cl u) (cl v) with h | h
 ·rw [ydm h,yci h,if_pos rfl];split<;>omega
 ·rw [ydp h,ydd h,if_pos rfl];split<;>omega
theorem ztx {cl:Nat->Nat} {u v q r:Nat} (h:cl q=cl r):zex cl u v q=zex cl u v r:=by unfold zex;rw [h]
theorem countP_lt {n:Nat} {f g:Nat->Bool} (h:∀ q,q<n->g q=true->f q=true) {x:Nat} (hx:x<n) (h1:f x=true) (h2:g x=false):(List.range n).countP g<(List.range n).countP f:=by
 induction n with
 | zero=>omega
 | succ n ih =>
  rw [ydh,yd9,yd9,ydi,ydi];by_cases e:x=n
  ·subst e;have a0:(List.range x).countP g<=(List.range x).countP f:=List.countP_mono_left fun q hq hg=>h q (by have:=ya8.1 hq;omega) hg;rw [h1,h2];simp;omega
  ·have:=ih (fun q hq=>h q (by omega)) (by omega)
   have h3:(if g n=true then 1 else 0)<=(if f n=true then 1 else 0:Nat):=by
    by_cases k:g n=true
    ·rw [if_pos k,if_pos (h n (by omega) k)];omega
    ·rw [if_neg k];omega
   omega
theorem ClsL.join {C:yab} {cl:Nat->Nat} (K:ClsL p s t C cl) {u v:Nat} (hu:u<p.Next.length) (hv:v<p.Next.length) (hc:Cong p s t u v) (hn:p.Next.length<=10000000):∃ C',zlr C (↑u:Int) (↑v:Int)=some C'∧ClsL p s t C' (zex cl u v)∧(cl u≠cl v->zs3 p.Next.length (zex cl u v)<zs3 p.Next.length cl):=by
 have a6:=K.len
 have key:=zaw (step:=fun (q:yab×Nat)=>zlr.s2 (↑(cl u):Int) (↑(cl v):Int) (↑(cl u):Int) (↑(cl v):Int) q.1 q.2) (fun q=>q.2<=C.length∧Wrt (fun b=>(↑(zex cl u v b):Int)) C q.2 q.1) (fun q=>C.length-q.2) (fun r=>r=(List.range C.length).map fun b=>(↑(zex cl u v b):Int)) (fun ⟨y,i⟩ ⟨g1,g2⟩=>by
  simp only at g1 g2
  simp only [zlr.s2]
  have b4:=g2.len
  by_cases h:i<C.length
  ·left
   have hy:y[i]?=some (↑(cl i):Int):=(g2.cur h).trans (K.at_ i (by omega))
   rw [zkB (by omega),zkD,zal hy]
   by_cases e:cl i=max (cl u) (cl v)
   ·refine ⟨(y.set i (min (↑(cl u):Int) (↑(cl v):Int)),i+1),by rw [zkB (by omega),zkD,zal hy],⟨h,g2.step h ?_⟩,by simp only;omega⟩
    unfold zex
    rw [if_pos e]
    omega
   ·refine ⟨(y,i+1),by rw [zkA (by omega),zkC],⟨h,g2.skip h ?_⟩,by simp only;omega⟩
    unfold zex
    rw [if_neg e]
    exact K.at_ i (by omega)
  ·right
   exact ⟨_,by rw [zkA (by omega),zkC],g2.done (by omega)⟩) fuel (C,0) ⟨yag _,Wrt.zero _ _⟩ (by have:=zav;simp only;omega)
 obtain ⟨r,e,rfl⟩:=key;have b3:min (cl u) (cl v)<p.Next.length:=by have:=K.le u hu;omega
 have a2:∀ q,q<p.Next.length->cl q<p.Next.length:=fun q hq=>by have:=K.le q hq;omega
 have a3:Cong p s t (cl u) (cl v):=(K.sound u hu).symm.trans (hc.trans (K.sound v hv))
 have a8:Cong p s t (max (cl u) (cl v)) (min (cl u) (cl v)):=by
  rcases ydl (cl u) (cl v) with h | h
  ·rw [ydm h,yci h];exact a3.symm
  ·rw [ydp h,ydd h];exact a3
 have a4:cl (min (cl u) (cl v))=min (cl u) (cl v):=by
  rcases ydl (cl u) (cl v) with h | h
  ·rw [yci h];exact K.idem u hu
  ·rw [ydd h];exact K.idem v hv
 have a5:cl (max (cl u) (cl v))=max (cl u) (cl v):=by
  rcases ydl (cl u) (cl v) with h | h
  ·rw [ydm h];exact K.idem v hv
  ·rw [ydp h];exact K.idem u hu
 have a0:zex cl u v (min (cl u) (cl v))=min (cl u) (cl v):=by
  unfold zex;rw [a4];split<;>omega
 refine ⟨(List.range C.length).map fun b=>(↑(zex cl u v b):Int),?_,⟨by simp [a6],fun q hq=>?_,fun q hq=>?_,fun q hq=>?_,fun q hq=>?_⟩,fun a9=>?_⟩
 ·unfold zlr;rw [zbb (i:=u) rfl (K.at_ u hu),zbb (i:=v) rfl (K.at_ v hv),zbb (i:=u) rfl (K.at_ u hu),zbb (i:=v) rfl (K.at_ v hv),e,zam]
 ·rw [yaf,ybh (by omega)];rfl
 ·have:=K.le q hq;unfold zex;split<;>omega
 ·have h1:zex cl u v q=min (cl u) (cl v)∨(zex cl u v q=cl q∧cl q≠max (cl u) (cl v)):=by
   unfold zex;split
   ·exact .inl rfl
   ·rename_i g;exact .inr ⟨rfl,g⟩
  rcases h1 with h1 | ⟨h1,h2⟩
  ·rw [h1,a0]
  ·rw [h1];unfold zex;rw [K.idem q hq,if_neg h2]
 ·unfold zex;split
  ·rename_i g;have:=K.sound q hq;rw [g] at this;exact this.trans a8
  ·exact K.sound q hq
 ·have b2:min (cl u) (cl v)<max (cl u) (cl v):=by omega
  have a7:max (cl u) (cl v)<p.Next.length:=by have:=a2 u hu;have:=a2 v hv;omega
  refine countP_lt (fun q hq h=>?_) a7 (zkB a5) (zkA ?_)
  ·have h:=of_decide_eq_true h;refine zkB ?_;unfold zex at h;split at h
   ·rename_i g;rw [<- h,a4]
   ·exact h
  ·unfold zex;rw [a5,if_pos rfl];omega
structure FstOk (p:zac) (cl:Nat->Nat) (a q:Nat) (F:yab):Prop where
 len:F.length=p.Next.length
 none_:∀ c,c<p.Next.length->F[c]?=some (-1)->∀ r,r<q->cl r=c->pnx p r a=-1
 some_:∀ c,c<p.Next.length->F[c]?≠some (-1)->∃ f:Nat,F[c]?=some (↑f:Int)∧f<q∧cl f=c∧pnx p f a≠-1∧∀ r,r<q->cl r=c->pnx p r a≠-1->pot p f a=pot p r a∧cl (pnx p f a).toNat=cl (pnx p r a).toNat
def SymOk (p:zac) (cl:Nat->Nat) (a:Nat):Prop:=∀ q r,q<p.Next.length->r<p.Next.length->cl q=cl r->pnx p q a≠-1->pnx p r a≠-1->pot p q a=pot p r a∧cl (pnx p q a).toNat=cl (pnx p r a).toNat
end
end
section
section
variable {p:zac} {s t:Nat}
theorem repsN_le (n:Nat) (cl:Nat->Nat):zs3 n cl<=n:=by
 have:=yeo (p:=fun q=>decide (cl q=q)) (l:=List.range n);rw [ybz] at this;exact this
theorem cls_done (H:zda p) (hs:s<p.Next.length) (ht:t<p.Next.length) {C:yab} {cl:Nat->Nat} (K:ClsL p s t C cl) (h0:cl s=cl t) (hS:∀ a,a<p.Inputs.toNat->SymOk p cl a):(∀ q,q<p.Next.length->cl q=clsOf p s t q)∧¬ zme p s t:=by
 have a0:∀ {q r:Nat},Cong p s t q r->q=r∨(q<p.Next.length∧r<p.Next.length∧cl q=cl r):=fun h=>cong_into H hs ht h0 (fun q r a u v hq hr e hu hv=>by
  obtain ⟨_,ha,_⟩:=zet H hu
  have:=(hS a ha q r hq hr e (by rw [hu];omega) (by rw [hv];omega)).2
  rw [hu,hv] at this
  simpa using this) h
 refine ⟨fun q hq=>(clsOf_eq (K.sound q hq) fun r hr=>?_).symm,fun ⟨q,r,a,hc,h1,h2,h3⟩=>?_⟩
 ·rcases a0 hr with rfl | ⟨_,hr2,e⟩
  ·exact K.le q hq
  ·rw [e];exact K.le r hr2
 ·have rng:∀ q,pnx p q a≠-1->q<p.Next.length∧a<p.Inputs.toNat:=fun q h=>by
   have hq:q<p.Next.length:=ya5 fun g=>h (by unfold pnx;rw [show p.Next[q]?=none from yaq (by omega)];rfl);refine ⟨hq,ya5 fun g=>h ?_⟩;obtain ⟨x,y,e1,e2,e3,e4,e5⟩:=H.row q hq;unfold pnx;rw [e1,yae,show x[a]?=none from yaq (by omega)];rfl
  obtain ⟨hq,ha⟩:=rng q h1;obtain ⟨hr,_⟩:=rng r h2;rcases a0 hc with rfl | ⟨_,_,e⟩
  ·exact h3 rfl
  ·exact h3 (hS a ha q r hq hr e h1 h2).1
end
end
section
def gx (N:yaa) (q a:Nat):Int:=(((N[q]?).getD [])[a]?).getD (-1)
structure Grid (n I:Nat) (N:yaa):Prop where
 len:N.length=n
 row:∀ q,q<n->∃ x,N[q]?=some x∧x.length=I
theorem Grid.at {n I:Nat} {N:yaa} (G:Grid n I N) {q a:Nat} (hq:q<n) (ha:a<I):∃ x,N[q]?=some x∧x[a]?=some (gx N q a)∧x.length=I:=by
 obtain ⟨x,h1,h2⟩:=G.row q hq;refine ⟨x,h1,?_,h2⟩;have hx:=get_at (l:=x) (i:=a) (by omega);unfold gx;rw [h1,yae,hx,yae]
theorem Grid.put {n I:Nat} {N:yaa} (G:Grid n I N) {c a:Nat} {x:yab} (hc:c<n) (ha:a<I) (hx:N[c]?=some x) (v:Int):Grid n I (N.set c (x.set a v))∧∀ q b,q<n->b<I->gx (N.set c (x.set a v)) q b=if q=c∧b=a then v else gx N q b:=by
 obtain ⟨x',h1,h2⟩:=G.row c hc;rw [hx] at h1;injection h1 with h1
 subst h1;have a0:=G.len;constructor
 ·refine ⟨by rw [ybo];exact G.len,fun q hq=>?_⟩;by_cases e:q=c
  ·subst e;exact ⟨_,ya7 (by omega),by rw [ybo];exact h2⟩
  ·rw [ybb (by omega)];exact G.row q hq
 ·intro q b hq hb;by_cases e:q=c
  ·subst e;unfold gx;rw [ya7 (by omega),yae];by_cases e2:b=a
   ·subst e2;rw [ya7 (by omega),yae,if_pos ⟨rfl,rfl⟩]
   ·rw [ybb (by omega),if_neg (fun h=>e2 h.2),hx,yae]
  ·unfold gx;rw [ybb (by omega),if_neg (fun h=>e h.1)]
theorem zda.gn {p:zac} (H:zda p):Grid p.Next.length p.Inputs.toNat p.Next:=⟨rfl,fun q hq=>by
 obtain ⟨x,y,h1,h2,h3,h4,h5⟩:=H.row q hq
 exact ⟨x,h1,by omega⟩⟩
theorem zda.go {p:zac} (H:zda p):Grid p.Next.length p.Inputs.toNat p.Out:=⟨H.ol,fun q hq=>by
 obtain ⟨x,y,h1,h2,h3,h4,h5⟩:=H.row q hq
 exact ⟨y,h2,by omega⟩⟩
structure UpOk (n:Nat) (cl:Nat->Nat) (M:List (Int×Int)):Prop where
 u0:∀ q,q<n->cl q=q->mget (↑q:Int) M=none
 u1:∀ q,q<n->cl q≠q->∃ u:Nat,u<q∧mget (↑q:Int) M=some (↑u:Int)∧cl u=cl q
theorem of_eq {n:Nat} {cl:Nat->Nat} {M:List (Int×Int)} (U:UpOk n cl M) (hn:n<=10000000) {u:Nat} (hu:u<n):zbo ⟨M⟩ (↑u:Int)=some ((↑(cl u):Int),M):=by
 unfold zbo
 have key:=zaw (step:=fun (s:Int)=>zbo.s1 ⟨M⟩ s) (fun s=>∃ v:Nat,s=(↑v:Int)∧v<=u∧cl v=cl u) (fun s=>s.toNat) (fun r=>r=((↑(cl u):Int),M)) (fun s ⟨v,e,h1,h2⟩=>by
  subst e
  simp only [zbo.s1]
  by_cases g:cl v=v
  ·right
   rw [U.u0 v (by omega) g]
   exact ⟨_,rfl,by rw [<- h2,g]⟩
  ·left
   obtain ⟨w,w1,w2,w3⟩:=U.u1 v (by omega) g
   rw [w2]
   exact ⟨_,rfl,⟨w,rfl,by omega,w3.trans h2⟩,by rw [yae];omega⟩) fuel (↑u) ⟨u,rfl,yap _,rfl⟩ (by have:=zav;omega)
 obtain ⟨r,e,rfl⟩:=key;exact e
section
variable {p:zac} {s t:Nat}
theorem ClsL.mm {C:yab} {cl:Nat->Nat} (K:ClsL p s t C cl) {u v:Nat} (hu:u<p.Next.length) (hv:v<p.Next.length):cl (min (cl u) (cl v))=min (cl u) (cl v)∧cl (max (cl u) (cl v))=max (cl u) (cl v):=by
 rcases ydl (cl u) (cl v) with h | h
 ·rw [yci h,ydm h];exact ⟨K.idem u hu,K.idem v hv⟩
 ·rw [ydd h,ydp h];exact ⟨K.idem v hv,K.idem u hu⟩
theorem joinF_min {C:yab} {cl:Nat->Nat} (K:ClsL p s t C cl) {u v:Nat} (hu:u<p.Next.length) (hv:v<p.Next.length):zex cl u v (min (cl u) (cl v))=min (cl u) (cl v):=by
 unfold zex;rw [(K.mm hu hv).1];split<;>omega
theorem UpOk.join {C:yab} {cl:Nat->Nat} {M:List (Int×Int)} (K:ClsL p s t C cl) (U:UpOk p.Next.length cl M) {u v:Nat} (hu:u<p.Next.length) (hv:v<p.Next.length) (hne:cl u≠cl v):UpOk p.Next.length (zex cl u v) (mset (↑(max (cl u) (cl v)):Int) (↑(min (cl u) (cl v)):Int) M):=by
 obtain ⟨m1,m2⟩:=K.mm hu hv;have hb:∀ a b:Int,(a==b)=true↔a=b:=fun a b=>beq_iff_eq;have a0:zex cl u v (max (cl u) (cl v))=min (cl u) (cl v):=by unfold zex;rw [m2,if_pos rfl]
 refine ⟨fun q hq h=>?_,fun q hq h=>?_⟩
 ·by_cases e:q=max (cl u) (cl v)
  ·rw [e,a0] at h;omega
  ·rw [zf5 hb (by omega)];refine U.u0 q hq ?_;unfold zex at h;split at h
   ·rw [<- h,m1]
   ·exact h
 ·by_cases e:q=max (cl u) (cl v)
  ·subst e;exact ⟨min (cl u) (cl v),by omega,zg1 hb _,by rw [a0,joinF_min K hu hv]⟩
  ·rw [zf5 hb (by omega)]
   have h0:cl q≠q:=fun g=>h (by
    unfold zex
    rw [g,if_neg e])
   obtain ⟨w,w1,w2,w3⟩:=U.u1 q hq h0;exact ⟨w,w1,w2,ztx w3⟩
end
structure InI (n I:Nat) (N O:yaa) (W0:List T_A2) (c1 c2:Nat) (N1 O1:yaa) (W1:List T_A2) (a:Nat):Prop where
 gn:Grid n I N1
 go:Grid n I O1
 nx:∀ q b,q<n->b<I->gx N1 q b=if q=c1∧b<a∧gx N c1 b=-1 then gx N c2 b else gx N q b
 ot:∀ q b,q<n->b<I->gx O1 q b=if q=c1∧b<a∧gx N c1 b=-1 then gx O c2 b else gx O q b
 wk:∀ w,w∈W1->w∈W0∨∃ b,b<a∧gx N c1 b≠-1∧gx N c2 b≠-1∧w=⟨gx N c1 b,gx N c2 b⟩
 w0:∀ w,w∈W0->w∈W1
 w1:∀ b,b<a->gx N c1 b≠-1->gx N c2 b≠-1->gx O c1 b=gx O c2 b∧(⟨gx N c1 b,gx N c2 b⟩:T_A2)∈W1
 few:W1.length<=W0.length+a
def InQ (n I:Nat) (N O:yaa) (W0:List T_A2) (c1 c2:Nat) (r:(yaa×yaa×List T_A2)⊕((yaa×yaa×(List (Int×Int))×List T_A2)⊕((yaa×yaa×(List (Int×Int))×List T_A2)⊕((yaa×yaa×(List (Int×Int)))⊕(zac×yab×Bool))))):Prop :=
 (r=.inr (.inr (.inr (.inr (⟨0,0,[],[]⟩,[],false))))∧∃ b,b<I∧gx N c1 b≠-1∧gx N c2 b≠-1∧gx O c1 b≠gx O c2 b)∨∃ N1 O1 W1,r=.inl (N1,O1,W1)∧InI n I N O W0 c1 c2 N1 O1 W1 I
theorem loop_in {n I:Nat} {N O:yaa} {W0:List T_A2} {c1 c2:Nat} {x y:Int×List (Int×Int)} (hmin:min x.1 y.1=(↑c1:Int)) (hmax:max x.1 y.1=(↑c2:Int)) (hc1:c1<n) (hc2:c2<n) (hne:c2≠c1) {e:yab} (he:e.length=I) (hI:I<=64) (GN:Grid n I N) (GO:Grid n I O)
  (h1:∀ b,b<I->gx N c1 b=-1->gx O c1 b=-1) (h2:∀ b,b<I->gx N c2 b=-1->gx O c2 b=-1) (hW:W0.length<=1000000) :
  ∃ r,iter (fun (s:yaa×yaa×List T_A2×Nat)=>zaf.s43 x y e s.1 s.2.1 s.2.2.1 s.2.2.2) fuel (N,O,W0,0)=some r∧InQ n I N O W0 c1 c2 r:=by
 refine zaw (step:=fun (s:yaa×yaa×List T_A2×Nat)=>zaf.s43 x y e s.1 s.2.1 s.2.2.1 s.2.2.2) (fun s=>s.2.2.2<=I∧InI n I N O W0 c1 c2 s.1 s.2.1 s.2.2.1 s.2.2.2) (fun s=>I-s.2.2.2) (InQ n I N O W0 c1 c2) (fun ⟨N1,O1,W1,a⟩ ⟨g1,g2⟩=>?_) fuel (N,O,W0,0) ⟨yag _,⟨GN,GO,fun q b _ _=>?_,fun q b _ _=>?_,fun w hw=>.inl hw,fun w hw=>hw,fun b hb=>?_,yap _⟩⟩ (by have:=zav;simp only;omega)
 ·simp only at g1 g2;unfold InQ;simp only [zaf.s43,hmin,hmax,yah];by_cases ha:a<I
  ·obtain ⟨x2,b4,a8,b8⟩:=g2.gn.at hc2 ha;obtain ⟨x1,a7,a2,b5⟩:=g2.gn.at hc1 ha;obtain ⟨y2,b3,a5,b6⟩:=g2.go.at hc2 ha;obtain ⟨y1,a9,a6,b7⟩:=g2.go.at hc1 ha;have e2:gx N1 c2 a=gx N c2 a:=by rw [g2.nx c2 a hc2 ha,if_neg (fun h=>hne h.1)]
   have e1:gx N1 c1 a=gx N c1 a:=by rw [g2.nx c1 a hc1 ha,if_neg (fun h=>ye0 _ h.2.1)]
   have o2:gx O1 c2 a=gx O c2 a:=by rw [g2.ot c2 a hc2 ha,if_neg (fun h=>hne h.1)]
   have o1:gx O1 c1 a=gx O c1 a:=by rw [g2.ot c1 a hc1 ha,if_neg (fun h=>ye0 _ h.2.1)]
   rw [e1] at a2;rw [e2] at a8;rw [o1] at a6;rw [o2] at a5;have hf:=g2.few
   have a0:∀ {q b:Nat} {A B D:Int},(q=c1->b=a->gx N c1 a=-1->A=B)->(if q=c1∧b<a∧gx N c1 b=-1 then A else B)=if q=c1∧b<a+1∧gx N c1 b=-1 then A else B:=fun {q b A B D} h=>by
    by_cases k:q=c1∧b<a∧gx N c1 b=-1
    ·rw [if_pos k,if_pos ⟨k.1,by omega,k.2.2⟩]
    ·rw [if_neg k];by_cases k2:q=c1∧b<a+1∧gx N c1 b=-1
     ·have:b=a:=Nat.le_antisymm (by omega) (ycw fun k3=>k ⟨k2.1,k3,k2.2.2⟩);subst this;rw [if_pos k2,h k2.1 rfl k2.2.2]
     ·rw [if_neg k2]
   rw [zkB (by omega),zkD,zal b4,zal a8];by_cases k2:gx N c2 a=-1
   ·left;refine ⟨(N1,O1,W1,a+1),by rw [zkB k2,zkD,zas (by unfold inR;omega)],⟨ha,g2.gn,g2.go,fun q b hq hb=>?_,fun q b hq hb=>?_,fun w hw=>?_,g2.w0,fun b hb a3 a4=>?_,by simp only;omega⟩,by simp only;omega⟩
    ·simp only;rw [g2.nx q b hq hb];exact a0 (D:=0) fun e3 e4 e5=>by rw [e3,e4,k2,e5]
    ·simp only;rw [g2.ot q b hq hb];exact a0 (D:=0) fun e3 e4 e5=>by rw [e3,e4,h1 a ha e5,h2 a ha k2]
    ·rcases g2.wk w hw with h | ⟨b,b1,b2⟩
     ·exact .inl h
     ·exact .inr ⟨b,by simp only;omega,b2⟩
    ·exact g2.w1 b (yex (by simp only at hb;omega) fun e3=>a4 (by rw [e3];exact k2)) a3 a4
   ·rw [zkA k2,zkC,zbb (i:=c1) rfl a7,zal a2];by_cases k1:gx N c1 a=-1
    ·left;obtain ⟨p1,p2⟩:=g2.gn.put hc1 ha a7 (gx N c2 a);obtain ⟨r1,r2⟩:=g2.go.put hc1 ha a9 (gx O c2 a);refine ⟨(N1.set c1 (x1.set a (gx N c2 a)),O1.set c1 (y1.set a (gx O c2 a)),W1,a+1),by rw [zkB k1,zkD,zbb (i:=c1) rfl a7,zbb (i:=c1) rfl a9,zbb (i:=c2) rfl b3,zal a5,zal a2,zal a6,zas (by unfold inR;omega)],⟨ha,p1,r1,fun q b hq hb=>?_,fun q b hq hb=>?_,fun w hw=>?_,g2.w0,fun b hb a3 a4=>?_,by simp only;omega⟩,by simp only;omega⟩
     ·simp only;rw [p2 q b hq hb];by_cases k:q=c1∧b=a
      ·rw [if_pos k,if_pos ⟨k.1,by omega,by rw [k.2];exact k1⟩,k.2]
      ·rw [if_neg k,g2.nx q b hq hb];exact a0 (D:=0) fun e3 e4=>absurd ⟨e3,e4⟩ k
     ·simp only;rw [r2 q b hq hb];by_cases k:q=c1∧b=a
      ·rw [if_pos k,if_pos ⟨k.1,by omega,by rw [k.2];exact k1⟩,k.2]
      ·rw [if_neg k,g2.ot q b hq hb];exact a0 (D:=0) fun e3 e4=>absurd ⟨e3,e4⟩ k
     ·rcases g2.wk w hw with h | ⟨b,b1,b2⟩
      ·exact .inl h
      ·exact .inr ⟨b,by simp only;omega,b2⟩
     ·exact g2.w1 b (yex (by simp only at hb;omega) fun e3=>a3 (by rw [e3];exact k1)) a3 a4
    ·rw [zkA k1,zkC,zbb (i:=c1) rfl a9,zal a6,zbb (i:=c2) rfl b3,zal a5];by_cases k3:gx O c1 a≠gx O c2 a
     ·right;exact ⟨_,by rw [zkB k3,zkD],.inl ⟨rfl,a,ha,k1,k2,k3⟩⟩
     ·left;have k3:=Classical.not_not.1 k3;refine ⟨(N1,O1,W1++[⟨gx N c1 a,gx N c2 a⟩],a+1),by rw [zkA (fun h=>h k3),zkC,zbb (i:=c1) rfl a7,zal a2,zas (by unfold zaz;omega),zas (by unfold inR;omega)],⟨ha,g2.gn,g2.go,fun q b hq hb=>?_,fun q b hq hb=>?_,fun w hw=>?_,fun w hw=>yam _ (g2.w0 w hw),fun b hb a3 a4=>?_,by simp only [zkJ,ya6];omega⟩,by simp only;omega⟩
      ·simp only;rw [g2.nx q b hq hb];exact a0 (D:=0) fun _ _ e5=>absurd e5 k1
      ·simp only;rw [g2.ot q b hq hb];exact a0 (D:=0) fun _ _ e5=>absurd e5 k1
      ·rcases yak.1 hw with hw | hw
       ·rcases g2.wk w hw with h | ⟨b,b1,b2⟩
        ·exact .inl h
        ·exact .inr ⟨b,by simp only;omega,b2⟩
       ·exact .inr ⟨a,by simp only;omega,k1,k2,yar.1 hw⟩
      ·by_cases e3:b=a
       ·rw [e3];exact ⟨k3,yaj _ (yar.2 rfl)⟩
       ·obtain ⟨q1,q2⟩:=g2.w1 b (by simp only at hb;omega) a3 a4;exact ⟨q1,yam _ q2⟩
  ·right;have e3:a=I:=by omega
   rw [e3] at g2;exact ⟨_,by rw [zkA (by omega),zkC],.inr ⟨N1,O1,W1,rfl,g2⟩⟩
 ·rw [if_neg (fun h=>ybe _ h.2.1)]
 ·rw [if_neg (fun h=>ybe _ h.2.1)]
 ·exact absurd hb (ybe _)
end
section
def Lab (n:Nat) (cl:Nat->Nat) (W:List T_A2) (f:Nat->Nat):Prop:=(∀ q r,q<n->r<n->cl q=cl r->f q=f r)∧∀ u v:Nat,(⟨(↑u:Int),(↑v:Int)⟩:T_A2)∈W->f u=f v
structure zpb (p:zac) (s t:Nat) (cl:Nat->Nat) (N O:yaa) (M:List (Int×Int)) (W:List T_A2):Prop where
 gn:Grid p.Next.length p.Inputs.toNat N
 go:Grid p.Next.length p.Inputs.toNat O
 cls:∃ C,ClsL p s t C cl
 up:UpOk p.Next.length cl M
 wk:∀ w,w∈W->∃ u v:Nat,w=⟨(↑u:Int),(↑v:Int)⟩∧u<p.Next.length∧v<p.Next.length∧Cong p s t u v
 st:∀ f,Lab p.Next.length cl W f->f s=f t
 row:∀ c a,c<p.Next.length->a<p.Inputs.toNat->cl c=c->(gx N c a=-1->gx O c a=-1∧∀ r,r<p.Next.length->cl r=c->pnx p r a=-1)∧(gx N c a≠-1->∃ u:Nat,gx N c a=(↑u:Int)∧u<p.Next.length∧(∃ r,r<p.Next.length∧cl r=c∧pnx p r a=(↑u:Int)∧pot p r a=gx O c a)∧∀ r,r<p.Next.length->cl r=c->pnx p r a≠-1->pot p r a=gx O c a∧∀ f,Lab p.Next.length cl W f->f u=f (pnx p r a).toNat)
 few:65*zs3 p.Next.length cl+W.length<=65*p.Next.length+1
 rng:∀ q a,q<p.Next.length->a<p.Inputs.toNat->gx N q a=-1∨∃ u:Nat,gx N q a=(↑u:Int)∧u<p.Next.length
section
variable {p:zac} {s t:Nat}
theorem zpb.join {cl:Nat->Nat} {N O:yaa} {M:List (Int×Int)} {W:List T_A2} {u v:Nat} (H:zda p) (F:zpb p s t cl N O M (⟨(↑u:Int),(↑v:Int)⟩::W)) (hu:u<p.Next.length) (hv:v<p.Next.length) (huv:Cong p s t u v) (hne:cl u≠cl v) {N1 O1:yaa} {W1:List T_A2} (J:InI p.Next.length p.Inputs.toNat N O W (min (cl u) (cl v)) (max (cl u) (cl v)) N1 O1 W1 p.Inputs.toNat) :
  zpb p s t (zex cl u v) N1 O1 (mset (↑(max (cl u) (cl v)):Int) (↑(min (cl u) (cl v)):Int) M) W1∧65*zs3 p.Next.length (zex cl u v)+W1.length<65*zs3 p.Next.length cl+(W.length+1):=by
 obtain ⟨C,K⟩:=F.cls;have hn:=H.n2;have hi:=H.i2;obtain ⟨C',_,K',a8⟩:=K.join hu hv huv (by omega);have a8:=a8 hne;obtain ⟨m1,m2⟩:=K.mm hu hv;have d4:=F.up.join K hu hv hne;have d7:=K.le u hu;have d8:=K.le v hv
 have c9:Cong p s t (min (cl u) (cl v)) (max (cl u) (cl v)):=by
  have h0:Cong p s t (cl u) (cl v):=(K.sound u hu).symm.trans (huv.trans (K.sound v hv));rcases ydl (cl u) (cl v) with h | h
  ·rw [ydm h,yci h];exact h0
  ·rw [ydp h,ydd h];exact h0.symm
 have hj:∀ r,zex cl u v r=if cl r=max (cl u) (cl v) then min (cl u) (cl v) else cl r:=fun r=>rfl
 have b8:=joinF_same cl u v;have d9:min (cl u) (cl v)<max (cl u) (cl v):=by omega
 have c6:min (cl u) (cl v)<p.Next.length:=by omega
 have b7:max (cl u) (cl v)<p.Next.length:=by omega
 generalize d5:min (cl u) (cl v)=c1 at *;generalize d6:max (cl u) (cl v)=c2 at *;have c7:∀ r,cl r=c1->zex cl u v r=c1:=fun r h=>by rw [hj,h,if_neg (by omega)]
 have d0:∀ r,cl r=c2->zex cl u v r=c1:=fun r h=>by rw [hj,h,if_pos rfl]
 have c8:∀ r c,cl r=c->c≠c2->zex cl u v r=c:=fun r c h h2=>by rw [hj,h,if_neg h2]
 have a6:∀ f,Lab p.Next.length (zex cl u v) W1 f->Lab p.Next.length cl (⟨(↑u:Int),(↑v:Int)⟩::W) f:=fun f ⟨f1,f2⟩=>⟨fun q r hq hr e=>f1 q r hq hr (ztx e),fun u' v' h=>by
  rcases yba.1 h with h | h
  ·injection h with h3 h4
   have e1:u'=u:=by omega
   have e2:v'=v:=by omega
   rw [e1,e2]
   exact f1 _ _ hu hv b8
  ·exact f2 u' v' (J.w0 _ h)⟩
 have c0:=F.few;have hJ:=J.few;rw [zkL] at c0
 have b9:∀ q a,q<p.Next.length->a<p.Inputs.toNat->gx N1 q a=-1∨∃ u:Nat,gx N1 q a=(↑u:Int)∧u<p.Next.length:=fun q a hq ha=>by
  rw [J.nx q a hq ha];split
  ·exact F.rng _ _ b7 ha
  ·exact F.rng _ _ hq ha
 refine ⟨⟨J.gn,J.go,⟨C',K'⟩,d4,fun w hw=>?_,fun f hf=>F.st f (a6 f hf),fun c a hc ha a9=>?_,by omega,b9⟩,by omega⟩
 ·rcases J.wk w hw with h | ⟨b,b1,b2,b3,b4⟩
  ·exact F.wk w (yay _ h)
  ·obtain ⟨u1,a1,a2,⟨r1,d1,d2,d3,_⟩,_⟩:=(F.row c1 b c6 b1 m1).2 b2;obtain ⟨u2,e1,e2,⟨r2,g1,g2,g3,_⟩,_⟩:=(F.row c2 b b7 b1 m2).2 b3;refine ⟨u1,u2,by rw [b4,a1,e1],a2,e2,.step b u1 u2 ?_ d3 g3⟩;have k1:=K.sound r1 d1;have k2:=K.sound r2 g1;rw [d2] at k1;rw [g2] at k2;exact k1.trans (c9.trans k2.symm)
 ·have b5:cl c=c∧c≠c2:=by
   rw [hj] at a9;split at a9
   ·rename_i g;rw [<- a9,m1] at g;omega
   ·rename_i g;exact ⟨a9,fun e=>g (by rw [e];exact m2)⟩
  have a0:∀ r,zex cl u v r=c->cl r=c∨(c=c1∧cl r=c2):=fun r h=>by
   rw [hj] at h;split at h
   ·rename_i g;exact .inr ⟨h.symm,g⟩
   ·exact .inl h
  by_cases e:c=c1
  ·have hN:=J.nx c a hc ha;have hO:=J.ot c a hc ha;rw [e] at hN hO a0;rw [e];have a3:=F.row c1 a c6 ha m1;have a7:=F.row c2 a b7 ha m2;by_cases k1:gx N c1 a=-1
   ·rw [if_pos ⟨rfl,ha,k1⟩] at hN hO;rw [hN,hO];refine ⟨fun k2=>⟨(a7.1 k2).1,fun r hr a5=>?_⟩,fun k2=>?_⟩
    ·rcases a0 r a5 with h | ⟨_,h⟩
     ·exact (a3.1 k1).2 r hr h
     ·exact (a7.1 k2).2 r hr h
    ·obtain ⟨u2,a1,a2,⟨r2,b1,b2,b3,b4⟩,a4⟩:=a7.2 k2;refine ⟨u2,a1,a2,⟨r2,b1,d0 _ b2,b3,b4⟩,fun r hr a5 hp=>?_⟩;rcases a0 r a5 with h | ⟨_,h⟩
     ·exact absurd ((a3.1 k1).2 r hr h) hp
     ·obtain ⟨d1,d2⟩:=a4 r hr h hp;exact ⟨d1,fun f hf=>d2 f (a6 f hf)⟩
   ·rw [if_neg (fun h=>k1 h.2.2)] at hN hO;rw [hN,hO];refine ⟨fun k=>absurd k k1,fun _=>?_⟩;obtain ⟨u1,a1,a2,⟨r1,b1,b2,b3,b4⟩,a4⟩:=a3.2 k1;refine ⟨u1,a1,a2,⟨r1,b1,c7 _ b2,b3,b4⟩,fun r hr a5 hp=>?_⟩;rcases a0 r a5 with h | ⟨_,h⟩
    ·obtain ⟨d1,d2⟩:=a4 r hr h hp;exact ⟨d1,fun f hf=>d2 f (a6 f hf)⟩
    ·have k2:gx N c2 a≠-1:=fun k=>hp ((a7.1 k).2 r hr h);obtain ⟨u2,e1,e2,_,e4⟩:=a7.2 k2;obtain ⟨d1,d2⟩:=e4 r hr h hp;obtain ⟨j1,j2⟩:=J.w1 a ha k1 k2;rw [a1,e1] at j2;exact ⟨by rw [j1];exact d1,fun f hf=>(hf.2 u1 u2 j2).trans (d2 f (a6 f hf))⟩
  ·have hN:=J.nx c a hc ha;have hO:=J.ot c a hc ha;rw [if_neg (fun h=>e h.1)] at hN hO;rw [hN,hO];have a3:=F.row c a hc ha b5.1;have b6:∀ r,zex cl u v r=c->cl r=c:=fun r h=>(a0 r h).elim id fun h=>absurd h.1 e;refine ⟨fun k=>⟨(a3.1 k).1,fun r hr a5=>(a3.1 k).2 r hr (b6 r a5)⟩,fun k=>?_⟩;obtain ⟨u1,a1,a2,⟨r1,b1,b2,b3,b4⟩,a4⟩:=a3.2 k;refine ⟨u1,a1,a2,⟨r1,b1,c8 _ _ b2 b5.2,b3,b4⟩,fun r hr a5 hp=>?_⟩;obtain ⟨d1,d2⟩:=a4 r hr (b6 r a5) hp;exact ⟨d1,fun f hf=>d2 f (a6 f hf)⟩
theorem fold_step (H:zda p) {cl:Nat->Nat} {N O:yaa} {M:List (Int×Int)} {W:List T_A2} (F:zpb p s t cl N O M W) :
  (W=[]∧zaf.s46 N O M W=some (.inr (.inl (N,O,M))))∨(zaf.s46 N O M W=some (.inr (.inr (⟨0,0,[],[]⟩,[],false)))∧zme p s t)∨∃ N' O' M' W' cl',zaf.s46 N O M W=some (.inl (N',O',M',W'))∧zpb p s t cl' N' O' M' W'∧65*zs3 p.Next.length cl'+W'.length<65*zs3 p.Next.length cl+W.length:=by
 have hn:=H.n2;have hi:=H.i2;cases W with
 | nil=>exact .inl ⟨rfl,by unfold zaf.s46;rw [zkA (by simp),zkC]⟩
 | cons w W =>
  right;obtain ⟨u,v,rfl,hu,hv,a6⟩:=F.wk w ybr;obtain ⟨C,K⟩:=F.cls;have a9:=F.few;rw [zkL] at a9;have b9:=K.le u hu;have c0:=K.le v hv;have e0:=of_eq F.up (by omega) hu;have e1:=of_eq F.up (by omega) hv;by_cases g:cl u=cl v
  ·right;refine ⟨N,O,M,W,cl,?_,⟨F.gn,F.go,F.cls,F.up,fun w hw=>F.wk w (yay _ hw),fun f hf=>F.st f ?_,fun c a hc ha b6=>?_,by omega,F.rng⟩,by rw [zkL];omega⟩
   ·unfold zaf.s46;rw [zkB (by rw [zkL];omega),zkD,zal (x:=⟨(↑u:Int),(↑v:Int)⟩) rfl,e0,zam,zal (x:=⟨(↑u:Int),(↑v:Int)⟩) rfl,e1,zam,zas (by simp),zkB (by simp [g]),zkD,zam,ycd];rfl
   ·refine ⟨hf.1,fun u' v' h=>?_⟩;rcases yba.1 h with h | h
    ·injection h with h3 h4
     have q1:u'=u:=by omega
     have q2:v'=v:=by omega
     rw [q1,q2];exact hf.1 u v hu hv g
    ·exact hf.2 u' v' h
   ·have a8:∀ f,Lab p.Next.length cl W f->Lab p.Next.length cl (⟨(↑u:Int),(↑v:Int)⟩::W) f:=fun f hf=>⟨hf.1,fun u' v' h=>by
     rcases yba.1 h with h | h
     ·injection h with h3 h4
      have q1:u'=u:=by omega
      have q2:v'=v:=by omega
      rw [q1,q2]
      exact hf.1 u v hu hv g
     ·exact hf.2 u' v' h⟩
    obtain ⟨r1,r2⟩:=F.row c a hc ha b6;refine ⟨r1,fun k=>?_⟩;obtain ⟨x,a1,a2,a3,a4⟩:=r2 k;exact ⟨x,a1,a2,a3,fun r hr a7 hp=>⟨(a4 r hr a7 hp).1,fun f hf=>(a4 r hr a7 hp).2 f (a8 f hf)⟩⟩
  ·have a5:min (cl u) (cl v)<p.Next.length:=by omega
   have a0:max (cl u) (cl v)<p.Next.length:=by omega
   obtain ⟨m1,m2⟩:=K.mm hu hv;obtain ⟨x2,b8,b7⟩:=F.gn.row _ a0;obtain ⟨r,e,hr⟩:=loop_in (W0:=W) (c1:=min (cl u) (cl v)) (c2:=max (cl u) (cl v)) (x:=((↑(cl u):Int),M)) (y:=((↑(cl v):Int),M)) (show min (↑(cl u):Int) (↑(cl v):Int)=_ by omega) (show max (↑(cl u):Int) (↑(cl v):Int)=_ by omega) a5 a0 (by omega) b7 (by omega) F.gn F.go (fun b hb h=>((F.row _ b a5 hb m1).1 h).1) (fun b hb h=>((F.row _ b a0 hb m2).1 h).1) (by omega)
   have es:zaf.s46 N O M (⟨(↑u:Int),(↑v:Int)⟩::W)=((Sum.elim (fun (s:yaa×yaa×List T_A2)=>zaf.k44 (mset (↑(max (cl u) (cl v)):Int) (↑(min (cl u) (cl v)):Int) M) s.1 s.2.1 s.2.2) some r)).bind (Sum.elim (fun (s:yaa×yaa×(List (Int×Int))×List T_A2)=>zaf.k45 s.1 s.2.1 s.2.2.1 s.2.2.2) some):=by
    unfold zaf.s46
    have ej:zds ⟨M⟩ (min (↑(cl u):Int) (↑(cl v):Int)) (max (↑(cl u):Int) (↑(cl v):Int))=some (mset (↑(max (cl u) (cl v)):Int) (↑(min (cl u) (cl v)):Int) M):=by
     unfold zds;rw [show max (↑(cl u):Int) (↑(cl v):Int)=(↑(max (cl u) (cl v)):Int) by omega,show min (↑(cl u):Int) (↑(cl v):Int)=(↑(min (cl u) (cl v)):Int) by omega]
    rw [zkB (by rw [zkL];omega),zkD,zal (x:=⟨(↑u:Int),(↑v:Int)⟩) rfl,e0,zam,zal (x:=⟨(↑u:Int),(↑v:Int)⟩) rfl,e1,zam,zas (by simp),zkA (by simp only;omega),zkC,ej,zam,zbb (i:=max (cl u) (cl v)) (by simp only;omega) b8,List.drop_succ_cons,yew,e,zam]
   rw [es];rcases hr with ⟨hr,b,b1,b2,b3,b4⟩ | ⟨N1,O1,W1,hr,J⟩
   ·left;refine ⟨by rw [hr,ydy,zam,ydy],?_⟩;obtain ⟨u1,_,_,⟨r1,d1,d2,d3,d4⟩,_⟩:=(F.row _ b a5 b1 m1).2 b2;obtain ⟨u2,_,_,⟨r2,g1,g2,g3,g4⟩,_⟩:=(F.row _ b a0 b1 m2).2 b3;have k1:=K.sound r1 d1;have k2:=K.sound r2 g1;rw [d2] at k1;rw [g2] at k2;have h0:Cong p s t (cl u) (cl v):=(K.sound u hu).symm.trans (a6.trans (K.sound v hv))
    have b5:Cong p s t (min (cl u) (cl v)) (max (cl u) (cl v)):=by
     rcases ydl (cl u) (cl v) with h | h
     ·rw [ydm h,yci h];exact h0
     ·rw [ydp h,ydd h];exact h0.symm
    exact ⟨r1,r2,b,k1.trans (b5.trans k2.symm),by rw [d3];omega,by rw [g3];omega,by rw [d4,g4];exact b4⟩
   ·right;obtain ⟨F',hd⟩:=F.join H hu hv a6 g J;exact ⟨N1,O1,_,W1,_,by rw [hr,ycd];unfold zaf.k44;rw [zam,ycd];rfl,F',by rw [zkL];exact hd⟩
def repsM (n:Nat) (M:List (Int×Int)):Nat:=(List.range n).countP fun (q:Nat)=>(mget (↑q:Int) M).isNone
theorem loop_fold (H:zda p) (hs:s<p.Next.length) (ht:t<p.Next.length) :
  ∃ r,iter (fun (q:yaa×yaa×(List (Int×Int))×List T_A2)=>zaf.s46 q.1 q.2.1 q.2.2.1 q.2.2.2) fuel (p.Next,p.Out,[],[⟨(↑s:Int),(↑t:Int)⟩])=some r ∧
   ((r=.inr (⟨0,0,[],[]⟩,[],false)∧zme p s t)∨∃ N O M cl,r=.inl (N,O,M)∧zpb p s t cl N O M []):=by
 have hn:=H.n2;have hi:=H.i2;have K0:ClsL p s t ((List.range p.Next.length).map fun (b:Nat)=>(↑b:Int)) (fun b=>b):=⟨by simp,fun q hq=>by rw [yaf,ybh hq];rfl,fun q _=>yap q,fun _ _=>rfl,fun q _=>.refl q⟩
 have F0:zpb p s t (fun b=>b) p.Next p.Out [] [⟨(↑s:Int),(↑t:Int)⟩]:=by
  refine ⟨H.gn,H.go,⟨_,K0⟩,⟨fun q _ _=>rfl,fun q _ h=>absurd rfl h⟩,fun w hw=>⟨s,t,yar.1 hw,hs,ht,.base⟩,fun f hf=>hf.2 s t (yar.2 rfl),fun c a hc ha _=>?_,?_,fun q a hq ha=>?_⟩
  ·obtain ⟨n1,n2,n3,n4,n5,_⟩:=H.at hc ha;have h1:gx p.Next c a=pnx p c a:=rfl;have h2:gx p.Out c a=pot p c a:=rfl;rw [h1,h2];refine ⟨fun h=>⟨n5.1 h,fun r _ e=>by rw [e];exact h⟩,fun h=>⟨(pnx p c a).toNat,by omega,by omega,⟨c,hc,rfl,by omega,rfl⟩,fun r _ e _=>?_⟩⟩;rw [e];exact ⟨rfl,fun f _=>rfl⟩
  ·have:=repsN_le p.Next.length fun b=>b;simp only [ya6];omega
  ·obtain ⟨n1,n2,_⟩:=H.at hq ha;have h1:gx p.Next q a=pnx p q a:=rfl;rw [h1];by_cases k:pnx p q a=-1
   ·exact .inl k
   ·exact .inr ⟨(pnx p q a).toNat,by omega,by omega⟩
 have hm:∀ (cl:Nat->Nat) (M:List (Int×Int)),UpOk p.Next.length cl M->repsM p.Next.length M=zs3 p.Next.length cl:=fun cl M U=>by
  unfold repsM zs3;refine List.countP_congr fun q hq=>?_;have hq:=ya8.1 hq;by_cases h:cl q=q
  ·rw [U.u0 q hq h,zkB h];simp
  ·obtain ⟨w,_,w2,_⟩:=U.u1 q hq h;rw [w2,zkA h];simp
 refine zaw (step:=fun (q:yaa×yaa×(List (Int×Int))×List T_A2)=>zaf.s46 q.1 q.2.1 q.2.2.1 q.2.2.2) (fun q=>∃ cl,zpb p s t cl q.1 q.2.1 q.2.2.1 q.2.2.2) (fun q=>65*repsM p.Next.length q.2.2.1+q.2.2.2.length) (fun r=>(r=.inr (⟨0,0,[],[]⟩,[],false)∧zme p s t)∨∃ N O M cl,r=.inl (N,O,M)∧zpb p s t cl N O M []) (fun ⟨N,O,M,W⟩ ⟨cl,F⟩=>?_) fuel _ ⟨_,F0⟩ ?_
 ·simp only at F;simp only;rcases fold_step H F with ⟨e1,e2⟩ | ⟨e1,e2⟩ | ⟨N',O',M',W',a0,e1,F',e2⟩
  ·rw [e1] at F;exact .inr ⟨_,e2,.inr ⟨N,O,M,cl,rfl,F⟩⟩
  ·exact .inr ⟨_,e1,.inl ⟨rfl,e2⟩⟩
  ·exact .inl ⟨(N',O',M',W'),e1,⟨a0,F'⟩,by simp only;rw [hm _ _ F.up,hm _ _ F'.up];exact e2⟩
 ·have h1:=hm _ _ F0.up;have h2:=repsN_le p.Next.length fun b=>b;have:=zav;simp only [ya6];omega
theorem zpb.done (H:zda p) (hs:s<p.Next.length) (ht:t<p.Next.length) {cl:Nat->Nat} {N O:yaa} {M:List (Int×Int)} (F:zpb p s t cl N O M []):(∀ q,q<p.Next.length->cl q=clsOf p s t q)∧¬ zme p s t:=by
 obtain ⟨C,K⟩:=F.cls;have a0:Lab p.Next.length cl [] cl:=⟨fun _ _ _ _ h=>h,fun _ _ h=>by cases h⟩;refine cls_done H hs ht K (F.st cl a0) fun a ha q r hq hr e h1 h2=>?_;have hc:cl q<p.Next.length:=by have:=K.le q hq;omega
 obtain ⟨r1,r2⟩:=F.row (cl q) a hc ha (K.idem q hq);by_cases k:gx N (cl q) a=-1
 ·exact absurd ((r1 k).2 q hq rfl) h1
 ·obtain ⟨u,a1,a2,a3,a4⟩:=r2 k;obtain ⟨b1,b2⟩:=a4 q hq rfl h1;obtain ⟨c1,c2⟩:=a4 r hr e.symm h2;exact ⟨b1.trans c1.symm,(b2 cl a0).symm.trans (c2 cl a0)⟩
end
end
section
theorem zhp {α:Type} [DecidableEq α]:∀ {a b:List α},a.Nodup->(∀ x∈a,x∈b)->a.length<=b.length
 | [],_,_,_=>yag _
 | x::a,b,hn,h=>by
  obtain ⟨h1,h2⟩:=yb2.1 hn;have:=zhp (a:=a) (b:=b.erase x) h2 fun y hy=>(yeu (fun e=>h1 (by rw [<- e];exact hy))).2 (h y (yay _ hy));rw [yea (h x ybr)] at this;have hp:0<b.length:=yds (h x ybr);rw [zkL];omega
def addT (L:List Nat) (t:Int):List Nat:=if t=-1∨t.toNat∈L then L else L++[t.toNat]
def bfsL (R:Nat->yab):Nat->Nat->List Nat->List Nat
 | 0,_,L=>L
 | f+1,i,L=>match L[i]? with
  | none=>L
  | some c=>bfsL R f (i+1) ((R c).foldl addT L)
structure NumL (n:Nat) (L:List Nat) (nums:yab):Prop where
 len:nums.length=n
 at_:∀ c,c<n->nums[c]?=some (if c∈L then (↑(L.idxOf c):Int) else -1)
 nd:L.Nodup
 lt:∀ c,c∈L->c<n
theorem NumL.le {n:Nat} {L:List Nat} {nums:yab} (A:NumL n L nums):L.length<=n:=by
 have:=zhp (b:=List.range n) A.nd fun x hx=>ya8.2 (A.lt x hx)
 rwa [ybz] at this
theorem NumL.push {n:Nat} {L:List Nat} {nums:yab} (A:NumL n L nums) {c:Nat} (hc:c<n) (h:c∉L):NumL n (L++[c]) (nums.set c (↑L.length:Int)):=by
 have hl:=A.len;refine ⟨by rw [ybo];exact A.len,fun d hd=>?_,?_,fun d hd=>?_⟩
 ·by_cases e:d=c
  ·subst e;rw [ya7 (by omega),if_pos (yaj _ (yar.2 rfl)),yeh,if_neg h];simp
  ·rw [ybb (by omega),A.at_ d hd];by_cases k:d∈L
   ·rw [if_pos k,if_pos (yam _ k),yeh,if_pos k]
   ·rw [if_neg k,if_neg (fun g=>(yak.1 g).elim k fun g=>e (yar.1 g))]
 ·refine ybi.2 ⟨A.nd,by simp,fun a ha b hb=>?_⟩;rw [yar.1 hb];exact fun g=>h (by rw [<- g];exact ha)
 ·rcases yak.1 hd with k | k
  ·exact A.lt d k
  ·rw [yar.1 k];exact hc
def zh2 (L:List Nat):yab:=L.map fun (c:Nat)=>(↑c:Int)
theorem loop_s18 {n:Nat} {e:yab} (he:∀ (k:Nat) (t:Int),e[k]?=some t->t=-1∨∃ u:Nat,t=(↑u:Int)∧u<n) (hl:e.length<=1000000) {L:List Nat} {nums:yab} (A:NumL n L nums) (hn:n<=1000000) :
  ∃ nums',iter (fun (s:yab×yab×Nat)=>zaj.s18 e s.1 s.2.1 s.2.2) fuel (nums,zh2 L,0)=some (nums',zh2 (e.foldl addT L))∧NumL n (e.foldl addT L) nums':=by
 have key:=zaw (step:=fun (s:yab×yab×Nat)=>zaj.s18 e s.1 s.2.1 s.2.2) (fun s=>s.2.2<=e.length∧∃ L',s.2.1=zh2 L'∧NumL n L' s.1∧(e.drop s.2.2).foldl addT L'=e.foldl addT L) (fun s=>e.length-s.2.2) (fun r=>∃ nums',r=(nums',zh2 (e.foldl addT L))∧NumL n (e.foldl addT L) nums') (fun ⟨y,z,k⟩ ⟨g1,L',g2,g3,g4⟩=>by
  simp only at g1 g2 g3 g4
  subst g2
  simp only [zaj.s18]
  by_cases h:k<e.length
  ·left
   have hx:=get_at h
   have hd:(e.drop k).foldl addT L'=(e.drop (k+1)).foldl addT (addT L' e[k]):=by rw [ycc h,ycu]
   rw [hd] at g4
   rw [zdg hx,zkD,zal hx]
   by_cases t0:e[k]=-1
   ·exact ⟨(y,zh2 L',k+1),by rw [zkA (fun g=>g t0),zkC,zam,zkC],⟨h,L',rfl,g3,by rw [<- g4];unfold addT;rw [if_pos (.inl t0)]⟩,by simp only;omega⟩
   ·obtain ⟨u,hu,a0⟩:=(he k _ hx).resolve_left t0
    have hy:=g3.at_ u a0
    rw [zkB t0,zkD,zbb (i:=u) hu hy,zam]
    by_cases k1:u∈L'
    ·rw [if_pos k1,zkA (by omega),zkC]
     exact ⟨(y,zh2 L',k+1),rfl,⟨h,L',rfl,g3,by rw [<- g4];unfold addT;rw [if_pos (.inr (by rw [hu];exact k1))]⟩,by simp only;omega⟩
    ·have a3:=g3.le
     have a2:(zh2 L').length=L'.length:=by unfold zh2;rw [zkK]
     rw [if_neg k1,zkB rfl,zkD,zbb (i:=u) hu hy,zas (by unfold zaz;omega)]
     refine ⟨(y.set u (↑L'.length:Int),zh2 (L'++[u]),k+1),?_,⟨h,L'++[u],rfl,g3.push a0 k1,?_⟩,by simp only;omega⟩
     ·rw [hu,a2]
      unfold zh2
      rw [ya9,yah]
      rfl
     ·rw [<- g4]
      unfold addT
      rw [if_neg (fun g=>g.elim t0 fun g=>k1 (by rw [hu] at g;exact g)),hu,yah]
  ·right
   have e1:k=e.length:=by omega
   subst e1
   rw [yd0] at g4
   refine ⟨_,by rw [zfb,zkC],y,?_,?_⟩
   ·rw [<- g4];rfl
   ·rw [<- g4];exact g3) fuel (nums,zh2 L,0) ⟨yag _,L,rfl,A,rfl⟩ (by have:=zav;simp only;omega)
 obtain ⟨r,e1,nums',rfl,h⟩:=key;exact ⟨nums',e1,h⟩
structure zrc (p:zac):Prop where
 i1:0<=p.Inputs
 i2:p.Inputs<=64
 n2:p.Next.length<=1000000
 st:∃ c:Nat,p.Start=(↑c:Int)∧c<p.Next.length
 gn:Grid p.Next.length p.Inputs.toNat p.Next
 go:Grid p.Next.length p.Inputs.toNat p.Out
 rng:∀ q a,q<p.Next.length->a<p.Inputs.toNat->gx p.Next q a=-1∨∃ u:Nat,gx p.Next q a=(↑u:Int)∧u<p.Next.length
def ordP (p:zac):List Nat:=bfsL (fun c=>(p.Next[c]?).getD []) (p.Next.length+1) 0 [p.Start.toNat]
theorem zid {x:Nat} (hx:x<=1000000):zc0 (↑x:Int)=some (List.replicate x (-1)):=by
 unfold zc0;rw [zas ⟨by omega,yd4 _,by unfold zaz;omega⟩,yah]
 have key:=zaw (step:=fun (q:yab×Nat)=>zc0.s2 (↑x:Int) q.1 q.2) (fun q=>q.2<=x∧Wrt (fun _=>(-1:Int)) (List.replicate x 0) q.2 q.1) (fun q=>x-q.2) (fun r=>r=List.replicate x (-1)) (fun ⟨y,i⟩ ⟨g1,g2⟩=>by
  simp only at g1 g2
  simp only [zc0.s2,yah,yas]
  have a0:=g2.len
  rw [yas] at a0
  by_cases h:i<x
  ·left
   exact ⟨(y.set i (-1),i+1),by rw [zkB (by omega),zkD,zal (get_at (l:=y) (i:=i) (by omega)),zas (by unfold inR;omega)],⟨h,g2.step (by rw [yas];exact h) rfl⟩,by simp only;omega⟩
  ·right
   refine ⟨_,by rw [zkA (by omega),zkC],?_⟩
   rw [g2.done (by rw [yas];omega),yas]
   exact yce fun b=>by
    by_cases g:b<x
    ·rw [yaf,ybh g,ybk,if_pos g];rfl
    ·rw [yaq (by simp;omega),yaq (by simp;omega)]) fuel (List.replicate x 0,0) ⟨yag _,Wrt.zero _ _⟩ (by have:=zav;simp only;omega)
 obtain ⟨r,e,rfl⟩:=key;rw [e,zam]
theorem loop_s20 {p:zac} (R:zrc p):∃ nums,iter (fun (s:yab×yab×Nat)=>zaj.s20 p s.1 s.2.1 s.2.2) fuel ((List.replicate p.Next.length (-1)).set p.Start.toNat 0,[p.Start],0)=some (nums,zh2 (ordP p))∧NumL p.Next.length (ordP p) nums:=by
 obtain ⟨c,hc,a3⟩:=R.st;have hn:=R.n2
 have A0:NumL p.Next.length [c] ((List.replicate p.Next.length (-1)).set c 0):=by
  have B:NumL p.Next.length [] (List.replicate p.Next.length (-1)):=⟨yas,fun d hd=>by rw [ybk,if_pos hd,if_neg ye3],ycz,fun d hd=>by cases hd⟩;exact B.push a3 ye3
 have key:=zaw (step:=fun (s:yab×yab×Nat)=>zaj.s20 p s.1 s.2.1 s.2.2) (fun s=>∃ L,s.2.1=zh2 L∧s.2.2<=L.length∧NumL p.Next.length L s.1∧bfsL (fun c=>(p.Next[c]?).getD []) (p.Next.length+1-s.2.2) s.2.2 L=ordP p) (fun s=>p.Next.length+1-s.2.2) (fun r=>∃ nums,r=(nums,zh2 (ordP p))∧NumL p.Next.length (ordP p) nums) (fun ⟨y,z,i⟩ ⟨L,g1,g2,g3,g4⟩=>by
  simp only at g1 g2 g3 g4
  subst g1
  simp only [zaj.s20]
  have a6:=g3.le
  have a4:(zh2 L).length=L.length:=by unfold zh2;rw [zkK]
  by_cases h:i<L.length
  ·left
   have hx:=get_at h
   have hq:L[i]<p.Next.length:=g3.lt _ (ya2 h)
   obtain ⟨x,x1,x2⟩:=R.gn.row _ hq
   obtain ⟨a0,e1,e2⟩:=loop_s18 (e:=x) (fun k t hk=>by
    have a5:=(zkI.1 hk).1
    have:=R.rng L[i] k hq (by omega)
    unfold gx at this
    rw [x1,yae,hk,yae] at this
    exact this) (by have:=R.i2;omega) g3 hn
   have a7:=e2.le
   have a2:i+1<=(x.foldl addT L).length:=by
    have:∀ (x:yab) (L:List Nat),L.length<=(x.foldl addT L).length:=by
     intro x
     induction x with
     | nil=>exact fun L=>yap _
     | cons t x ih =>
      intro L
      rw [ycu]
      refine ych ?_ (ih _)
      unfold addT
      split
      ·exact yap _
      ·rw [zkJ];omega
    have:=this x L
    omega
   refine ⟨(a0,zh2 (x.foldl addT L),i+1),?_,⟨_,rfl,a2,e2,?_⟩,by simp only;omega⟩
   ·rw [zkB (by omega),zkD,zal (x:=(↑L[i]:Int)) (by unfold zh2;rw [yaf,hx];rfl),zbb (i:=L[i]) rfl x1,e1,zam]
    rfl
   ·rw [<- g4,show p.Next.length+1-i=(p.Next.length+1-(i+1))+1 by omega]
    simp only [bfsL,hx,x1,yae]
  ·right
   have e1:ordP p=L:=by
    rw [<- g4]
    cases hk:p.Next.length+1-i with
    | zero=>rfl
    | succ k =>
     simp only [bfsL]
     rw [show L[i]?=none from yaq (by omega)]
   exact ⟨_,by rw [zkA (by omega),zkC],y,by rw [e1],by rw [e1];exact g3⟩) fuel ((List.replicate p.Next.length (-1)).set p.Start.toNat 0,[p.Start],0) ⟨[c],by rw [hc];rfl,yag _,by rw [hc];exact A0,by unfold ordP;rw [hc,yah];rfl⟩ (by have:=zav;simp only;omega)
 obtain ⟨r,e1,nums,rfl,h⟩:=key;exact ⟨nums,e1,h⟩
end
end Go.Proofs.YteigfkncoiiaiaaGreatDoor.Sym

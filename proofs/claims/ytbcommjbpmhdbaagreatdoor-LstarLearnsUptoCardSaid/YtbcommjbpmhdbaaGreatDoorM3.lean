/- Parts of the proof. -/
import Derived.Test.YtbcommjbpmhdbaaGreatDoorM2
import Derived.Test.YtbcommjbpmhdbaaGreatDoorCards
import Derived.Test.YtbcommjbpmhdbaaGreatDoorTie
import Derived.ProofKit
import Derived.OpenShut
import Derived.Deep.DeepHandedRow
import Derived.Lib.LaidTab
import Derived.Deep.Slices
import Derived.Lib.Hide
import Derived.Lib.AppendZeros
import Derived.Shelf.SlSortCmp.NoneTotal
import Derived.Lib.OwnBridge
import Derived.Lib.BufferRead
import Derived.WalkSmall
import Derived.Shelf.SlSortCmp.Whole1
import Derived.Shelf.SlSortCmp.WholeK
import Derived.Shelf.SlGeneric
import Derived.Ground.SlsfProg
import Derived.Lib.AppendZerosOnto
import Derived.Lib.Overlaps
import Derived.Lib.Walk
import Derived.Shelf.RegionOpenPlain
import Derived.Laws.NewBlocks
import Derived.Deep.WholeRow
set_option linter.all false
set_option maxRecDepth 100000
set_option maxHeartbeats 4000000
open Go.RowKit
namespace Go.Proofs.YtbcommjbpmhdbaaGreatDoor.Sym
section
def OkOc:Oc→Prop
 | .im x=>Ok x
 | .ow (.row _ _ es)=>OkL es
 | .ow (.grid _ _ _ gs _)=>gs.length≤17592186044416
 | .ow _=>True
def OkOcs:List Oc→Prop
 | []=>True
 | c::l=>OkOc c∧OkOcs l
def OkA:Arg→Prop
 | .im x=>Ok x
 | .ow k=>OkOc (.ow k)
 | .box _ cs=>OkOcs cs
 | .lent k=>OkOc (.ow k)
def OkAs:List Arg→Prop
 | []=>True
 | x::l=>OkA x∧OkAs l
theorem okOc_of {w:World} {S:Nat→Prop} {u:Value}:∀ {c:Oc} {F:List Nat},OcOk w S u c F→OkOc c
 | .im x,_,h=>⟨w,S,u,h.1⟩
 | .ow (.row _ _ es),_,⟨_,_,⟨ws,h1,h2,h3,h4,h5,h6,h7⟩,_⟩=>⟨h3,ok_flat h5 h7⟩
 | .ow (.grid _ _ _ gs _),_,⟨_,_,⟨_,_,_,h,_⟩,_⟩=>h
 | .ow (.map _),_,_=>trivial
 | .ow .dead,_,_=>trivial
 | .ow (.box _ _),_,_=>trivial
 | .ow (.que _ _ _),_,_=>trivial
theorem okOcs_of {w:World} {S:Nat→Prop}:∀ {us:List Value} {cs:List Oc} {F:List Nat},zla w S us cs F→OkOcs cs
 | [],[],_,_=>trivial
 | _::_,_::_,_,⟨_,_,h1,h2,_⟩=>⟨okOc_of h1,okOcs_of h2⟩
 | [],_::_,_,h=>h.elim
 | _::_,[],_,h=>h.elim
theorem okA_of {w:World} {S:Nat→Prop} {u:Value}:∀ {x:Arg} {F:List Nat},ArgOk w S u x F→OkA x
 | .im x,_,h=>⟨w,S,u,h.1⟩
 | .ow k,_,h=>okOc_of (c:=.ow k) h
 | .box _ _,_,⟨_,_,_,_,_,_,h,_⟩=>okOcs_of h
 | .lent k,_,h=>okOc_of (c:=.ow k) h
theorem oks_of {w:World} {S:Nat→Prop}:∀ {us:List Value} {xs:List Arg} {F:List Nat},zd6 w S us xs F→OkAs xs
 | [],[],_,_=>trivial
 | _::_,_::_,_,⟨_,_,h1,h2,_⟩=>⟨okA_of h1,oks_of h2⟩
 | [],_::_,_,h=>h.elim
 | _::_,[],_,h=>h.elim
theorem sp_of {P:Program} {f:FuncId} {fn:Func} {c:Code} {xs:List Arg} {r:Rs} (hm:P.follows .mixedOrders=true) (own:List Nat) (hf:P.funcs[f]?=some fn) (hname:(fn.name=="runtime.NumGoroutine")=false) (hb:fn.body=some c)
  (hn:xs.length≤fn.ntmps) (hok:entOk xs=true) (h:OkAs xs→frcW (entW xs) 0 sig0 fun _ σ=>zmn P (SpX P) fn.ntmps own c (retK P fn.results.toList xs r) σ):Sp P f xs r :=
 sp_of_code hm (C:=SpX P) (fun _ _ _ h=>h) hf hname hb hn hok fun _ _ _ _ ha=>by
  have:=h (oks_of ha);rw [frcW_eq] at this;exact this
inductive FrzL:List Oc→List Oc→Prop
 | nil:FrzL [] []
 | keep (c:Oc) {l l':List Oc} (h:FrzL l l'):FrzL (c::l) (c::l')
 | row {e:TypeId} {k:Nat} {es:List (List IV)} {l l':List Oc} (h:FrzL l l'):FrzL (.ow (.row e k es)::l) (.im (.sl es)::l')
 | grid {e e':TypeId} {k:Nat} {gs:List (List IV)} {l l':List Oc} (h:FrzL l l'):FrzL (.ow (.grid e e' k gs none)::l) (.im (.sl gs)::l')
theorem RepI.up {w:World} {S S':Nat→Prop} (hS:∀ b,S b→S' b) {v:Value} {x:IV} (h:RepI w S v x):RepI w S' v x:=h.mono hS fun _ _ _ h=>h
theorem Sp.frz {P:Program} {g:FuncId} {xs:List Arg} {tp:Bool} {l l':List Oc} {ys:List Arg} (hl:FrzL l l') (h:Sp P g xs (.mk tp l ys)):Sp P g xs (.mk tp l' ys) :=
 ⟨h.1,fun w S vs F hS ha hn hF=>(h.2 w S vs F hS ha hn hF).mono fun e w' ⟨v,F',h1,h2,⟨us,F1,F2,h3,h4,h5,h6⟩,h7,h8⟩=>by
  subst h6
  rw [List.nodup_append] at h7
  -- the frozen blocks leave the footprint
  have hlt:∀ b∈F1,(w.heap.size≤b∨b∈F)∧b<w'.heap.size:=fun b hb=>h8 b (List.mem_append_left _ hb)
  have key:∀ (l l':List Oc),FrzL l l'→∀ (us:List Value) (F1:List Nat) (S:Nat→Prop),zla w' S us l F1→F1.Nodup→∃ Fk,Fk.Sublist F1∧∀ (S':Nat→Prop),(∀ b,S b→S' b)→(∀ b∈F1,b∉Fk→S' b)→zla w' S' us l' Fk:=by
   intro l l' hl
   induction hl with
   | nil =>
    intro us F1 S h _
    match us,h with
    | [],h=>exact ⟨[],List.nil_sublist _,fun _ _ _=>rfl⟩
   | keep c _ ih =>
    intro us F1 S h hnd
    match us,h with
    | u::us,⟨G1,G2,h1,h2,h3⟩ =>
     subst h3
     rw [List.nodup_append] at hnd
     obtain ⟨Fk,a1,a2⟩:=ih us G2 S h2 hnd.2.1
     exact ⟨G1++Fk,List.Sublist.append_left a1 _,fun S' hS hF=>⟨G1,Fk,h1.mono fun u x hr=>hr.up hS,a2 S' hS fun b hb hnb=>hF b (by simp [hb]) fun hm=>by
      rcases List.mem_append.1 hm with hm | hm
      ·exact hnd.2.2 b hm b hb rfl
      ·exact hnb hm,rfl⟩⟩
   | row _ ih =>
    intro us F1 S h hnd
    match us,h with
    | u::us,⟨G1,G2,⟨_,inn,h1,e1⟩,h2,h3⟩ =>
     subst h3
     rw [List.nodup_append] at hnd
     obtain ⟨Fk,a1,a2⟩:=ih us G2 S h2 hnd.2.1
     refine ⟨[]++Fk,(List.nil_append Fk).symm ▸ a1.trans (List.sublist_append_right _ _),fun S' hS hF=>⟨[],Fk,⟨ziu.repI h1 (fun b hb=>?_) fun u x hr=>hr.up hS,rfl⟩,a2 S' hS fun b hb hnb=>hF b (by simp [hb]) (by simpa using hnb),rfl⟩⟩
     have hb1:b∈G1:=by rw [e1];simp [fpk,hb]
     exact ⟨hF b (by simp [hb1]) fun hm=>hnd.2.2 b hb1 b (a1.subset (by simpa using hm)) rfl,rfl⟩
   | grid _ ih =>
    intro us F1 S h hnd
    match us,h with
    | u::us,⟨G1,G2,⟨_,inn,h1,e1⟩,h2,h3⟩ =>
     subst h3
     rw [List.nodup_append] at hnd
     obtain ⟨Fk,a1,a2⟩:=ih us G2 S h2 hnd.2.1
     refine ⟨[]++Fk,(List.nil_append Fk).symm ▸ a1.trans (List.sublist_append_right _ _),fun S' hS hF=>⟨[],Fk,⟨zkc.repI h1 (fun b hb=>?_) fun u x hr=>hr.up hS,rfl⟩,a2 S' hS fun b hb hnb=>hF b (by simp [hb]) (by simpa using hnb),rfl⟩⟩
     have hb1:b∈G1:=by rw [e1];exact hb
     exact ⟨hF b (by simp [hb1]) fun hm=>hnd.2.2 b hb1 b (a1.subset (by simpa using hm)) rfl,rfl⟩
  obtain ⟨Fk,a1,a2⟩:=key l l' hl us F1 _ h4 h7.1
  have hsub:∀ b,b∈Fk++F2→b∈F1++F2:=fun b hb=>by
   rcases List.mem_append.1 hb with hb | hb
   ·exact List.mem_append_left _ (a1.subset hb)
   ·exact List.mem_append_right _ hb
  have hup:∀ b,((S b∨w.heap.size≤b∨b∈F)∧b<w'.heap.size∧b∉F1++F2)→((S b∨w.heap.size≤b∨b∈F)∧b<w'.heap.size∧b∉Fk++F2):=fun b hb=>⟨hb.1,hb.2.1,fun hm=>hb.2.2 (hsub b hm)⟩
  refine ⟨v,Fk++F2,h1,h2,⟨us,Fk,F2,h3,a2 _ hup fun b hb hnb=>⟨.inr (hlt b hb).1,(hlt b hb).2,fun hm=>?_⟩,h5.mono fun u x hr=>hr.up hup,rfl⟩,?_,fun b hb=>h8 b (hsub b hb)⟩
  ·rcases List.mem_append.1 hm with hm | hm
   ·exact hnb hm
   ·exact h7.2.2 b hb b hm rfl
  ·rw [List.nodup_append]
   exact ⟨a1.nodup h7.1,h7.2.1,fun x hx y hy=>h7.2.2 x (a1.subset hx) y hy⟩⟩
theorem Sp.im {P:Program} {g:FuncId} {xs:List Arg} {e:TypeId} {k:Nat} {es:List (List IV)} (h:Sp P g xs (.row e k es)):Sp P g xs (.im (.sl es)):=Sp.frz (.row .nil) h
theorem Sp.args {P:Program} {g:FuncId} {xs ys:List Arg} {r:Rs} (h:Sp P g xs r) (e:ys=xs):Sp P g ys r:=e ▸ h
abbrev cI (x:Int):List IV:=[.val (.int .i64 x)]
abbrev cB (x:Bool):List IV:=[.val (.bool x)]
abbrev cL {α:Type} (c:α→List IV) (l:List α):List IV:=[.sl (l.map c)]
abbrev nI (n:Int):IV:=.val (.int .i64 n)
abbrev nB (b:Bool):IV:=.val (.bool b)
abbrev nS (s:ByteArray):IV:=.val (.string s)
abbrev nL {α:Type} (c:α→List IV) (l:List α):IV:=.sl (l.map c)
instance (n:Int):Decidable (inR n):=by unfold inR;infer_instance
instance (n b:Nat):Decidable (za7 n b):=by unfold za7;infer_instance
def fuel:Nat:=1000000000000000000000
section
variable {α β:Type}
def chk (c:Prop) [Decidable c] (k:Option α):Option α:=if c then k else none
def idx (l:List α) (n:Int) (k:α→Option β):Option β:=if 0≤n then (match l[n.toNat]? with | some x=>k x | none=>none) else none
theorem zan {c:Prop} [Decidable c] {k:Option α} {r:α} (h:chk c k=some r):c∧k=some r:=by
 unfold chk at h;split at h
 ·exact ⟨‹_›,h⟩
 ·cases h
theorem zfb {l:List α} {n:Int} {k:α→Option β} {r:β} (h:idx l n k=some r):∃ x,0≤n∧l[n.toNat]?=some x∧k x=some r:=by
 unfold idx at h;split at h
 ·split at h
  ·rename_i x hx;exact ⟨x,‹_›,hx,h⟩
  ·cases h
 ·cases h
theorem bind_some {o:Option α} {f:α→Option β} {r:β} (h:o.bind f=some r):∃ x,o=some x∧f x=some r:=by
 cases o with
 | none=>cases h
 | some x=>exact ⟨x,rfl,h⟩
theorem zbm {Y Z R:Type} {f:Y→Option R} {g:Z→Option R} {y:Y} {r:R} (h:Sum.elim f g (.inl y)=some r):f y=some r:=h
theorem cond_t {b:Bool} {x y z:α} (hb:b=true) (h:cond b x y=z):x=z:=by rw [hb] at h;exact h
theorem cond_f {b:Bool} {x y z:α} (hb:b=false) (h:cond b x y=z):y=z:=by rw [hb] at h;exact h
def idxn (l:List α) (n:Nat) (k:α→Option β):Option β:=match l[n]? with | some x=>k x | none=>none
theorem zdd {l:List α} {n:Nat} {k:α→Option β} {r:β} (h:idxn l n k=some r):∃ x,l[n]?=some x∧k x=some r:=by
 unfold idxn at h;split at h
 ·rename_i x hx;exact ⟨x,hx,h⟩
 ·cases h
theorem beq_tt {b:Bool} (h:(b==true)=true):b=true:=by cases b<;>simp_all
theorem beq_tf {b:Bool} (h:(b==true)=false):b=false:=by cases b<;>simp_all
theorem beq_ff {b:Bool} (h:(b==false)=true):b=false:=by cases b<;>simp_all
theorem beq_ft {b:Bool} (h:(b==false)=false):b=true:=by cases b<;>simp_all
theorem zbi {b:Bool} (h:b=true):(b==true)=true:=by rw [h];rfl
theorem zbv {b:Bool} (h:b=false):(b==false)=true:=by rw [h];rfl
theorem zfv {b:Bool} (h:b=true):(b==false)=false:=by rw [h];rfl
theorem zf8 {b:Bool} (h:b=false):(b==true)=false:=by rw [h];rfl
theorem zdq {l:List α} {c:α→β} {i:Nat} {x:α} (h:l[i]?=some x):(l.map c)[i]?=some (c x):=by rw [List.getElem?_map,h];rfl
theorem zdr {l:List α} {c:α→β} {i:Nat} {x:α} (h:l[i]?=some x):i<(l.map c).length:=by
 rw [zkK];exact (zkI.1 h).1
theorem zb4 {l:List α} {c:α→List β} {k:Nat} (h:∀ x,(c x).length=k):∀ e∈l.map c,e.length=k:=fun e he=>by
 obtain ⟨x,_,rfl⟩:=List.mem_map.1 he;exact h x
theorem zal {l:List α} {c:α→β}:l.length=(l.map c).length:=(zkK _).symm
theorem zcq {l m:List α} {c:α→β}:(l++m).map c=l.map c++m.map c:=List.map_append
theorem zp1 {l:List α} {c:α→β} {n:Nat}:(l.take n).map c=((l.map c).take n).drop 0:=by rw [List.map_take];rfl
theorem drop_map {l:List α} {c:α→β} {n:Nat}:(l.drop n).map c=((l.map c).take ((l.map c).length:Int).toNat).drop n:=by rw [List.map_drop,Int.toNat_natCast,List.take_length]
theorem zq0 {l:List α} {c:α→List β} {i:Nat} {x y:α} {j:Nat} {xs:List β} (h:c y=splice (c x) j xs):(l.set i y).map c=(l.map c).set i (splice (c x) j xs):=by rw [List.map_set,h]
end
abbrev wI (n:Int):Value:=.int .i64 n
abbrev wB (b:Bool):Value:=.bool b
abbrev wS (s:ByteArray):Value:=.string s
section
variable {κ ν:Type}
def mapV (f:κ→Value) (g:ν→Value) (m:List (κ×ν)):List (Value×Value):=m.map fun p=>(f p.1,g p.2)
def mget [BEq κ] (k:κ):List (κ×ν)→Option ν
 | []=>none
 | p::m=>match k==p.1 with | true=>some p.2 | false=>mget k m
def mset [BEq κ] (k:κ) (v:ν):List (κ×ν)→List (κ×ν)
 | []=>[(k,v)]
 | p::m=>match k==p.1 with | true=>(k,v)::m | false=>p::mset k v m
theorem find_str (k:ByteArray) (g:ν→Value):∀ m:List (ByteArray×ν),findV .string (.string k) (mapV wS g m)=some ((mget k m).map g)
 | []=>rfl
 | p::m=>by
  have ih:=find_str k g m;unfold mapV at ih ⊢;rw [List.map_cons];unfold findV mget;simp only [Instr.sameNow];cases k==p.1 with
  | true=>rfl
  | false=>exact ih
theorem set_str (k:ByteArray) (v:ν) (g:ν→Value):∀ m:List (ByteArray×ν),setV .string (.string k) (g v) (mapV wS g m)=some (mapV wS g (mset k v m))
 | []=>rfl
 | p::m=>by
  have ih:=set_str k v g m;unfold mapV at ih ⊢;rw [List.map_cons];unfold setV mset;simp only [Instr.sameNow];cases k==p.1 with
  | true=>rfl
  | false=>simp only [ih];rfl
theorem getD_map {g:ν→Value} {d:ν} {z:Value} (h:g d=z) (o:Option ν):g (o.getD d)=(o.map g).getD z:=by cases o<;>simp [h]
theorem isSome_map {g:ν→Value} (o:Option ν):o.isSome=(o.map g).isSome:=by cases o<;>rfl
theorem clr_map {α β:Type} {c:α→β} {z:α} {e:β} {l:List α} {k:Nat} (hc:c z=e):(l.take k++List.replicate (l.length-k) z).map c=(l.map c).take k++List.replicate ((l.map c).length-k) e:=by rw [List.map_append,List.map_take,List.map_replicate,zkK,hc]
theorem cut_own {α β:Type} {c:α→β} {l:List α} {k:Nat}:(l.take k).map c=(l.map c).take k:=List.map_take
theorem len_own {α β:Type} {c:α→β} {l:List α} {k:Nat}:l.length-k=(l.map c).length-k:=by rw [zkK]
theorem rep_map {α β:Type} {c:α→β} {z:α} {e:β} {n m:Nat} (h:n=m) (hc:c z=e):(List.replicate n z).map c=List.replicate m e:=by rw [List.map_replicate,h,hc]
end
theorem flat_one {v:Value}:flatRs (.mk false [.im (.val v)] []):=⟨fun c hc=>by rcases List.mem_singleton.1 hc with rfl;exact Or.inl ⟨v,rfl⟩,fun y hy=>by cases hy⟩
theorem zag {α:Type} {c:α→List IV} {l:List α} (h:Ok (.sl (l.map c))):l.length≤17592186044416:=by have:=h.sl.1;rwa [zkK] at this
theorem zqg {α:Type} {c:α→List IV} {l:List α} (h:OkL (l.map c)):l.length≤17592186044416:=by have:=h.1;rwa [zkK] at this
theorem Holds.avl {σ:St} {α:Type} {c:α→List IV} {l:List α} (t:Nat) (h:σ.av t=.im (.sl (l.map c))):Holds σ (l.length≤17592186044416):=(Holds.av t h).mono zag
theorem Holds.cel {σ:St} {α:Type} {c:α→List IV} {l:List α} (o i:Nat) {t:TypeId} {m:Nat} (hk:σ.kd o=.box t m) (hi:i<m) (h:σ.ce o i=.im (.sl (l.map c))):Holds σ (l.length≤17592186044416):=(Holds.ce o i hk hi h).mono zag
theorem set_grid1 {α:Type} {c:α→List IV} {g:List (List α)} {i:Nat} {r:List α}:(g.set i r).map (cL c)=(g.map (cL c)).set i [.sl (r.map c)]:=by rw [List.map_set]
theorem set_grid2 {α:Type} {c:α→List IV} {g:List (List α)} {i j k:Nat} {ev:List α} {x y:α} {xs:List IV} (h:c y=splice (c x) k xs):(g.set i (ev.set j y)).map (cL c)=(g.map (cL c)).set i [.sl ((ev.map c).set j (splice (c x) k xs))]:=by
 rw [← h,List.map_set];show (g.map (cL c)).set i [.sl ((ev.set j y).map c)]=_;rw [List.map_set]
theorem Holds.kdg {σ:St} {α:Type} {c:α→List IV} {l:List α} (o:Nat) {e e':TypeId} {k:Nat} {q:Option Nat} (hk:σ.kd o=.grid e e' k (l.map c) q):Holds σ (l.length≤17592186044416):=fun B a w ⟨ρ,hs⟩=>by
 have ho:=hs.obs o;rw [hk] at ho;obtain ⟨_,_,us,h,_⟩:=ho;simpa using h
theorem Holds.kdl {σ:St} {α:Type} {c:α→List IV} {l:List α} (o:Nat) {t:TypeId} {k:Nat} (hk:σ.kd o=.row t k (l.map c)):Holds σ (l.length≤17592186044416):=(Holds.kd o hk).mono zqg
def zc0 {Y Z:Type} (oc:Y⊕Z) (st:Y→St) (σ':St):Prop:=∃ y,oc=.inl y∧Ent σ' (st y)
theorem Cut.mkS {Y Z:Type} (oc:Y⊕Z) (st:Y→St) (φ:Y→Prop) {body:(St→Prop)→Prop} {rest:St→Prop} (hφ:∀ y,Holds (st y) (φ y)) (h:body (zc0 oc st)) (k:∀ y,oc=.inl y→φ y→rest (st y)):Cut body rest:=by
 unfold Cut;have e:zc0 oc st=fun σ'=>∃ σ1,Ent σ' σ1∧∃ y,oc=.inl y∧σ1=st y:=funext fun σ'=>propext ⟨fun ⟨y,h1,h2⟩=>⟨_,h2,y,h1,rfl⟩,fun ⟨σ1,h1,y,h2,h3⟩=>⟨y,h2,h3 ▸ h1⟩⟩;rw [e] at h;refine ⟨fun σ1=>∃ y,oc=.inl y∧σ1=st y,h,?_⟩;rintro σ ⟨y,h1,rfl⟩;exact ⟨φ y,hφ y,k y h1⟩
attribute [irreducible] zc0
theorem zc0.mk' {Y Z:Type} {oc:Y⊕Z} {st:Y→St} {σ':St} (y:Y) (h:oc=.inl y) (e:Ent σ' (st y)):zc0 oc st σ':=by unfold zc0;exact ⟨y,h,e⟩
abbrev zlA:=@bind_some
abbrev zlB:=@Side.mk
abbrev zlC:=@Both.mk
abbrev zlD:=@Both.yes
abbrev zlE:=@Both.no
abbrev zlF:=@Nf.mk
abbrev zlG:=@Join.mk
abbrev zlH:=@Holds.avl
abbrev zlI:=@Ok.agg_at
abbrev zlJ:=@Cut.mkS
abbrev zlK:=@Nxt.mk
end
structure zab where
 Inputs:Int
 Start:Int
 Next:List (List Int)
 Out:List (List Int)
 deriving DecidableEq
def zaf (s:zab):List IV:=[nI s.Inputs,nI s.Start,nL (cL cI) s.Next,nL (cL cI) s.Out]
structure zp9 where
 Step:List Int
 Reset:Int
 deriving DecidableEq
structure zrk where
 Lost:Int
 Wrong:Int
 Crash:Int
 deriving DecidableEq
structure ze9 where
 M:zab
 State:Int
 Ready:Bool
 Latency:zp9
 Faults:zrk
 Seed:Int
 Steps:Int
 Resets:Int
 Time:Int
 deriving DecidableEq
structure zaa where
 In:List Int
 Out:List Int
 deriving DecidableEq
def zae (s:zaa):List IV:=[nL cI s.In,nL cI s.Out]
structure zad where
 Inputs:Int
 Traces:List zaa
 deriving DecidableEq
def zbh (s:zad):List IV:=[nI s.Inputs,nL zae s.Traces]
structure zik where
 Device:ze9
 Obs:zad
 Votes:Int
 Tries:Int
 Asked:Int
 Hits:Int
 deriving DecidableEq
structure zac where
 Inputs:Int
 Prefixes:List (List Int)
 Suffixes:List (List Int)
 deriving DecidableEq
def zas (s:zac):List IV:=[nI s.Inputs,nL (cL cI) s.Prefixes,nL (cL cI) s.Suffixes]
structure T_api_Baseline where
 M:zab
 Words:List (List Int)
 deriving DecidableEq
structure T_api_Report where
 Run:Int
 Changes:List zaa
 deriving DecidableEq
structure zrn where
 Inputs:Int
 Abstract:Int
 Start:Int
 Next:List (List Int)
 Sym:List (List Int)
 deriving DecidableEq
structure T_api_Clash where
 Word:List Int
 First:Int
 Second:Int
 deriving DecidableEq
structure zb0 where
 M:zab
 Access:List (List Int)
 deriving DecidableEq
def zkr (s:zb0):List IV:=[nI s.M.Inputs,nI s.M.Start,nL (cL cI) s.M.Next,nL (cL cI) s.M.Out,nL (cL cI) s.Access]
structure T_api_Part where
 Inputs:Int
 Start:Int
 Next:List (List Int)
 Out:List (List Int)
 deriving DecidableEq
structure zwl where
 Inputs:Int
 Short:List (List Int)
 Suffixes:List (List Int)
 deriving DecidableEq
structure T_api_Split where
 Prefix:List Int
 Symbol:Int
 Suffix:List Int
 deriving DecidableEq
structure T_learnerlaw28_Case where
 M:zab
 O:zad
 L:zwl
 S:T_api_Split
 deriving DecidableEq
structure T_learnerlaw35_Parts where
 P:T_api_Part
 W:List Int
 S:Int
 T:Int
 Out:Int
 deriving DecidableEq
structure zc2 where
 Mealy:zab
 deriving DecidableEq
def ztx (s:zc2):List IV:=[nI s.Mealy.Inputs,nI s.Mealy.Start,nL (cL cI) s.Mealy.Next,nL (cL cI) s.Mealy.Out]
structure zb7 where
 machine:zc2
 at_:Int
 deriving DecidableEq
structure T_api_Mutation where
 Kind:Int
 State:Int
 Input:Int
 Value:Int
 Value2:Int
 deriving DecidableEq
structure T_regress_runner where
 m:zab
 report:T_api_Report
 deriving DecidableEq
structure zau where
 rows:List (List (List Int))
 prefixes:List Int
 next:List (List Int)
 number:List (ByteArray×Int)
 deriving DecidableEq
def zco (s:zau):List IV:=[nL (cL (cL cI)) s.rows,nL cI s.prefixes,nL (cL cI) s.next,.any]
structure T_refine_reached where
 m:zab
 states:List Int
 words:List (List Int)
 class_:List Int
 deriving DecidableEq
structure T_mapper_set where
 list:List Int
 word:List Int
 deriving DecidableEq
structure T_mapper_builder where
 m:zab
 p:zrn
 sets:List T_mapper_set
 of:List (ByteArray×Int)
 deriving DecidableEq
structure T_evidence_candidate where
 score:Int
 blue:Int
 red:Int
 deriving DecidableEq
structure T_lazy_reader where
 l:zwl
 o:zad
 missing:List (List Int)
 long:Bool
 deriving DecidableEq
structure T_nondet_group where
 word:List Int
 before:List Int
 least:List Int
 deriving DecidableEq
structure T_device_unit where
 Device:ze9
 deriving DecidableEq
structure zc8 where
 s:Int
 t:Int
 deriving DecidableEq
def zm3 (s:zc8):List IV:=[nI s.s,nI s.t]
structure T_mapper_runner where
 Mapper:zrn
 state:Int
 deriving DecidableEq
structure T_cover_place where
 state:Int
 word:List Int
 deriving DecidableEq
structure T_A2 where
 f0:Int
 f1:Int
 deriving DecidableEq
structure T_merge_blocks_int_ where
 up:List (Int×Int)
 deriving DecidableEq
structure zbf where
 at_:zc8
 word:List Int
 deriving DecidableEq
def zff (s:zbf):List IV:=[nI s.at_.s,nI s.at_.t,nL cI s.word]
structure T_A2_api_Mealy where
 f0:zab
 f1:zab
 deriving DecidableEq
structure T_learnerref09_Pair where
 S:Int
 T:Int
 Word:List Int
 deriving DecidableEq
structure T_api_DNode where
 Leaf:Bool
 Access:List Int
 Suffix:List Int
 Outs:List (List Int)
 Kids:List Int
 deriving DecidableEq
structure T_api_DTree where
 Nodes:List T_api_DNode
 deriving DecidableEq
structure ztz where
 Inputs:Int
 Tree:T_api_DTree
 deriving DecidableEq
structure T_treelearn_learner where
 TreeState:ztz
 o:zad
 deriving DecidableEq
structure T_analyze_subject where
 h:zb0
 o:zad
 w:List Int
 states:List Int
 outs:List Int
 deriving DecidableEq
structure T_treelearn_extension where
 w:List Int
 node:Int
 deriving DecidableEq
end Go.Proofs.YtbcommjbpmhdbaaGreatDoor.Sym
namespace Go.Proofs.YtbcommjbpmhdbaaGreatDoor
section
open Go.ChangeShapes Go.WideShapes Go.ChangeAt Go.RowKit
theorem Tryz.own:ownKnob Tryz.prog.godebug=none:=by kernel_rfl
theorem Tryz.laidOut:laidOutB Tryz.prog=true:=by kernel_rfl
noncomputable def laidWorld (os:Os):World :=
 let w0:=World.holding Tryz.prog os ⟨#[],#[],[]⟩
 let h0:=w0.heap
 let h1:=h0.modify 0 fun
   | .cells _ t frozen=>.cells #[.int .u64 1,.int .u64 10,.int .u64 100,.int .u64 1000,.int .u64 10000,.int .u64 100000,.int .u64 1000000,.int .u64 10000000,.int .u64 100000000,.int .u64 1000000000,.int .u64 10000000000,.int .u64 100000000000,.int .u64 1000000000000,.int .u64 10000000000000,.int .u64 100000000000000,.int .u64 1000000000000000,.int .u64 10000000000000000,.int .u64 100000000000000000,.int .u64 1000000000000000000,.int .u64 10000000000000000000] t frozen
   | o=>o
 let h2:=h1.modify 1 fun
   | .cells _ t frozen=>.cells #[.int .u8 0,.int .u8 1,.int .u8 28,.int .u8 2,.int .u8 29,.int .u8 14,.int .u8 24,.int .u8 3,.int .u8 30,.int .u8 22,.int .u8 20,.int .u8 15,.int .u8 25,.int .u8 17,.int .u8 4,.int .u8 8,.int .u8 31,.int .u8 27,.int .u8 13,.int .u8 23,.int .u8 21,.int .u8 19,.int .u8 16,.int .u8 7,.int .u8 26,.int .u8 12,.int .u8 18,.int .u8 6,.int .u8 11,.int .u8 5,.int .u8 10,.int .u8 9] t frozen
   | o=>o
 let h3:=h2.modify 2 fun
   | .cells _ t frozen=>.cells #[.int .u8 0,.int .u8 1,.int .u8 56,.int .u8 2,.int .u8 57,.int .u8 49,.int .u8 28,.int .u8 3,.int .u8 61,.int .u8 58,.int .u8 42,.int .u8 50,.int .u8 38,.int .u8 29,.int .u8 17,.int .u8 4,.int .u8 62,.int .u8 47,.int .u8 59,.int .u8 36,.int .u8 45,.int .u8 43,.int .u8 51,.int .u8 22,.int .u8 53,.int .u8 39,.int .u8 33,.int .u8 30,.int .u8 24,.int .u8 18,.int .u8 12,.int .u8 5,.int .u8 63,.int .u8 55,.int .u8 48,.int .u8 27,.int .u8 60,.int .u8 41,.int .u8 37,.int .u8 16,.int .u8 46,.int .u8 35,.int .u8 44,.int .u8 21,.int .u8 52,.int .u8 32,.int .u8 23,.int .u8 11,.int .u8 54,.int .u8 26,.int .u8 40,.int .u8 15,.int .u8 34,.int .u8 20,.int .u8 31,.int .u8 10,.int .u8 25,.int .u8 14,.int .u8 19,.int .u8 9,.int .u8 13,.int .u8 8,.int .u8 7,.int .u8 6] t frozen
   | o=>o
 { w0 with heap:=h3 }
end
end Go.Proofs.YtbcommjbpmhdbaaGreatDoor
namespace Go.Proofs.YtbcommjbpmhdbaaGreatDoor.Sym
section
open Go.ChangeShapes Go.WideShapes Go.ChangeAt Go.RowKit Go.Deep
section
variable {H:Type} {enc:TypeId×Value→H} {W:World} {α β:Type}
theorem bulk_pos (d:DataW H):1≤Rows.uptoBulk d:=by
 cases d with
 | lit l=>cases l<;>simp [Rows.uptoBulk]
 | nil=>simp [Rows.uptoBulk]
 | ptr d=>simp [Rows.uptoBulk]
 | slice elems spare=>simp [Rows.uptoBulk]
 | agg parts=>simp [Rows.uptoBulk]
 | iface t d=>simp [Rows.uptoBulk]
 | map entries=>simp [Rows.uptoBulk]
 | held h=>simp [Rows.uptoBulk]
theorem bulk_mem {d:DataW H} {l:List (DataW H)} (h:d∈l):Rows.uptoBulk d≤Rows.uptoBulkAll l:=by
 induction l with
 | nil=>cases h
 | cons x r ih =>
  simp only [Rows.uptoBulkAll];rcases List.mem_cons.1 h with e | e
  ·subst e;omega
  ·have:=ih e;omega
theorem zue (l r:List (DataW H)):Rows.uptoBulkAll (l++r)=Rows.uptoBulkAll l+Rows.uptoBulkAll r:=by
 induction l with
 | nil=>simp [Rows.uptoBulkAll]
 | cons x l ih=>simp only [List.cons_append,Rows.uptoBulkAll,ih];omega
theorem bulk_length (l:List (DataW H)):l.length≤Rows.uptoBulkAll l:=by
 induction l with
 | nil=>simp [Rows.uptoBulkAll]
 | cons x r ih=>have:=bulk_pos x;simp only [Rows.uptoBulkAll,zkL];omega
theorem bulk_small {l:List (DataW H)} (hk:Rows.uptoSmall H l=true):Rows.uptoBulkAll l≤1048576:=by
 simpa [Rows.uptoSmall] using hk
def lowS (W:World):Nat→Prop:=fun b=>b<W.heap.size
def Opn (W:World) (enc:TypeId×Value→H) (t:TypeId) (c:α→List IV) (sz:α→Nat) (ok:α→Prop):Prop :=
 ∀ (fuel:Nat) (cs:List Value) (d:DataW H) (ps:List MemPlace),DataW.trod enc Tryz.prog W 0 (fun _=>true) true fuel t cs=some (d,ps)→Rows.uptoBulk d≤1048576 →
  ∃ x,zj0 W (lowS W) cs (c x)∧(∀ u∈cs,u.oneCell'=true)∧sz x≤Rows.uptoBulk d∧ok x
def sz1 {α:Type} (_:α):Nat:=1
def szL (sz:α→Nat) (l:List α):Nat:=(l.map sz).sum+1
def okL (ok:α→Prop) (l:List α):Prop:=∀ x∈l,ok x
def okT {α:Type} (_:α):Prop:=True
theorem opn_int:Opn W enc 3 cI sz1 inR:=by
 intro fuel cs d ps h hd;cases fuel with
 | zero=>simp [DataW.trod] at h
 | succ f =>
  unfold DataW.trod at h;rw [Tryz.underlying3] at h;split at h<;>try (cases h;done)
  all_goals (try (rename_i e;cases e;done))
  rename_i k k' n e;injection e with e
  injection e with e
  subst e;split at h
  ·rename_i hw;injection h with h
   injection h with h1 h2
   subst h1;obtain ⟨rfl,hw⟩:=hw;refine ⟨n,⟨rfl,fun i u x hu hx=>?_⟩,fun u hu=>?_,by simp [sz1,Rows.uptoBulk],?_⟩
   ·match i,hu,hx with
    | 0,hu,hx =>
     simp at hu hx;subst hu hx;exact .val _
   ·rcases List.mem_singleton.1 hu with rfl;rfl
   ·simp [Lit.wf,IntKind.min,IntKind.max,IntKind.wrap,IntKind.bits,IntKind.signed] at hw;unfold inR;omega
  ·cases h
theorem opn_elems {t:TypeId} {c:α→List IV} {sz:α→Nat} {ok:α→Prop} {k b o:Nat} (hc:∀ x,(c x).length=k) (D:Nat→DataW H):∀ (n:Nat),
  (∀ i,i<n→∃ (x:α) (cs:List Value),(∀ j,j<k→W.cell? ⟨b,o+(i*k+j),none⟩=cs[j]?)∧zj0 W (lowS W) cs (c x)∧(∀ u∈cs,u.oneCell'=true)∧sz x≤Rows.uptoBulk (D i)∧ok x) →
  ∃ (xs:List α) (us:List Value),xs.length=n∧us.length=n*k∧(∀ (i:Nat) u,us[i]?=some u→W.cell? ⟨b,o+i,none⟩=some u)∧zj0 W (lowS W) us (xs.map c).flatten∧(∀ u∈us,u.oneCell'=true) ∧
   (xs.map sz).sum≤Rows.uptoBulkAll ((List.range n).map D)∧∀ x∈xs,ok x
 | 0,_=>⟨[],[],rfl,by simp,by simp,⟨rfl,by simp⟩,by simp,by simp,by simp⟩
 | n+1,h=>by
  obtain ⟨xs,us,h1,h2,h3,h4,h5,h6,h7⟩:=opn_elems (t:=t) hc D n fun i hi=>h i (by omega);obtain ⟨x,cs,g1,g2,g3,g4,g5⟩:=h n (by omega);have hcl:cs.length=k:=by rw [g2.1,hc]
  have hfl:(xs.map c).flatten.length=n*k:=by rw [← h4.1,h2]
  refine ⟨xs++[x],us++cs,by simp [h1],by rw [zkJ,h2,hcl,Nat.add_mul];omega,fun i u hu=>?_,⟨?_,fun i u y hu hy=>?_⟩,fun u hu=>?_,?_,fun y hy=>?_⟩
  ·rw [List.getElem?_append] at hu;split at hu
   ·exact h3 i u hu
   ·rename_i hlt;have hj:=(zkI.1 hu).1;have:=g1 (i-us.length) (by omega);rw [hu,show o+(n*k+(i-us.length))=o+i by omega] at this;exact this
  ·rw [List.map_append,List.flatten_append,zkJ,zkJ,h4.1];simp [g2.1]
  ·rw [List.map_append,List.flatten_append,List.getElem?_append] at hy;rw [List.getElem?_append] at hu;by_cases hlt:i<us.length
   ·rw [if_pos hlt] at hu;rw [if_pos (by rw [hfl,← h2];exact hlt)] at hy;exact h4.2 i u y hu hy
   ·rw [if_neg hlt] at hu;rw [if_neg (by rw [hfl,← h2];exact hlt),hfl,← h2] at hy;simp only [List.map_cons,List.map_nil,List.flatten_cons,List.flatten_nil,List.append_nil] at hy;exact g2.2 _ u y hu hy
  ·rcases List.mem_append.1 hu with hu | hu
   ·exact h5 u hu
   ·exact g3 u hu
  ·rw [List.range_succ,List.map_append,List.map_append,List.sum_append,zue];simp only [List.map_cons,List.map_nil,List.sum_cons,List.sum_nil,Rows.uptoBulkAll];omega
  ·rcases List.mem_append.1 hy with hy | hy
   ·exact h7 y hy
   ·rcases List.mem_singleton.1 hy with rfl;exact g5
theorem opn_slice {t e:TypeId} {c:α→List IV} {sz:α→Nat} {ok:α→Prop} {k:Nat} (ht:Tryz.prog.underlying t=some (.slice e)) (hk:Tryz.prog.cellsOf e=k) (hk0:0<k) (hc:∀ x,(c x).length=k) (O:Opn W enc e c sz ok) :
  Opn W enc t (cL c) (szL sz) (okL ok):=by
 intro fuel cs d ps h hd;rcases open_slice ht h with ⟨rfl,hx⟩ | ⟨a,len,cap,m,n,D,Pl,rfl,_,hl,_,hm,hx,hel⟩
 ·injection hx with hx1 hx2
  subst hx1;refine ⟨[],⟨rfl,fun i u x hu hx=>?_⟩,fun u hu=>?_,by simp [szL,Rows.uptoBulk],fun x hx=>by cases hx⟩
  ·match i,hu,hx with
   | 0,hu,hx =>
    simp at hu hx;subst hu hx;exact .emp _ _
  ·rcases List.mem_singleton.1 hu with rfl;rfl
 ·injection hx with hx1 hx2
  subst hx1;simp only [if_true] at hm;subst hm
  have hbulk:Rows.uptoBulkAll ((List.range len).map D)+1≤Rows.uptoBulk (.slice ((List.range len).map D) ((List.range (m-len)).map fun j=>D (len+j))):=by
   simp only [Rows.uptoBulk];omega
  have hlen:len≤1048576:=by
   have:=bulk_length ((List.range len).map D);simp at this;omega
  by_cases h0:len=0
  ·subst h0;refine ⟨[],⟨rfl,fun i u x hu hx=>?_⟩,fun u hu=>?_,by simp [szL,Rows.uptoBulk],fun x hx=>by cases hx⟩
   ·match i,hu,hx with
    | 0,hu,hx =>
     simp at hu hx;subst hu hx;exact .emp _ _
   ·rcases List.mem_singleton.1 hu with rfl;rfl
  ·obtain ⟨ab,ao,asp⟩:=a;rw [hk] at hel
   have hsp:asp=none:=by
    obtain ⟨cs',h1,_⟩:=hel 0 (by omega);obtain ⟨_,hl',hcell⟩:=World.cells?_some h1;have h2:=hcell 0 hk0;rw [zkM (by omega)] at h2;unfold World.cell? Addr.add at h2;simp only [Nat.zero_mul,if_true] at h2;cases asp with
    | none=>rfl
    | some q =>
     simp at h2;split at h2<;>simp at h2
   subst hsp
   obtain ⟨xs,us,h1,h2,h3,h4,h5,h6,h7⟩:=opn_elems (W:=W) (t:=e) (sz:=sz) (ok:=ok) (b:=ab) (o:=ao) hc D len fun i hi=>by
    obtain ⟨cs',e1,e2⟩:=hel i (by omega);obtain ⟨_,hl',hcell⟩:=World.cells?_some e1;obtain ⟨x,r1,r2,r3,r4⟩:=O _ _ _ _ e2 (Nat.le_trans (bulk_mem (List.mem_map.2 ⟨i,List.mem_range.2 hi,rfl⟩)) (by omega));refine ⟨x,cs',fun j hj=>?_,r1,r2,r3,r4⟩;have:=hcell j hj;rw [addr_add,addr_add,Nat.add_assoc] at this;exact this
   have hblk:ab<W.heap.size:=by
    have hu0:0<us.length:=by rw [h2];exact Nat.mul_pos (by omega) hk0
    exact World.block_lt_of_cell? W _ (h3 0 _ (zkM hu0))
   refine ⟨xs,⟨rfl,fun i u x hu hx=>?_⟩,fun u hu=>?_,?_,h7⟩
   ·match i,hu,hx with
    | 0,hu,hx =>
     simp at hu hx;subst hu hx;refine .sl ab ao m k len (xs.map c) us (by simp [h1]) (fun e he=>by obtain ⟨y,_,rfl⟩:=List.mem_map.1 he;exact hc y) hl (by omega) hblk h4.1 h5 h3 h4.2
   ·rcases List.mem_singleton.1 hu with rfl;rfl
   ·show (xs.map sz).sum+1≤_;omega
def OpnFs (W:World) (enc:TypeId×Value→H) (fs:List Field) (off len:Nat) (c:α→List IV) (sz:α→Nat) (ok:α→Prop):Prop :=
 ∀ (n:Nat) (cs:List Value) (xs:List (DataW H×List MemPlace)),xs.length=fs.length →
  (∀ (i:Nat) f,fs[i]?=some f→DataW.trod enc Tryz.prog W 0 (fun _=>true) true n f.type ((cs.drop f.offset).take (Tryz.prog.cellsOf f.type))=xs[i]?)→Rows.uptoBulkAll (xs.map (·.1))≤1048576 →
  ∃ x,zj0 W (lowS W) ((cs.drop off).take len) (c x)∧(∀ u∈(cs.drop off).take len,u.oneCell'=true)∧sz x≤Rows.uptoBulkAll (xs.map (·.1))∧ok x
theorem opnFs_nil {off:Nat}:OpnFs W enc [] off 0 (fun _:Unit=>[]) (fun _=>0) okT:=by
 intro n cs xs hx h hb;exact ⟨(),⟨by simp,by simp⟩,by simp,Nat.zero_le _,trivial⟩
theorem znp {f:Field} {fs:List Field} {off k len:Nat} {c1:α→List IV} {c2:β→List IV} {s1:α→Nat} {s2:β→Nat} {ok1:α→Prop} {ok2:β→Prop} (ho:f.offset=off) (hk:Tryz.prog.cellsOf f.type=k)
  (O:Opn W enc f.type c1 s1 ok1) (hc:∀ x,(c1 x).length=k) (R:OpnFs W enc fs (off+k) len c2 s2 ok2) :
  OpnFs W enc (f::fs) off (k+len) (fun p:α×β=>c1 p.1++c2 p.2) (fun p=>s1 p.1+s2 p.2) (fun p=>ok1 p.1∧ok2 p.2):=by
 intro n cs xs hx h hb
 match xs,hx with
 | x::xs,hx =>
  have e0:=h 0 f rfl;rw [ho,hk] at e0;simp only [List.map_cons,Rows.uptoBulkAll] at hb;obtain ⟨a,r1,r2,r3,r4⟩:=O n _ x.1 x.2 e0 (by omega)
  obtain ⟨b,q1,q2,q3,q4⟩:=R n cs xs (by simpa using hx) (fun i g hg=>by
   have:=h (i+1) g (by simpa using hg)
   simpa using this) (by omega)
  have hsplit:(cs.drop off).take (k+len)=(cs.drop off).take k++(cs.drop (off+k)).take len:=by
   rw [List.take_add,List.drop_drop]
  have hl1:((cs.drop off).take k).length=(c1 a).length:=r1.1;refine ⟨(a,b),?_,fun u hu=>?_,by simp only [List.map_cons,Rows.uptoBulkAll];omega,r4,q4⟩
  ·rw [hsplit];refine ⟨by rw [zkJ,zkJ,r1.1,q1.1],fun i u y hu hy=>?_⟩;rw [List.getElem?_append,hl1] at hu;rw [List.getElem?_append] at hy;split at hu
   ·rename_i hlt;rw [if_pos hlt] at hy;exact r1.2 i u y hu hy
   ·rename_i hlt;rw [if_neg hlt] at hy;exact q1.2 _ u y hu hy
  ·rw [hsplit] at hu;rcases List.mem_append.1 hu with hu | hu
   ·exact r2 u hu
   ·exact q2 u hu
theorem opn_struct {t:TypeId} {fs:Array Field} {len:Nat} {c:α→List IV} {sz:α→Nat} {ok:α→Prop} {c':β→List IV} {sz':β→Nat} {ok':β→Prop} (ht:Tryz.prog.underlying t=some (.struct fs)) (hl:Tryz.prog.cellsOf t=len)
  (R:OpnFs W enc fs.toList 0 len c sz ok) (conv:α→β) (hc:∀ p,c' (conv p)=c p) (hs:∀ p,sz' (conv p)=sz p+1) (ho:∀ p,ok p→ok' (conv p)):Opn W enc t c' sz' ok':=by
 intro fuel cs d ps h hd;obtain ⟨xs,n,rfl,hx,hcl,hxl,hf⟩:=DataW.trod_struct ht h;injection hx with hx1 hx2
 subst hx1;simp only [Rows.uptoBulk] at hd;obtain ⟨x,r1,r2,r3,r4⟩:=R n cs xs (by rw [hxl];simp) (fun i f hi=>hf i f (by simpa using hi)) (by omega);rw [hl] at hcl;have e:(cs.drop 0).take len=cs:=by rw [List.drop_zero,← hcl,List.take_length]
 rw [e] at r1 r2;refine ⟨conv x,by rw [hc];exact r1,r2,?_,ho x r4⟩;rw [hs];simp only [Rows.uptoBulk];omega
theorem arg_struct {t:TypeId} {fs:Array Field} {v:Value} {d:DataW H} {p:List MemPlace} {base:Nat} {c:α→List IV} {sz:α→Nat} {ok:α→Prop} (ht:Tryz.prog.underlying t=some (.struct fs)) (hv:Value.okWide Tryz.prog W .any base t v)
  (h:DataW.Trod enc Tryz.prog W 0 (fun _=>true) true t v d p) (O:Opn W enc t c sz ok) (hb:Rows.uptoBulk d≤1048576):∃ x,RepI W (lowS W) v (.agg (c x))∧sz x≤Rows.uptoBulk d∧ok x:=by
 obtain ⟨cs,rfl,_⟩:=okWide_struct ht hv;obtain ⟨fuel,hf⟩:=h;obtain ⟨x,r1,r2,r3,r4⟩:=O fuel cs.toList d p (by simpa [Value.cells] using hf) hb;refine ⟨x,?_,r3,r4⟩;have:=RepI.agg (w:=W) (S:=lowS W) cs.toList (c x) r1.1 r2 r1.2;simpa using this
theorem arg_bool {v:Value} {d:DataW H} {p:List MemPlace} {base:Nat} (hv:Value.okWide Tryz.prog W .any base 4 v) (h:DataW.Trod enc Tryz.prog W 0 (fun _=>true) true 4 v d p):∃ x,RepI W (lowS W) v (nB x):=by
 obtain ⟨z,rfl,rfl,rfl⟩:=open_bool Tryz.underlying4 hv h;exact ⟨z,.val _⟩
theorem sp_law {f:FuncId} {W:World} {vs:List Value} {xs:List Arg} (h:Sp Tryz.prog f xs (.im (nB true))) (ha:zd6 W (lowS W) vs xs []) :
  Calls Tryz.prog f vs.toArray W fun e W'=>e=.returned (.bool true)∧Below W.heap.size W W':=by
 refine (h.2 W (lowS W) vs [] (fun b hb=>hb) ha List.nodup_nil (fun b hb=>by cases hb)).mono ?_;rintro e W' ⟨v,F',rfl,hb,⟨us,F1,F2,e1,ho,_,_⟩,_,_⟩;have e1:us=[v]:=e1;subst e1;refine ⟨?_,hb.below fun b hb=>by cases hb⟩;obtain ⟨F3,F4,⟨hr,_⟩,_⟩:=ho;cases hr;rfl
end
end
section
section
variable {H:Type} {enc:TypeId×Value→H} {W:World}
theorem opn_0:Opn W enc 50 (cL cI) (szL sz1) (okL inR):=opn_slice (k:=1) Tryz.underlying50 (by kernel_rfl) (by decide) (fun _=>rfl) opn_int
theorem opn_1:Opn W enc 22 (cL (cL cI)) (szL (szL sz1)) (okL (okL inR)):=opn_slice (k:=1) Tryz.underlying22 (by kernel_rfl) (by decide) (fun _=>rfl) opn_0
def zrs (x:zab):Nat:=(sz1 x.Inputs+(sz1 x.Start+((szL (szL sz1)) x.Next+((szL (szL sz1)) x.Out+0))))+1
def zrw (x:zab):Prop:=inR x.Inputs∧inR x.Start∧(okL (okL inR)) x.Next∧(okL (okL inR)) x.Out
theorem opn_api_Mealy:Opn W enc 24 zaf zrs zrw :=
 opn_struct (len:=4) Tryz.underlying24 (by kernel_rfl) (znp (k:=1) rfl (by kernel_rfl) opn_int (fun _=>rfl) (znp (k:=1) rfl (by kernel_rfl) opn_int (fun _=>rfl) (znp (k:=1) rfl (by kernel_rfl) opn_1 (fun _=>rfl) (znp (k:=1) rfl (by kernel_rfl) opn_1 (fun _=>rfl) opnFs_nil)))) (fun p=>⟨p.1,p.2.1,p.2.2.1,p.2.2.2.1⟩) (fun _=>rfl) (fun _=>rfl) (fun p h=>⟨h.1,h.2.1,h.2.2.1,h.2.2.2.1⟩)
end
end
end Go.Proofs.YtbcommjbpmhdbaaGreatDoor.Sym
namespace Go.Proofs.YtbcommjbpmhdbaaGreatDoor
def za3:List Int→List Int→Nat
 | x::xs,y::ys=>if x=y then za3 xs ys+1 else 0
 | _,_=>0
theorem zlf:∀ xs ys:List Int,za3 xs ys≤xs.length∧za3 xs ys≤ys.length
 | [],_=>by simp [za3]
 | _::_,[]=>by simp [za3]
 | x::xs,y::ys=>by
  have h:=zlf xs ys;simp only [za3];split<;>simp<;>omega
theorem zqo {xs ys:List Int} {k:Nat} (h:xs.length≤k∨ys.length≤k):za3 (xs.drop k) (ys.drop k)=0:=by
 rcases h with h | h
 ·rw [List.drop_eq_nil_of_le h];simp [za3]
 ·rw [List.drop_eq_nil_of_le h];cases xs.drop k<;>simp [za3]
theorem znv:∀ w p:List Int,za3 w p=p.length↔p <+: w
 | [],[]=>by simp [za3]
 | [],y::ys=>by simp [za3]
 | x::xs,[]=>by simp [za3]
 | x::xs,y::ys=>by
  simp only [za3,List.length_cons,List.cons_prefix_cons];by_cases h:x=y
  ·subst h;simp [znv xs ys]
  ·rw [if_neg h];constructor
   ·intro h';omega
   ·rintro ⟨rfl,_⟩;exact absurd rfl h
def lexI:List Int→List Int→Int
 | [],[]=>0
 | [],_::_=>-1
 | _::_,[]=>1
 | x::xs,y::ys=>if x<y then -1 else if y<x then 1 else lexI xs ys
def cmpW (a b:List Int):Int:=if a.length<b.length then -1 else if b.length<a.length then 1 else lexI a b
theorem zgc:∀ a b:List Int,lexI a b=-1∨lexI a b=0∨lexI a b=1
 | [],[]=>by simp [lexI]
 | [],_::_=>by simp [lexI]
 | _::_,[]=>by simp [lexI]
 | x::xs,y::ys=>by
  simp only [lexI];split
  ·simp
  ·split
   ·simp
   ·exact zgc xs ys
theorem zjh:∀ a b:List Int,lexI a b=0↔a=b
 | [],[]=>by simp [lexI]
 | [],_::_=>by simp [lexI]
 | _::_,[]=>by simp [lexI]
 | x::xs,y::ys=>by
  simp only [lexI,List.cons.injEq];by_cases h1:x<y
  ·rw [if_pos h1];constructor
   ·intro h;omega
   ·rintro ⟨rfl,_⟩;omega
  ·rw [if_neg h1];by_cases h2:y<x
   ·rw [if_pos h2];constructor
    ·intro h;omega
    ·rintro ⟨rfl,_⟩;omega
   ·rw [if_neg h2,zjh xs ys];constructor
    ·intro h;exact ⟨by omega,h⟩
    ·rintro ⟨_,h⟩;exact h
theorem lexI_refl (a:List Int):lexI a a=0:=(zjh a a).2 rfl
theorem zil:∀ a b:List Int,lexI b a=- lexI a b
 | [],[]=>by simp [lexI]
 | [],_::_=>by simp [lexI]
 | _::_,[]=>by simp [lexI]
 | x::xs,y::ys=>by
  simp only [lexI];by_cases h1:x<y
  ·rw [if_neg (show ¬ y<x by omega),if_pos h1,if_pos h1];simp
  ·by_cases h2:y<x
   ·rw [if_pos h2,if_neg h1,if_pos h2]
   ·rw [if_neg h2,if_neg h1,if_neg h1,if_neg h2];exact zil xs ys
theorem zjb:∀ a b c:List Int,lexI a b=-1→lexI b c=-1→lexI a c=-1
 | [],[],_,h,_=>by simp [lexI] at h
 | [],_::_,[],_,h=>by simp [lexI] at h
 | [],_::_,_::_,_,_=>by simp [lexI]
 | _::_,[],_,h,_=>by simp [lexI] at h
 | _::_,_::_,[],_,h=>by simp [lexI] at h
 | x::xs,y::ys,z::zs,h1,h2=>by
  simp only [lexI] at h1 h2 ⊢;by_cases p:x<y
  ·by_cases q:y<z
   ·rw [if_pos (by omega)]
   ·rw [if_neg q] at h2;by_cases r:z<y
    ·rw [if_pos r] at h2;omega
    ·rw [if_pos (by omega)]
  ·rw [if_neg p] at h1;by_cases p':y<x
   ·rw [if_pos p'] at h1;omega
   ·rw [if_neg p'] at h1;by_cases q:y<z
    ·rw [if_pos (by omega)]
    ·rw [if_neg q] at h2;by_cases r:z<y
     ·rw [if_pos r] at h2;omega
     ·rw [if_neg r] at h2;rw [if_neg (by omega),if_neg (by omega)];exact zjb xs ys zs h1 h2
theorem zu8:∀ a b:List Int,lexI a b =
  if za3 a b=a.length∧za3 a b=b.length then 0 else
  if za3 a b=a.length∨(za3 a b<b.length∧a.getD (za3 a b) 0<b.getD (za3 a b) 0) then -1 else 1
 | [],[]=>by simp [lexI,za3]
 | [],_::_=>by simp [lexI,za3]
 | _::_,[]=>by simp [lexI,za3]
 | x::xs,y::ys=>by
  have ih:=zu8 xs ys;simp only [lexI,za3];by_cases h:x=y
  ·subst h;rw [if_neg (by omega),if_neg (by omega),ih];simp
  ·by_cases h1:x<y
   ·simp [h,h1]
   ·have h2:y<x:=by omega
    simp [h,h1,h2]
theorem zjd (a b:List Int):cmpW a b=-1∨cmpW a b=0∨cmpW a b=1:=by
 unfold cmpW;split
 ·simp
 ·split
  ·simp
  ·exact zgc a b
theorem zmp (a b:List Int):cmpW a b=0↔a=b:=by
 unfold cmpW;by_cases h1:a.length<b.length
 ·rw [if_pos h1];constructor
  ·intro h;omega
  ·rintro rfl;omega
 ·rw [if_neg h1];by_cases h2:b.length<a.length
  ·rw [if_pos h2];constructor
   ·intro h;omega
   ·rintro rfl;omega
  ·rw [if_neg h2,zjh]
theorem zeu (a:List Int):cmpW a a=0:=(zmp a a).2 rfl
theorem zle (a b:List Int):cmpW b a=- cmpW a b:=by
 unfold cmpW;by_cases h1:a.length<b.length
 ·rw [if_neg (by omega),if_pos h1,if_pos h1];simp
 ·by_cases h2:b.length<a.length
  ·rw [if_pos h2,if_neg h1,if_pos h2]
  ·rw [if_neg h2,if_neg h1,if_neg h1,if_neg h2];exact zil a b
theorem zhy (a b c:List Int) (h1:cmpW a b=-1) (h2:cmpW b c=-1):cmpW a c=-1:=by
 unfold cmpW at *;by_cases p:a.length<b.length
 ·by_cases q:b.length<c.length
  ·rw [if_pos (by omega)]
  ·rw [if_neg q] at h2;by_cases r:c.length<b.length
   ·rw [if_pos r] at h2;omega
   ·rw [if_pos (by omega)]
 ·rw [if_neg p] at h1;by_cases p':b.length<a.length
  ·rw [if_pos p'] at h1;omega
  ·rw [if_neg p'] at h1;by_cases q:b.length<c.length
   ·rw [if_pos (by omega)]
   ·rw [if_neg q] at h2;by_cases r:c.length<b.length
    ·rw [if_pos r] at h2;omega
    ·rw [if_neg r] at h2;rw [if_neg (by omega),if_neg (by omega)];exact zjb a b c h1 h2
def Asc (l:List (List Int)):Prop:=l.Pairwise fun a b=>cmpW a b=-1
def zie (l:List (List Int)):Nat:=l.foldl (fun n w=>max n w.length) 0
theorem foldl_max_le (l:List (List Int)):∀ n b:Nat,(l.foldl (fun n w=>max n w.length) n≤b↔n≤b∧∀ x∈l,x.length≤b):=by
 induction l with
 | nil=>intro n b;simp
 | cons y l ih =>
  intro n b;rw [List.foldl_cons,ih];simp only [List.forall_mem_cons];constructor
  ·rintro ⟨h1,h2⟩;exact ⟨by omega,by omega,h2⟩
  ·rintro ⟨h1,h2,h3⟩;exact ⟨by omega,h3⟩
theorem zow (l:List (List Int)) (b:Nat):zie l≤b↔∀ x∈l,x.length≤b:=by
 rw [zie,foldl_max_le];simp
def zgl (l:List (List Int)) (w:List Int):Nat:=(l.takeWhile fun x=>cmpW x w==-1).length
theorem placeL_le (l:List (List Int)) (w:List Int):zgl l w≤l.length:=by
 unfold zgl;exact (List.takeWhile_sublist _).length_le
def zbl (xs:List Int) (inputs:Int):Int :=
 if 1≤inputs∧inputs≤1024 then if 1024<xs.length then 3 else if xs.all fun a=>decide (0≤a∧a<inputs) then 0 else 1 else 2
theorem Asc.get {l:List (List Int)} (h:Asc l) {i j:Nat} {x y:List Int} (hij:i<j) (hx:l[i]?=some x) (hy:l[j]?=some y):cmpW x y=-1:=by
 have hj:j<l.length:=(List.getElem?_eq_some_iff.1 hy).1;have h1:=List.pairwise_iff_getElem.1 h i j (by omega) hj hij;rw [List.getElem?_eq_getElem (by omega)] at hx;rw [List.getElem?_eq_getElem hj] at hy;injection hx with hx
 injection hy with hy
 rw [← hx,← hy];exact h1
def insW (l:List (List Int)) (x:List Int):List (List Int):=if x∈l then l else l.take (zgl l x)++x::l.drop (zgl l x)
theorem zul:∀ (l:List (List Int)) (w:List Int),(∀ i x,i<zgl l w→l[i]?=some x→cmpW x w=-1)∧(∀ x,l[zgl l w]?=some x→cmpW x w≠-1)
 | [],w=>by simp [zgl]
 | y::l,w=>by
  have ih:=zul l w;by_cases hy:cmpW y w=-1
  ·have e:zgl (y::l) w=zgl l w+1:=by simp [zgl,hy]
   rw [e];refine ⟨fun i x hi hx=>?_,fun x hx=>ih.2 x (by simpa using hx)⟩;cases i with
   | zero=>simp at hx;rw [← hx];exact hy
   | succ i=>exact ih.1 i x (by omega) (by simpa using hx)
  ·have e:zgl (y::l) w=0:=by simp [zgl,hy]
   rw [e];refine ⟨fun i x hi=>absurd hi (by omega),fun x hx=>?_⟩;simp at hx;rw [← hx];exact hy
theorem mem_insW (l:List (List Int)) (x y:List Int):y∈insW l x↔y∈l∨y=x:=by
 unfold insW;split
 ·rename_i h;constructor
  ·exact Or.inl
  ·rintro (h' | rfl)
   ·exact h'
   ·exact h
 ·have e:y∈l↔y∈l.take (zgl l x)∨y∈l.drop (zgl l x):=by
   rw [← List.mem_append,List.take_append_drop]
  rw [List.mem_append,List.mem_cons,e];constructor
  ·rintro (h | h | h)
   ·exact Or.inl (Or.inl h)
   ·exact Or.inr h
   ·exact Or.inl (Or.inr h)
  ·rintro ((h | h) | h)
   ·exact Or.inl h
   ·exact Or.inr (Or.inr h)
   ·exact Or.inr (Or.inl h)
theorem Asc.insW {l:List (List Int)} (h:Asc l) (x:List Int):Asc (insW l x):=by
 unfold Go.Proofs.YtbcommjbpmhdbaaGreatDoor.insW;split
 ·exact h
 ·rename_i hm;have hs:=zul l x
  have hlo:∀ a∈l.take (zgl l x),cmpW a x=-1:=fun a ha=>by
   obtain ⟨i,hi⟩:=List.getElem?_of_mem ha;rw [List.getElem?_take] at hi;split at hi
   ·rename_i hlt;exact hs.1 i a hlt hi
   ·cases hi
  have hhi:∀ b∈l.drop (zgl l x),cmpW x b=-1:=fun b hb=>by
   obtain ⟨i,hi⟩:=List.getElem?_of_mem hb;rw [List.getElem?_drop] at hi;have hlen:zgl l x+i<l.length:=(List.getElem?_eq_some_iff.1 hi).1;have hg:l[zgl l x]?=some l[zgl l x]:=List.getElem?_eq_getElem (by omega);have h0:=hs.2 _ hg;have hne:cmpW l[zgl l x] x≠0:=fun e=>hm (by rw [← (zmp _ _).1 e];exact List.getElem_mem _);have hr:=zjd l[zgl l x] x;have h1:cmpW x l[zgl l x]=-1:=by rw [zle];omega
   by_cases hi0:i=0
   ·subst hi0;rw [Nat.add_zero,hg] at hi;injection hi with hi
    rw [← hi];exact h1
   ·exact zhy _ _ _ h1 (h.get (by omega) hg hi)
  unfold Asc;rw [List.pairwise_append,List.pairwise_cons];refine ⟨List.Pairwise.sublist (List.take_sublist _ _) h,⟨hhi,List.Pairwise.sublist (List.drop_sublist _ _) h⟩,fun a ha b hb=>?_⟩;rcases List.mem_cons.1 hb with rfl | hb
  ·exact hlo a ha
  ·exact zhy _ _ _ (hlo a ha) (hhi b hb)
theorem insW_length (l:List (List Int)) (x:List Int):(insW l x).length≤l.length+1:=by
 unfold insW;split
 ·omega
 ·simp;omega
theorem asc_nil:Asc []:=List.Pairwise.nil
theorem zor:∀ {l m:List (List Int)},Asc l→Asc m→(∀ x,x∈l↔x∈m)→l=m
 | [],[],_,_,_=>rfl
 | [],y::m,_,_,h=>absurd ((h y).2 (by simp)) (by simp)
 | x::l,[],_,_,h=>absurd ((h x).1 (by simp)) (by simp)
 | x::l,y::m,hl,hm,h=>by
  have h1:=List.pairwise_cons.1 hl;have h2:=List.pairwise_cons.1 hm
  have hxy:x=y:=by
   rcases List.mem_cons.1 ((h x).1 (by simp)) with e | hx
   ·exact e
   ·rcases List.mem_cons.1 ((h y).2 (by simp)) with e | hy
    ·exact e.symm
    ·have a:=h2.1 x hx;have b:=h1.1 y hy;rw [zle] at a;omega
  subst hxy
  have hirr:∀ {k:List (List Int)},(∀ b∈k,cmpW x b=-1)→x∉k:=fun hk hx=>by
   have:=hk x hx;rw [zeu] at this;omega
  rw [zor h1.2 h2.2 fun z=>?_];have:=h z;simp only [List.mem_cons] at this;constructor
  ·intro hz;rcases this.1 (Or.inr hz) with rfl | h'
   ·exact absurd hz (hirr h1.1)
   ·exact h'
  ·intro hz;rcases this.2 (Or.inr hz) with rfl | h'
   ·exact absurd hz (hirr h2.1)
   ·exact h'
def sortW (l:List (List Int)):List (List Int):=l.foldl insW []
theorem znz:∀ (l a:List (List Int)),Asc a→Asc (l.foldl insW a)∧(∀ x,x∈l.foldl insW a↔x∈a∨x∈l)∧(l.foldl insW a).length≤a.length+l.length
 | [],a,h=>⟨h,fun x=>by simp,by simp⟩
 | y::l,a,h=>by
  obtain ⟨h1,h2,h3⟩:=znz l (insW a y) (h.insW y);refine ⟨h1,fun x=>?_,?_⟩
  ·rw [List.foldl_cons,h2,mem_insW,List.mem_cons,or_assoc]
  ·have:=insW_length a y;rw [List.foldl_cons,List.length_cons];omega
theorem zel (l:List (List Int)):Asc (sortW l):=(znz l [] asc_nil).1
theorem zb6 (l:List (List Int)) (x:List Int):x∈sortW l↔x∈l:=by
 rw [sortW,(znz l [] asc_nil).2.1 x];simp
theorem zd4 (l:List (List Int)):(sortW l).length≤l.length:=by
 have:=(znz l [] asc_nil).2.2;simpa [sortW] using this
section
def Keeps (w w':World):Prop:=∀ p u,w.cell? p=some u→w'.cell? p=some u
theorem Keeps.of_below {w w':World} (h:Below w.heap.size w w'):Keeps w w':=fun p _ hu =>
 (h.cell (p:=p) (World.block_lt_of_cell? w p hu)).trans hu
def zhq {α:Type} (w:World) (R:Value→α→Prop) (A:Option Addr) (n c:Nat) (l:List α):Prop :=
 l.length=n∧n≤c∧n≤17592186044416 ∧
  (0<n→∃ b o,A=some ⟨b,o,none⟩∧∀ i x,l[i]?=some x→∃ u,w.cell? ⟨b,o+i,none⟩=some u∧R u x)
def zox (u:Value) (x:Int):Prop:=u=.int .i64 x
section
variable {α:Type} {w w':World} {R R':Value→α→Prop} {A:Option Addr} {n c k:Nat} {l:List α}
theorem zhq.len (h:zhq w R A n c l):l.length=n:=h.1
theorem zhq.small (h:zhq w R A n c l):n≤17592186044416:=h.2.2.1
theorem zhq.keep (h:zhq w R A n c l) (hk:Keeps w w') (hR:∀ u x,R u x→R' u x):zhq w' R' A n c l :=
 ⟨h.1,h.2.1,h.2.2.1,fun hn=>by
  obtain ⟨b,o,e,hc⟩:=h.2.2.2 hn
  refine ⟨b,o,e,fun i x hx=>?_⟩
  obtain ⟨u,hu,hr⟩:=hc i x hx
  exact ⟨u,hk _ _ hu,hR _ _ hr⟩⟩
theorem zhq.at_ (h:zhq w R A n c l) (hk:k<n):∃ b o u x,A=some ⟨b,o,none⟩∧l[k]?=some x∧w.cell? ⟨b,o+k,none⟩=some u∧R u x:=by
 obtain ⟨b,o,e,hc⟩:=h.2.2.2 (by omega);have hl:k<l.length:=by rw [h.1];exact hk
 obtain ⟨u,hu,hr⟩:=hc k l[k] (List.getElem?_eq_getElem hl);exact ⟨b,o,u,l[k],e,List.getElem?_eq_getElem hl,hu,hr⟩
end
theorem zhq.int_at {w:World} {A:Option Addr} {n c k:Nat} {xs:List Int} (h:zhq w zox A n c xs) (hk:k<n) :
  ∃ b o x,A=some ⟨b,o,none⟩∧xs[k]?=some x∧w.cell? ⟨b,o+k,none⟩=some (.int .i64 x):=by
 obtain ⟨b,o,u,x,e,hx,hu,rfl⟩:=h.at_ hk;exact ⟨b,o,x,e,hx,hu⟩
theorem zkk {k:IntKind} {a b:Int} (h:a=b):Ending.returned (.int k a)=.returned (.int k b):=by rw [h]
theorem zhq.kept {α:Type} {w w':World} {R:Value→α→Prop} {A:Option Addr} {n c:Nat} {l:List α} (h:zhq w R A n c l) (hk:Keeps w w'):zhq w' R A n c l:=h.keep hk fun _ _ h=>h
theorem zbk {α:Type} {l:List α} {k:Nat} {x:α} (hl:l[k]?=some x):l.take (k+1)=l.take k++[x]:=by
 rw [List.take_add_one,hl];rfl
theorem zj6 {α:Type} {l:List α} {k:Nat} {x d:α} (h:l[k]?=some x):l.getD k d=x:=by simp [List.getD_eq_getElem?_getD,h]
end
section
theorem Tryz.infoInt:(Tryz.prog.info? 3).map (fun i=>(i.zero,i.size,i.bytes))=some (some (.int .i64 0),1,8):=by kernel_rfl
theorem Tryz.infoWord:(Tryz.prog.info? 50).map (fun i=>(i.zero,i.size,i.bytes))=some (some (.slice none 0 0),1,24):=by kernel_rfl
theorem addr_add (b o j:Nat):(⟨b,o,none⟩:Addr).add j=⟨b,o+j,none⟩:=by
 unfold Addr.add;split
 ·rename_i h;subst h;rfl
 ·rfl
def Src (w:World) (A:Option Addr) (m:Nat) (news:List Value):Prop :=
 news.length=m∧(0<m→∃ b o,A=some ⟨b,o,none⟩∧∀ j u,news[j]?=some u→w.cell? ⟨b,o+j,none⟩=some u)
section
variable {P:Program} {w:World}
theorem zvm (base:Nat) (t ty e:TypeId) (i:TypeInfo) (z:Value) (bytes:Nat) (ht:P.underlying t=some (.slice e)) (hi:P.info? e=some i) (hz:i.zero=some z)
  (hsize:i.size=1) (hby:i.bytes=bytes) (hzs:z.cells.size=1) (v:Value) (n:Nat) (xs:List Value) (hown:w.ownsRow base e 1 v n xs)
  (A:Option Addr) (m c:Nat) (news:List Value) (hs:Src w A m news) (h1:∀ u∈news,u.oneCell'=true)
  (a2:n+m≤maxLen) (hbytes:(n+m)*bytes≤140737488355328) (hbase:base≤w.heap.size) :
  ∃ v' w',(Builtin.append_ #[t,t] ty #[v,.slice A m c]).run P w=.ok v' w'∧w'.ownsRow base e 1 v' (n+m) (xs++news)∧w.grownBy w' v.ownBlock ∧
   (v'.ownBlock=v.ownBlock∨v'.ownBlock=some w.heap.size):=by
 obtain ⟨hl,hc⟩:=hs;cases A with
 | none =>
  have hm:m=0:=by
   rcases Nat.eq_zero_or_pos m with h0 | h0
   ·exact h0
   ·obtain ⟨b,o,h,_⟩:=hc h0;cases h
  subst hm;have hn:news=[]:=List.eq_nil_of_length_eq_zero hl;subst hn;refine ⟨v,w,?_,by simpa using hown,World.grownBy.refl w _,.inl rfl⟩;rcases hown.2 with ⟨rfl,rfl⟩ | ⟨g,cap,cur,rfl,_,_,hnc,_⟩
  ·simp [Builtin.append_,run_underlying ht,sizeOf,typeInfo,hi,Builtin.lenOf,Builtin.firstCells]
  ·simp [Builtin.append_,run_underlying ht,sizeOf,typeInfo,hi,Builtin.lenOf,Builtin.firstCells,hnc,storeCells]
 | some ad =>
  have hcells:∀ j u,news[j]?=some u→w.cell? (ad.add j)=some u:=by
   intro j u hu;rcases Nat.eq_zero_or_pos m with h0 | h0
   ·subst h0;have hn:news=[]:=List.eq_nil_of_length_eq_zero hl;subst hn;simp at hu
   ·obtain ⟨b,o,h,hcc⟩:=hc h0;injection h with h
    subst h;rw [addr_add];exact hcc j u hu
  obtain ⟨v',w',hrun,h2,h3,_,h5⟩:=run_append_own_at (P:=P) w base t ty e i z 1 bytes ht hi hz hsize hby hzs (by omega) v n xs hown ad m c news (by omega) hcells h1 a2 hbytes hbase;exact ⟨v',w',hrun,h2,h3,h5⟩
theorem wp_append_row {o:Oper} {a:Act} {K:Act→World→Prop} {Q:Exit→Act→World→Prop} (s x:Operand) (t:TypeId)
  (ho:o.op=.call { callee:=.builtin .append,args:=#[s,x],argTypes:=#[t,t] })
  (base:Nat) (e:TypeId) (i:TypeInfo) (z:Value) (bytes:Nat) (ht:P.underlying t=some (.slice e)) (hi:P.info? e=some i) (hz:i.zero=some z)
  (hsize:i.size=1) (hby:i.bytes=bytes) (hzs:z.cells.size=1) (v:Value) (n:Nat) (xs:List Value) (hs:a.eval s=v) (hown:w.ownsRow base e 1 v n xs)
  (A:Option Addr) (m c:Nat) (news:List Value) (hx:a.eval x=.slice A m c) (hsrc:Src w A m news) (h1:∀ u∈news,u.oneCell'=true)
  (a2:n+m≤maxLen) (hbytes:(n+m)*bytes≤140737488355328) (hbase:base≤w.heap.size)
  (h:∀ v' w',w'.ownsRow base e 1 v' (n+m) (xs++news)→w.grownBy w' v.ownBlock→(v'.ownBlock=v.ownBlock∨v'.ownBlock=some w.heap.size)→K (a.put o.dst v') w'):o.wp P a w K Q:=by
 obtain ⟨v',w',hrun,h2,h3,h4⟩:=zvm (P:=P) base t o.type e i z bytes ht hi hz hsize hby hzs v n xs hown A m c news hsrc h1 a2 hbytes hbase;unfold Oper.wp execOp;simp only [ho,resolve,invoke,builtin,Sem.run_bind,Sem.run_pure,Result.andThen_ok,List.map_toArray,List.map_cons,List.map_nil,hs,hx,hrun];exact h v' w' h2 h3 h4
theorem zh4 {ops:Array Oper} {rest:List Oper} {o:Oper} {a:Act} {Q:Exit→Act→World→Prop} (hgd:o.guard=none) (s x:Operand) (t:TypeId)
  (ho:o.op=.call { callee:=.builtin .append,args:=#[s,x],argTypes:=#[t,t] })
  (base:Nat) (e:TypeId) (i:TypeInfo) (z:Value) (bytes:Nat) (ht:P.underlying t=some (.slice e)) (hi:P.info? e=some i) (hz:i.zero=some z)
  (hsize:i.size=1) (hby:i.bytes=bytes) (hzs:z.cells.size=1) (v:Value) (n:Nat) (xs:List Value) (hs:a.eval s=v) (hown:w.ownsRow base e 1 v n xs)
  (A:Option Addr) (m c:Nat) (news:List Value) (hx:a.eval x=.slice A m c) (hsrc:Src w A m news) (h1:∀ u∈news,u.oneCell'=true)
  (a2:n+m≤maxLen) (hbytes:(n+m)*bytes≤140737488355328) (hbase:base≤w.heap.size)
  (h:∀ v' w',w'.ownsRow base e 1 v' (n+m) (xs++news)→w.grownBy w' v.ownBlock→(v'.ownBlock=v.ownBlock∨v'.ownBlock=some w.heap.size)→wpList P ops Q rest (a.put o.dst v') w') :
  wpList P ops Q (o::rest) a w :=
 wpList_plain hgd fun _ hK=>wp_append_row s x t ho base e i z bytes ht hi hz hsize hby hzs v n xs hs hown A m c news hx hsrc h1 a2 hbytes hbase fun v' w' h2 h3 h4=>hK _ _ (h v' w' h2 h3 h4)
end
theorem zg4 {w w':World} (hg:w.grownBy w' none):Keeps w w':=fun _ _ hu=>hg.cell hu (by simp)
theorem zv3 {w w':World} (h:Below w.heap.size w w'):w.grownBy w' none:=⟨h.os,h.tape,h.output,h.size,fun k hk _=>h.block k hk⟩
theorem zo1 {w w':World} {row:Option Nat} (hg:w.grownBy w' row) {B:Nat} (hB:B≤w.heap.size) (hr:∀ g,row=some g→B≤g):Below B w w':=(Below.refl B w).grown hg hB hr
theorem src_one (w:World) (x:Value) (t:TypeId):Src (w.alloc (.cells #[x] t)) (some ⟨w.heap.size,0,none⟩) 1 [x] :=
 ⟨rfl,fun _=>⟨_,_,rfl,fun j u hu=>by
  have:=cell_one_new w x t j u hu
  rwa [addr_add] at this⟩⟩
end
end Go.Proofs.YtbcommjbpmhdbaaGreatDoor
namespace Go.Proofs.YtbcommjbpmhdbaaGreatDoor.Sym
section
section
variable {P:Program} {w:World}
theorem zf1 {ops:Array Oper} {rest:List Oper} {o:Oper} {a:Act} {Q:Exit→Act→World→Prop} (hgd:o.guard=none) (s x:Operand) (t:TypeId)
  (ho:o.op=.call { callee:=.builtin .append,args:=#[s,x],argTypes:=#[t,t] })
  (base:Nat) (e:TypeId) (i:TypeInfo) (z:Value) (size bytes:Nat) (ht:P.underlying t=some (.slice e)) (hi:P.info? e=some i) (hz:i.zero=some z)
  (hsize:i.size=size) (hby:i.bytes=bytes) (hzs:z.cells.size=size) (hsz:0<size) (v:Value) (n:Nat) (xs:List Value) (hs:a.eval s=v) (hown:w.ownsRow base e size v n xs)
  (A:Option Addr) (m c:Nat) (news:List Value) (hx:a.eval x=.slice A m c) (hl:news.length=m*size) (hsrc:0<m→∃ b q,A=some ⟨b,q,none⟩∧∀ (j:Nat) u,news[j]?=some u→w.cell? ⟨b,q+j,none⟩=some u) (h1:∀ u∈news,u.oneCell'=true)
  (a2:n+m≤maxLen) (hbytes:(n+m)*bytes≤140737488355328) (hbase:base≤w.heap.size)
  (h:∀ v' w',w'.ownsRow base e size v' (n+m) (xs++news)→w.grownBy w' v.ownBlock→(v'.ownBlock=v.ownBlock∨v'.ownBlock=some w.heap.size)→wpList P ops Q rest (a.put o.dst v') w') :
  wpList P ops Q (o::rest) a w:=by
 refine wpList_plain hgd fun _ hK=>?_;obtain ⟨v',w',hrun,h2,h3,h4⟩:=zfy (P:=P) base t o.type e i z size bytes ht hi hz hsize hby hzs hsz v n xs hown A m c news hl hsrc h1 a2 hbytes hbase;unfold Oper.wp execOp;simp only [ho,resolve,invoke,builtin,Sem.run_bind,Sem.run_pure,Result.andThen_ok,List.map_toArray,List.map_cons,List.map_nil,hs,hx,hrun];exact hK _ _ (h v' w' h2 h3 h4)
end
theorem zq1 {a b c:World} {row row':Option Nat} (h:a.grownBy b row) (k:b.grownBy c row') (hr:row'=row∨∀ g,row'=some g→a.heap.size≤g):a.grownBy c row :=
 ⟨k.os.trans h.os,k.tape.trans h.tape,k.output.trans h.output,Nat.le_trans h.size k.size,fun i hi hne =>
  (k.block i (Nat.lt_of_lt_of_le hi h.size) (by
   rcases hr with e | e
   ·rw [e];exact hne
   ·intro he
    have:=e i he.symm
    omega)).trans (h.block i hi hne)⟩
def zpk (t:TypeId) (k n:Nat) (us:List Value) (w:World) (e:Ending) (w':World):Prop :=
 ∃ v',e=.returned v'∧w'.ownsRow w.heap.size t k v' n us∧Below w.heap.size w w'
theorem zmk (w:World) (t:TypeId) (k:Nat):(w.alloc (.cells #[] t)).ownsRow w.heap.size t k (.slice (some ⟨w.heap.size,0,none⟩) 0 0) 0 []:=by
 refine ⟨by simp,.inr ⟨w.heap.size,0,#[],rfl,Nat.le_refl _,?_,Nat.zero_le _,by unfold maxLen;omega,by simp,by simp⟩⟩;exact heap_alloc_new w _
theorem zoq {g:FuncId} {t:TypeId} {k by_:Nat} (he:∀ args w,(callFunc g args).run Tryz.prog w=.ok (.enter g args) w) (hk0:0<k)
  (h:∀ (w:World) (A:Option Addr) (n c:Nat) (us:List Value),us.length=n*k→(0<n→∃ b q,A=some ⟨b,q,none⟩∧∀ (j:Nat) u,us[j]?=some u→w.cell? ⟨b,q+j,none⟩=some u) →
   (∀ u∈us,u.oneCell'=true)→n≤17592186044416→n*by_≤140737488355328→Calls Tryz.prog g #[.slice A n c] w (zpk t k n us w))
  {es:List (List IV)} (hk:∀ e∈es,e.length=k) (hc:za7 es.length by_):Sp Tryz.prog g [.im (.sl es)] (.row t k es):=by
 refine ⟨he,fun w S vs F hS hv hn hF=>?_⟩
 match vs,hv with
 | [v],⟨F1,F2,⟨h3,e1⟩,h5,e3⟩ =>
  have h5:F2=[]:=h5;subst e1 h5 e3;obtain ⟨A,c,us,rfl,hl,h1,hlim,hcell,hr⟩:=zt6 h3 hk;have hlk:us.length=es.length*k:=by rw [hl,zbb hk]
  refine (h w A es.length c us hlk hcell h1 hlim hc.1).mono ?_;rintro e w' ⟨v',rfl,ho,hb⟩
  have ho0:w'.ownsRow 0 t k v' es.length us:=by
   refine ⟨ho.1,?_⟩;rcases ho.2 with h6 | ⟨g1,cap,cur,k1,_,k3⟩
   ·exact .inl h6
   ·exact .inr ⟨g1,cap,cur,k1,Nat.zero_le _,k3⟩
  have hlt:=ho.lt
  have hbk:∀ b∈(zba v').toList,w.heap.size≤b∧b<w'.heap.size:=fun b hb=>by
   refine hlt b ?_;rw [zhh ho0];simpa using hb
  refine ⟨v',(zba v').toList,rfl,.of hb,⟨[v'],(zba v').toList,[],rfl,⟨(zba v').toList,[],⟨row_one ho0,[],⟨us,hk0,hk,hlim,ho0,hl,h1,fun i u x hu hx=>?_⟩,rfl⟩,rfl,by simp⟩,rfl,by simp⟩,?_,fun b hb=>⟨.inl (hbk b hb).1,(hbk b hb).2⟩⟩
  ·have k1:∀ b,S b→(S b∨w.heap.size≤b∨b∈[])∧b<w'.heap.size∧b∉(zba v').toList:=fun b hb'=>⟨.inl hb',Nat.lt_of_lt_of_le (hS b hb') hb.size,fun hm=>by
    have h1:=(hbk b hm).1
    have h2:=hS b hb'
    omega⟩
   have k2:∀ (p:Addr) u,S p.block→w.cell? p=some u→w'.cell? p=some u:=fun p u hp hu=>by
    have h6:=hb.block p.block (hS _ hp)
    have h7:w'.cell? p=w.cell? p:=by
     unfold World.cell?;rw [h6]
    rw [h7];exact hu
   exact (hr i u x hu hx).mono k1 k2
  ·cases zba v'<;>simp
end
theorem Tryz.infoC_int:(Tryz.prog.info? 3).map (fun i=>(i.zero,i.size,i.bytes))=some (some (.int .i64 0),1,8):=by kernel_rfl
set_option maxRecDepth 100000 in
set_option maxHeartbeats 400000 in
theorem clone_int (w:World) (A:Option Addr) (n c:Nat) (us:List Value) (hl:us.length=n*1) (hs:0<n→∃ b q,A=some ⟨b,q,none⟩∧∀ (j:Nat) u,us[j]?=some u→w.cell? ⟨b,q+j,none⟩=some u)
  (h1:∀ u∈us,u.oneCell'=true) (hn:n≤17592186044416) (hby:n*8≤140737488355328):Calls Tryz.prog 50 #[.slice A n c] w (zpk 3 1 n us w):=by
 obtain ⟨j0,ji,jz0,jz1,jz2⟩:=info_parts Tryz.infoC_int;have hnil:=Lib.run_eql_slice_nil (P:=Tryz.prog) w 50 3 A n c 0 0 Tryz.underlying50;cases A with
 | none =>
  have h0:n=0:=by
   rcases Nat.eq_zero_or_pos n with h | h
   ·exact h
   ·obtain ⟨b,q,e,_⟩:=hs h;cases e
  subst h0;have hxs:us=[]:=List.eq_nil_of_length_eq_zero (by omega);have HX:=Lib.hid hxs;clear hxs hs hl h1
  go_enter Tryz.func50,Tryz.ntmps50
  go_wp2
  go_ret
  rw [HX.out];exact ⟨_,rfl,World.ownsRow_nil _ _ _ _,Below.refl _ _⟩
 | some a =>
  have hsrc:∀ o,0<n→∃ b q,some a=some ⟨b,q,none⟩∧∀ (j:Nat) u,us[j]?=some u→(w.alloc o).cell? ⟨b,q+j,none⟩=some u:=fun o h=>by
   obtain ⟨b,q,e,hc⟩:=hs h;exact ⟨b,q,e,fun j u hu=>zg4 (World.grownBy_alloc w o none) _ _ (hc j u hu)⟩
  have hc6:0+n≤maxLen:=by unfold maxLen;omega
  have hc7:(0+n)*8≤140737488355328:=by omega
  have hc8:∀ o,w.heap.size≤(w.alloc o).heap.size:=fun o=>by simp
  have HXL:=Lib.hid hl;clear hs
  go_enter Tryz.func50,Tryz.ntmps50
  go_wp2_with (at_builtin;refine zf1 rfl (.tmp 5) (.tmp 6) 50 rfl w.heap.size 3 j0 (.int .i64 0) 1 8 Tryz.underlying50 ji jz0 jz1 jz2 rfl (by decide) (.slice (some ⟨w.heap.size,0,none⟩) 0 0) 0 _ rfl (zmk _ _ _) _ _ _ _ rfl HXL.out (hsrc _) h1 hc6 hc7 (hc8 _) ?_;intro v1 w1 hown1 hg1 hb1)
  go_ret
  have hgr:w.grownBy w1 none:=zq1 (World.grownBy_alloc w _ none) hg1 (.inr fun g e=>by
   have:some w.heap.size=some g:=e
   injection this with this
   omega)
  exact ⟨v1,rfl,by simpa using hown1,zo1 hgr (Nat.le_refl _) (fun g e=>by cases e)⟩
theorem Tryz.infoC_words:(Tryz.prog.info? 50).map (fun i=>(i.zero,i.size,i.bytes))=some (some (.slice none 0 0),1,24):=by kernel_rfl
set_option maxRecDepth 100000 in
set_option maxHeartbeats 400000 in
theorem clone_words (w:World) (A:Option Addr) (n c:Nat) (us:List Value) (hl:us.length=n*1) (hs:0<n→∃ b q,A=some ⟨b,q,none⟩∧∀ (j:Nat) u,us[j]?=some u→w.cell? ⟨b,q+j,none⟩=some u)
  (h1:∀ u∈us,u.oneCell'=true) (hn:n≤17592186044416) (hby:n*24≤140737488355328):Calls Tryz.prog 101 #[.slice A n c] w (zpk 50 1 n us w):=by
 obtain ⟨j0,ji,jz0,jz1,jz2⟩:=info_parts Tryz.infoC_words;have hnil:=Lib.run_eql_slice_nil (P:=Tryz.prog) w 22 50 A n c 0 0 Tryz.underlying22;cases A with
 | none =>
  have h0:n=0:=by
   rcases Nat.eq_zero_or_pos n with h | h
   ·exact h
   ·obtain ⟨b,q,e,_⟩:=hs h;cases e
  subst h0;have hxs:us=[]:=List.eq_nil_of_length_eq_zero (by omega);have HX:=Lib.hid hxs;clear hxs hs hl h1
  go_enter Tryz.func101,Tryz.ntmps101
  go_wp2
  go_ret
  rw [HX.out];exact ⟨_,rfl,World.ownsRow_nil _ _ _ _,Below.refl _ _⟩
 | some a =>
  have hsrc:∀ o,0<n→∃ b q,some a=some ⟨b,q,none⟩∧∀ (j:Nat) u,us[j]?=some u→(w.alloc o).cell? ⟨b,q+j,none⟩=some u:=fun o h=>by
   obtain ⟨b,q,e,hc⟩:=hs h;exact ⟨b,q,e,fun j u hu=>zg4 (World.grownBy_alloc w o none) _ _ (hc j u hu)⟩
  have hc6:0+n≤maxLen:=by unfold maxLen;omega
  have hc7:(0+n)*24≤140737488355328:=by omega
  have hc8:∀ o,w.heap.size≤(w.alloc o).heap.size:=fun o=>by simp
  have HXL:=Lib.hid hl;clear hs
  go_enter Tryz.func101,Tryz.ntmps101
  go_wp2_with (at_builtin;refine zf1 rfl (.tmp 5) (.tmp 6) 22 rfl w.heap.size 50 j0 (.slice none 0 0) 1 24 Tryz.underlying22 ji jz0 jz1 jz2 rfl (by decide) (.slice (some ⟨w.heap.size,0,none⟩) 0 0) 0 _ rfl (zmk _ _ _) _ _ _ _ rfl HXL.out (hsrc _) h1 hc6 hc7 (hc8 _) ?_;intro v1 w1 hown1 hg1 hb1)
  go_ret
  have hgr:w.grownBy w1 none:=zq1 (World.grownBy_alloc w _ none) hg1 (.inr fun g e=>by
   have:some w.heap.size=some g:=e
   injection this with this
   omega)
  exact ⟨v1,rfl,by simpa using hown1,zo1 hgr (Nat.le_refl _) (fun g e=>by cases e)⟩
theorem Tryz.infoC_traces:(Tryz.prog.info? 66).map (fun i=>(i.zero,i.size,i.bytes))=some (some (.agg #[.slice none 0 0,.slice none 0 0]),2,48):=by kernel_rfl
set_option maxRecDepth 100000 in
set_option maxHeartbeats 400000 in
theorem clone_traces (w:World) (A:Option Addr) (n c:Nat) (us:List Value) (hl:us.length=n*2) (hs:0<n→∃ b q,A=some ⟨b,q,none⟩∧∀ (j:Nat) u,us[j]?=some u→w.cell? ⟨b,q+j,none⟩=some u)
  (h1:∀ u∈us,u.oneCell'=true) (hn:n≤17592186044416) (hby:n*48≤140737488355328):Calls Tryz.prog 90 #[.slice A n c] w (zpk 66 2 n us w):=by
 obtain ⟨j0,ji,jz0,jz1,jz2⟩:=info_parts Tryz.infoC_traces;have hnil:=Lib.run_eql_slice_nil (P:=Tryz.prog) w 30 66 A n c 0 0 Tryz.underlying30;cases A with
 | none =>
  have h0:n=0:=by
   rcases Nat.eq_zero_or_pos n with h | h
   ·exact h
   ·obtain ⟨b,q,e,_⟩:=hs h;cases e
  subst h0;have hxs:us=[]:=List.eq_nil_of_length_eq_zero (by omega);have HX:=Lib.hid hxs;clear hxs hs hl h1
  go_enter Tryz.func90,Tryz.ntmps90
  go_wp2
  go_ret
  rw [HX.out];exact ⟨_,rfl,World.ownsRow_nil _ _ _ _,Below.refl _ _⟩
 | some a =>
  have hsrc:∀ o,0<n→∃ b q,some a=some ⟨b,q,none⟩∧∀ (j:Nat) u,us[j]?=some u→(w.alloc o).cell? ⟨b,q+j,none⟩=some u:=fun o h=>by
   obtain ⟨b,q,e,hc⟩:=hs h;exact ⟨b,q,e,fun j u hu=>zg4 (World.grownBy_alloc w o none) _ _ (hc j u hu)⟩
  have hc6:0+n≤maxLen:=by unfold maxLen;omega
  have hc7:(0+n)*48≤140737488355328:=by omega
  have hc8:∀ o,w.heap.size≤(w.alloc o).heap.size:=fun o=>by simp
  have HXL:=Lib.hid hl;clear hs
  go_enter Tryz.func90,Tryz.ntmps90
  go_wp2_with (at_builtin;refine zf1 rfl (.tmp 5) (.tmp 6) 30 rfl w.heap.size 66 j0 (.agg #[.slice none 0 0,.slice none 0 0]) 2 48 Tryz.underlying30 ji jz0 jz1 jz2 rfl (by decide) (.slice (some ⟨w.heap.size,0,none⟩) 0 0) 0 _ rfl (zmk _ _ _) _ _ _ _ rfl HXL.out (hsrc _) h1 hc6 hc7 (hc8 _) ?_;intro v1 w1 hown1 hg1 hb1)
  go_ret
  have hgr:w.grownBy w1 none:=zq1 (World.grownBy_alloc w _ none) hg1 (.inr fun g e=>by
   have:some w.heap.size=some g:=e
   injection this with this
   omega)
  exact ⟨v1,rfl,by simpa using hown1,zo1 hgr (Nat.le_refl _) (fun g e=>by cases e)⟩
end Go.Proofs.YtbcommjbpmhdbaaGreatDoor.Sym
namespace Go.Proofs.YtbcommjbpmhdbaaGreatDoor
def GrowPost (t:TypeId) (w:World) (e:Ending) (w':World):Prop:=∃ v',e=.returned v'∧w'.ownsRow w.heap.size t 1 v' 0 []∧Below w.heap.size w w'
theorem zpv (w:World) (Z:Array Value) (t:TypeId) (c:Nat) (hc:c≤maxLen) (hZ:Z.size=c) :
  (w.drew.alloc (.cells Z t)).ownsRow w.heap.size t 1 (.slice (some ⟨w.heap.size,0,none⟩) 0 c) 0 []:=by
 refine ⟨rfl,.inr ⟨w.heap.size,c,Z,rfl,Nat.le_refl _,?_,Nat.zero_le _,hc,by omega,by simp⟩⟩;exact heap_alloc_new w.drew _
theorem zu9 (w:World) (o:Obj):Below w.heap.size w (w.drew.alloc o):=(Below.refl w.heap.size w).drew.alloc (Nat.le_refl _) o
set_option maxRecDepth 100000 in
set_option maxHeartbeats 800000 in
theorem growI_any (n:Nat) (hn:n≤1000000000) (w:World) :
  Calls Tryz.prog 116 #[.slice none 0 0,.int .i64 n] w (GrowPost 3 w):=by
 obtain ⟨i0,hi,hz0,hz1,hz2⟩:=info_parts Tryz.infoInt;have h1:¬ ((n:Int)<0):=by omega
 by_cases h0:n=0
 ·subst h0
  go_enter Tryz.func116,Tryz.ntmps116
  go_wp2
  go_ret
  exact ⟨_,rfl,World.ownsRow_nil _ _ _ _,Below.refl _ _⟩
 ·have h4:(n:Int) > 0:=by omega
  have happ:=Lib.run_append_nil_zeros (P:=Tryz.prog) w 50 3 50 3 i0 (.int .i64 0) .i64 .i64 Tryz.underlying50 Tryz.underlying3 hi hz0 n (by omega) (by omega) (by omega) (by rw [hz2];omega);generalize hcap:grownCap w n 0 3=cap2 at happ;have hcapge:n≤cap2:=by rw [← hcap];exact grownCap_ge w _ 0 _
  have hcaple:cap2≤maxLen:=by rw [← hcap];exact grownCap_le_maxLen w _ 0 _ (by unfold maxLen;omega)
  generalize hZ:(Builtin.zeroCells (Value.cells (.int .i64 0)) n++Builtin.zeroCells (Value.cells (.int .i64 0)) (cap2-n))=Z at happ;have hZs:Z.size=cap2:=by rw [← hZ];simp [size_zeroCells,Value.cells];omega
  have hown:=zpv w Z 3 cap2 hcaple hZs;have hcap63:cap2≤9223372036854775807:=by unfold maxLen at hcaple;omega
  have HO:=Lib.hid (And.intro hown (zu9 w (.cells Z 3)));clear hcap hZ hown hZs
  go_enter Tryz.func116,Tryz.ntmps116
  go_wp2_with (at_builtin;refine Lib.wpList_append_run _ rfl _ _ _ _ rfl _ _ rfl rfl _ _ happ ?_)
  go_ret
  exact ⟨_,rfl,HO.out.1,HO.out.2⟩
set_option maxRecDepth 100000 in
set_option maxHeartbeats 800000 in
theorem growW_any (n:Nat) (hn:n≤1000000000) (w:World) :
  Calls Tryz.prog 120 #[.slice none 0 0,.int .i64 n] w (GrowPost 50 w):=by
 obtain ⟨i0,hi,hz0,hz1,hz2⟩:=info_parts Tryz.infoWord;have h1:¬ ((n:Int)<0):=by omega
 by_cases h0:n=0
 ·subst h0
  go_enter Tryz.func120,Tryz.ntmps120
  go_wp2
  go_ret
  exact ⟨_,rfl,World.ownsRow_nil _ _ _ _,Below.refl _ _⟩
 ·have h4:(n:Int) > 0:=by omega
  have happ:=Lib.run_append_nil_zeros (P:=Tryz.prog) w 22 3 22 50 i0 (.slice none 0 0) .i64 .i64 Tryz.underlying22 Tryz.underlying3 hi hz0 n (by omega) (by omega) (by omega) (by rw [hz2];omega);generalize hcap:grownCap w n 0 50=cap2 at happ;have hcapge:n≤cap2:=by rw [← hcap];exact grownCap_ge w _ 0 _
  have hcaple:cap2≤maxLen:=by rw [← hcap];exact grownCap_le_maxLen w _ 0 _ (by unfold maxLen;omega)
  generalize hZ:(Builtin.zeroCells (Value.cells (.slice none 0 0)) n++Builtin.zeroCells (Value.cells (.slice none 0 0)) (cap2-n))=Z at happ;have hZs:Z.size=cap2:=by rw [← hZ];simp [size_zeroCells,Value.cells];omega
  have hown:=zpv w Z 50 cap2 hcaple hZs;have hcap63:cap2≤9223372036854775807:=by unfold maxLen at hcaple;omega
  have HO:=Lib.hid (And.intro hown (zu9 w (.cells Z 50)));clear hcap hZ hown hZs
  go_enter Tryz.func120,Tryz.ntmps120
  go_wp2_with (at_builtin;refine Lib.wpList_append_run _ rfl _ _ _ _ rfl _ _ rfl rfl _ _ happ ?_)
  go_ret
  exact ⟨_,rfl,HO.out.1,HO.out.2⟩
end Go.Proofs.YtbcommjbpmhdbaaGreatDoor
namespace Go.Proofs.YtbcommjbpmhdbaaGreatDoor.Sym
theorem zwy {g:FuncId} {t:TypeId} {n:Int} (he:∀ args w,(callFunc g args).run Tryz.prog w=.ok (.enter g args) w) (h0:0≤n) (h1:n≤1000000000)
  (h:∀ (n:Nat),n≤1000000000→∀ w,Calls Tryz.prog g #[.slice none 0 0,.int .i64 n] w (GrowPost t w)):Sp Tryz.prog g [.im (.val (.slice none 0 0)),.im (nI n)] (.row t 1 []):=by
 refine ⟨he,fun w S vs F hS hv hn hF=>?_⟩
 match vs,hv with
 | [v,u],⟨F1,F2,⟨h3,e1⟩,⟨F3,F4,⟨h4,e2⟩,h5,e3⟩,e4⟩ =>
  have h5:F4=[]:=h5;subst e1 e2 h5 e3 e4;cases h3;cases h4;have hc:=h n.toNat (by omega) w;rw [Int.toNat_of_nonneg h0] at hc;refine hc.mono ?_;rintro e w' ⟨v',rfl,ho,hb⟩
  have ho0:w'.ownsRow 0 t 1 v' 0 []:=by
   refine ⟨ho.1,?_⟩;rcases ho.2 with h6 | ⟨g1,cap,cur,k1,_,k3⟩
   ·exact .inl h6
   ·exact .inr ⟨g1,cap,cur,k1,Nat.zero_le _,k3⟩
  have hlt:=ho.lt
  have hbk:∀ b∈(zba v').toList,w.heap.size≤b∧b<w'.heap.size:=fun b hb=>by
   refine hlt b ?_;rw [zhh ho0];simpa using hb
  refine ⟨v',(zba v').toList,rfl,.of hb,⟨[v'],(zba v').toList,[],rfl,⟨(zba v').toList,[],⟨row_one ho0,[],⟨[],Nat.one_pos,fun x hx=>by simp at hx,by decide,ho0,rfl,fun u hu=>by simp at hu,fun i u x hu=>by simp at hu⟩,rfl⟩,rfl,by simp⟩,rfl,by simp⟩,?_,fun b hb=>⟨.inl (hbk b hb).1,(hbk b hb).2⟩⟩;cases zba v'<;>simp
def zm7 (n:Int):Option (List Int):=chk (0≤n∧n≤1000000000) (some [])
theorem zs5 (n:Int) (r:List Int) (h:zm7 n=some r):Sp Tryz.prog 116 [.im (.val (.slice none 0 0)),.im (nI n)] (.row 3 1 (List.map cI r)):=by
 obtain ⟨h1,h⟩:=zan h;injection h with h
 subst h;exact zwy (fun args w=>ze2 rfl rfl rfl args w) h1.1 h1.2 growI_any
def zki (n:Int):Option (List (List Int)):=chk (0≤n∧n≤1000000000) (some [])
theorem zq9 (n:Int) (r:List (List Int)) (h:zki n=some r):Sp Tryz.prog 120 [.im (.val (.slice none 0 0)),.im (nI n)] (.row 50 1 (List.map (cL cI) r)):=by
 obtain ⟨h1,h⟩:=zan h;injection h with h
 subst h;exact zwy (fun args w=>ze2 rfl rfl rfl args w) h1.1 h1.2 growW_any
section
open Go.RowKit Go.Sort
section plain
variable {α:Type}
def totB [DecidableEq α] (f:α→α→Option Int) (l:List α):Bool :=
 l.all fun a=>l.all fun b=>match f a b,f b a with
  | some m,some n=>(decide (m=0)==decide (a=b))&&(decide (m<0)==decide (0<n))&&(decide (-1≤m∧m≤1))&&l.all fun c=>!(decide (m<0)&&(match f b c with | some x=>decide (x<0) | none=>false))||(match f a c with | some x=>decide (x<0) | none=>false)
  | _,_=>false
def insF (f:α→α→Option Int) (x:α):List α→List α
 | []=>[x]
 | y::l=>match f x y with
  | some m=>cond (decide (m≤0)) (x::y::l) (y::insF f x l)
  | none=>x::y::l
def zgq (f:α→α→Option Int):List α→List α
 | []=>[]
 | x::l=>insF f x (zgq f l)
def zqh [DecidableEq α] (l:List α) (f:α→α→Option Int):Option (List α):=chk (l.length≤1000000000) (cond (totB f l) (some (zgq f l)) none)
def cfv (f:α→α→Option Int) (a b:α):Int:=(f a b).getD 0
structure TotF (f:α→α→Option Int) (l:List α):Prop where
 get:∀ a∈l,∀ b∈l,f a b=some (cfv f a b)
 zero:∀ a∈l,∀ b∈l,cfv f a b=0→a=b
 self:∀ a∈l,cfv f a a=0
 swap:∀ a∈l,∀ b∈l,(cfv f a b<0↔0<cfv f b a)
 trans:∀ a∈l,∀ b∈l,∀ c∈l,cfv f a b<0→cfv f b c<0→cfv f a c<0
theorem totB_iff [DecidableEq α] {f:α→α→Option Int} {l:List α} (h:totB f l=true):TotF f l:=by
 have key:∀ a∈l,∀ b∈l,∃ m n,f a b=some m∧f b a=some n∧(m=0↔a=b)∧(m<0↔0<n)∧∀ c∈l,m<0→(∃ x,f b c=some x∧x<0)→∃ x,f a c=some x∧x<0:=by
  intro a ha b hb;have h1:=List.all_eq_true.1 (List.all_eq_true.1 h a ha) b hb;cases e1:f a b with
  | none=>rw [e1] at h1;cases h1
  | some m =>
   cases e2:f b a with
   | none=>rw [e1,e2] at h1;cases h1
   | some n =>
    rw [e1,e2] at h1;simp only [Bool.and_eq_true] at h1;obtain ⟨⟨⟨h2,h3⟩,_⟩,h5⟩:=h1;refine ⟨m,n,rfl,rfl,?_,?_,fun c hc hm ⟨x,hx,hx0⟩=>?_⟩
    ·have h2:=eq_of_beq h2;simpa using h2
    ·have h3:=eq_of_beq h3;simpa using h3
    ·have h6:=List.all_eq_true.1 h5 c hc;rw [hx] at h6;simp only [hm,hx0,decide_true,Bool.and_self,Bool.not_true,Bool.false_or] at h6;cases e3:f a c with
     | none=>rw [e3] at h6;cases h6
     | some y=>rw [e3] at h6;exact ⟨y,rfl,by simpa using h6⟩
 have get:∀ a∈l,∀ b∈l,f a b=some (cfv f a b):=fun a ha b hb=>by
  obtain ⟨m,n,e1,_⟩:=key a ha b hb;unfold cfv;rw [e1];rfl
 refine ⟨get,fun a ha b hb=>?_,fun a ha=>?_,fun a ha b hb=>?_,fun a ha b hb c hc h1 h2=>?_⟩
 ·obtain ⟨m,n,e1,e2,h3,_⟩:=key a ha b hb;rw [get a ha b hb] at e1;injection e1 with e1
  rw [e1];exact h3.1
 ·obtain ⟨m,n,e1,e2,h3,_⟩:=key a ha a ha;rw [get a ha a ha] at e1;injection e1 with e1
  rw [e1];exact h3.2 rfl
 ·obtain ⟨m,n,e1,e2,h3,h4,_⟩:=key a ha b hb;rw [get a ha b hb] at e1;rw [get b hb a ha] at e2;injection e1 with e1
  injection e2 with e2
  rw [e1,e2];exact h4
 ·obtain ⟨m,n,e1,e2,h3,h4,h5⟩:=key a ha b hb;rw [get a ha b hb] at e1;injection e1 with e1
  obtain ⟨x,hx,hx0⟩:=h5 c hc (by omega) ⟨_,get b hb c hc,h2⟩;rw [get a ha c hc] at hx;injection hx with hx
  omega
theorem TotF.sub {f:α→α→Option Int} {l l':List α} (T:TotF f l) (h:∀ x∈l',x∈l):TotF f l' :=
 ⟨fun a ha b hb=>T.get a (h a ha) b (h b hb),fun a ha b hb=>T.zero a (h a ha) b (h b hb),fun a ha=>T.self a (h a ha),fun a ha b hb=>T.swap a (h a ha) b (h b hb),fun a ha b hb c hc=>T.trans a (h a ha) b (h b hb) c (h c hc)⟩
def NGt (f:α→α→Option Int) (a b:α):Prop:=¬ cfv f b a<0
theorem TotF.ngt_trans {f:α→α→Option Int} {l:List α} (T:TotF f l) {a b c:α} (ha:a∈l) (hb:b∈l) (hc:c∈l) (h1:NGt f a b) (h2:NGt f b c):NGt f a c:=by
 intro h3;have s1:=T.swap a ha b hb;have s2:=T.swap b hb c hc;have s3:=T.swap c hc a ha;have t1:=T.swap b hb a ha;have t2:=T.swap c hc b hb;unfold NGt at h1 h2;by_cases e1:cfv f b a=0
 ·have:=T.zero b hb a ha e1;subst this;exact h2 h3
 ·by_cases e2:cfv f c b=0
  ·have:=T.zero c hc b hb e2;subst this;exact h1 h3
  ·have h4:cfv f a b<0:=s1.2 (by omega);have h5:=T.trans c hc a ha b hb h3 h4;exact h2 h5
theorem insF_le {f:α→α→Option Int} {x y:α} {l:List α} {m:Int} (h:f x y=some m) (hm:m≤0):insF f x (y::l)=x::y::l:=by
 simp [insF,h,hm]
theorem insF_gt {f:α→α→Option Int} {x y:α} {l:List α} {m:Int} (h:f x y=some m) (hm:¬ m≤0):insF f x (y::l)=y::insF f x l:=by
 simp [insF,h,hm]
theorem zt2 (f:α→α→Option Int) (x:α):∀ l:List α,(insF f x l).Perm (x::l)
 | []=>List.Perm.refl _
 | y::l=>by
  cases h:f x y with
  | none=>simp [insF,h]
  | some m =>
   by_cases hm:m≤0
   ·rw [insF_le h hm]
   ·rw [insF_gt h hm];exact ((zt2 f x l).cons y).trans (List.Perm.swap x y l)
theorem zec (f:α→α→Option Int):∀ l:List α,(zgq f l).Perm l
 | []=>List.Perm.refl _
 | x::l=>(zt2 f x _).trans ((zec f l).cons x)
theorem zut {f:α→α→Option Int} {x:α}:∀ {l:List α},TotF f (x::l)→l.Pairwise (NGt f)→(insF f x l).Pairwise (NGt f)
 | [],_,_=>List.pairwise_singleton _ _
 | y::l,T,h=>by
  have hx:x∈x::y::l:=by simp
  have hy:y∈x::y::l:=by simp
  have hc:=List.pairwise_cons.1 h;by_cases hd:cfv f x y≤0
  ·rw [insF_le (T.get x hx y hy) hd]
   have hxy:NGt f x y:=fun h0=>by
    have:=(T.swap y hy x hx).1 h0;omega
   exact List.pairwise_cons.2 ⟨fun z hz=>by
    rcases List.mem_cons.1 hz with rfl | hz'
    ·exact hxy
    ·exact T.ngt_trans hx hy (by simp [hz']) hxy (hc.1 z hz'),h⟩
  ·rw [insF_gt (T.get x hx y hy) hd];have hyx:NGt f y x:=by unfold NGt;omega
   refine List.pairwise_cons.2 ⟨fun z hz=>?_,zut (T.sub fun z hz=>?_) hc.2⟩
   ·rcases List.mem_cons.1 ((zt2 f x l).mem_iff.1 hz) with rfl | hz'
    ·exact hyx
    ·exact hc.1 z hz'
   ·rcases List.mem_cons.1 hz with rfl | hz'
    ·simp
    ·simp [hz']
theorem zi9 {f:α→α→Option Int}:∀ {l:List α},TotF f l→(zgq f l).Pairwise (NGt f)
 | [],_=>List.Pairwise.nil
 | x::l,T=>zut (T.sub fun z hz=>by
   rcases List.mem_cons.1 hz with rfl | hz'
   ·simp
   ·exact List.mem_cons_of_mem _ ((zec f l).mem_iff.1 hz')) (zi9 (T.sub fun z hz=>List.mem_cons_of_mem _ hz))
theorem zth {f:α→α→Option Int}:∀ {l1 l2:List α},TotF f l1→l1.Perm l2→l1.Pairwise (NGt f)→l2.Pairwise (NGt f)→l1=l2
 | [],l2,_,hp,_,_=>(List.nil_perm.1 hp).symm
 | x::l1,[],_,hp,_,_=>absurd hp.length_eq (by simp)
 | x::l1,y::l2,T,hp,h1,h2=>by
  have p1:=List.pairwise_cons.1 h1;have p2:=List.pairwise_cons.1 h2;have hx:x∈x::l1:=by simp
  have hy:y∈x::l1:=hp.mem_iff.2 (by simp)
  have e:x=y:=by
   rcases List.mem_cons.1 hy with e | hy'
   ·exact e.symm
   ·have hxy:=p1.1 y hy';rcases List.mem_cons.1 (hp.mem_iff.1 hx) with e | hx'
    ·exact e
    ·have hyx:=p2.1 x hx';have s1:=T.swap y hy x hx;have s2:=T.swap x hx y hy;unfold NGt at hxy hyx;exact T.zero x hx y hy (by omega)
  subst e;rw [zth (T.sub fun z hz=>List.mem_cons_of_mem _ hz) (List.Perm.cons_inv hp) p1.2 p2.2]
end plain
section model
variable {α:Type}
def CmpG (P:Program) (g:FuncId) (X:α→IV) (f:α→α→Option Int):Prop :=
 ∀ (W:World) (S:Nat→Prop) (u u':Value) (x y:α) (r:Int),f x y=some r→RepI W S u (X x)→RepI W S u' (X y) →
  Calls P g #[u,u'] W fun e w'=>e=.returned (.int .i64 r)∧∃ q os,w'=Sort.grow (W.drewN q) os
def El (w:World) (S:Nat→Prop) (k:Nat) (c:α→List IV) (l:List α):Type:={ p:List Value×α // p.1.length=k∧(∀ v∈p.1,v.oneCell'=true)∧zj0 w S p.1 (c p.2)∧p.2∈l }
variable {w:World} {S:Nat→Prop} {k:Nat} {c:α→List IV} {l:List α}
def El.enc (x:El w S k c l):List Value:=x.val.1
def El.wd (x:El w S k c l):α:=x.val.2
def El.of (us:List Value) (x:α) (h1:us.length=k) (h2:∀ v∈us,v.oneCell'=true) (h3:zj0 w S us (c x)) (h4:x∈l):El w S k c l:=⟨(us,x),h1,h2,h3,h4⟩
theorem el_list (hk:∀ x,(c x).length=k):∀ (l0:List α) (us:List Value),(∀ x∈l0,x∈l)→us.length=(l0.map c).flatten.length→(∀ u∈us,u.oneCell'=true) →
  (∀ (i:Nat) u x,us[i]?=some u→(l0.map c).flatten[i]?=some x→RepI w S u x)→∃ zs:List (El w S k c l),(zs.map El.enc).flatten=us∧zs.map El.wd=l0
 | [],us,_,hl,_,_=>⟨[],(List.eq_nil_of_length_eq_zero hl).symm,rfl⟩
 | x::l0,us,hm,hl,h1,hr=>by
  rw [List.map_cons,List.flatten_cons] at hl hr;rw [zkJ,hk] at hl
  obtain ⟨zs,e1,e2⟩:=el_list hk l0 (us.drop k) (fun y hy=>hm y (List.mem_cons_of_mem _ hy)) (by rw [List.length_drop];omega) (fun u hu=>h1 u (List.mem_of_mem_drop hu)) fun i u y hu hy=>by
   rw [List.getElem?_drop] at hu;refine hr (k+i) u y hu ?_;rw [List.getElem?_append,if_neg (by rw [hk];omega),hk]
   rwa [Nat.add_sub_cancel_left]
  have hx1:(us.take k).length=k:=by rw [List.length_take];omega
  have hx2:∀ v∈us.take k,v.oneCell'=true:=fun u hu=>h1 u (List.mem_of_mem_take hu)
  have hx3:zj0 w S (us.take k) (c x):=⟨by rw [hx1,hk],fun i u y hu hy=>by
   have hi:i<k:=by
    rw [← hk x]
    exact (zkI.1 hy).1
   rw [List.getElem?_take,if_pos hi] at hu
   exact hr i u y hu (by rw [List.getElem?_append,if_pos (by rw [hk];exact hi)];exact hy)⟩
  refine ⟨El.of (us.take k) x hx1 hx2 hx3 (hm x (by simp))::zs,?_,?_⟩
  ·rw [List.map_cons,List.flatten_cons,e1];exact List.take_append_drop k us
  ·rw [List.map_cons,e2];rfl
theorem el_swo {f:α→α→Option Int} (T:TotF f l):SWO (ltOf fun x y:El w S k c l=>cfv f x.wd y.wd) where
 irrefl x:=by
  have:=T.self x.wd x.property.2.2.2;simp [ltOf,this]
 trans x y z h1 h2:=by
  simp only [ltOf,decide_eq_true_eq] at *;exact T.trans _ x.property.2.2.2 _ y.property.2.2.2 _ z.property.2.2.2 h1 h2
 ntrans x y z h1 h2:=by
  simp only [ltOf,decide_eq_false_iff_not] at *;exact T.ngt_trans z.property.2.2.2 y.property.2.2.2 x.property.2.2.2 h2 h1
def SortC (P:Program) (sg:FuncId) (k:Nat) (mk:List Value→Value):Prop :=
 (∀ (p:Option Addr) (cap:Nat) (fv:Value) (w:World),Calls P sg #[.slice p 0 cap,fv] w fun e w'=>e=.returned (.tuple #[])∧w'=w) ∧
 ∀ (E:Type) [Inhabited E] (enc:E→List Value) (cf:E→E→Int) (g blk cap:Nat) (d:Array E) (w:World),(∀ x,(enc x).length=k)→(∀ x,∀ v∈enc x,v.oneCell'=true)→SWO (ltOf cf) →
  (∀ args w,(callFunc g args).run P w=.ok (.enter g args) w) →
  (∀ (m:Nat) (os:Array Obj) (dk:Array E),dk.size=d.size→∀ x y:E,Calls P g #[mk (enc x),mk (enc y)] (Sort.grow (putRow id (Sort.ahead w m) blk 0 (Go.Sort.flatK enc k dk)) os) fun e w' =>
   e=.returned (.int .i64 (cf x y))∧∃ q os',w'=Sort.grow ((Sort.grow (putRow id (Sort.ahead w m) blk 0 (Go.Sort.flatK enc k dk)) os).drewN q) os') →
  Go.Sort.Holds id w blk 0 (Go.Sort.flatK enc k d)→blk<w.heap.size→d.size<4611686018427387904 →
  Calls P sg #[.slice (some ⟨blk,0,none⟩) d.size cap,.func (.func g) #[] #[]] w fun e w' =>
   e=.returned (.tuple #[])∧∃ d' n os,PermIn 0 d.size d d'∧SortedIn (ltOf cf) 0 d.size d'∧w'=Sort.grow (putRow id (Sort.ahead w n) blk 0 (Go.Sort.flatK enc k d')) os
theorem perm_of_in' {β:Type} [Inhabited β] {d d':Array β} (h:PermIn 0 d.size d d'):d'.toList.Perm d.toList:=by
 obtain ⟨hs,_,hp⟩:=h;have e1:d'.extract 0 d.size=d':=by rw [← hs];simp
 have e2:d.extract 0 d.size=d:=by simp
 rwa [e1,e2] at hp
theorem ztj {β:Type} [Inhabited β] {lt:β→β→Bool} {d:Array β} {n:Nat} (hn:d.size=n) (h:SortedIn lt 0 n d):d.toList.Pairwise fun a b=>lt b a=false:=by
 rw [List.pairwise_iff_getElem];intro i j hi hj hij;have:=h i j (Nat.zero_le _) hij (by rw [← hn];simpa using hj);simp at hi hj;simpa [getElem!_pos,hi,hj] using this
theorem zwq {β:Type} [Inhabited β] {enc:β→List Value} {k:Nat} (hk:∀ x,(enc x).length=k) (d:Array β):Go.Sort.flatK enc k d=(d.toList.map enc).flatten.toArray:=by
 have hl:((d.toList.map enc).flatten).length=d.size*k:=by
  rw [zbb (k:=k) fun x hx=>by obtain ⟨y,_,rfl⟩:=List.mem_map.1 hx;exact hk y];simp
 refine ext_get! (by simp [hl]) fun t ht=>?_;rw [size_flatK] at ht;rw [get_flatK _ _ _ t ht]
 have k0:0<k:=by
  rcases Nat.eq_zero_or_pos k with h | h
  ·subst h;simp at ht
  ·exact h
 have hq:t / k<d.size:=Nat.div_lt_of_lt_mul (by rwa [Nat.mul_comm] at ht);have hm:t%k<k:=Nat.mod_lt _ k0;have hg:=flat_get (es:=d.toList.map enc) (i:=t / k) (j:=t%k) (e:=enc (d[t / k]'hq)) (fun x hx=>by obtain ⟨y,_,rfl⟩:=List.mem_map.1 hx;exact hk y) (by simp [hq]) hm;rw [show t / k*k+t%k=t by rw [Nat.mul_comm];exact Nat.div_add_mod t k] at hg;have hm2:t%k<(enc (d[t / k]'hq)).length:=by rw [hk];exact hm
 rw [zkM hm2,zkM (by rw [hl];exact ht)] at hg;injection hg with hg
 rw [getElem!_pos d _ hq,getElem!_pos (enc (d[t / k]'hq)) (t%k) hm2,getElem!_pos ((d.toList.map enc).flatten.toArray) t (by simpa [hl] using ht)];simpa using hg.symm
theorem own_put {w:World} {base:Nat} {e:TypeId} {g n cap k q:Nat} {us us':List Value} {os:Array Obj} (h:w.ownsRow base e k (.slice (some ⟨g,0,none⟩) n cap) n us) (hl:us'.length=n*k) :
  (Sort.grow (putRow id (Sort.ahead w q) g 0 us'.toArray) os).ownsRow base e k (.slice (some ⟨g,0,none⟩) n cap) n us':=by
 rcases h.2 with ⟨e0,_⟩ | ⟨g',cap',cur,e0,hb,hg,hn,hm,hs,ht⟩
 ·cases e0
 ·injection e0 with e1 _ e3
  injection e1 with e1
  injection e1 with e1
  subst e1;subst e3
  have hlt:g<w.heap.size:=by
   rcases Nat.lt_or_ge g w.heap.size with h' | h'
   ·exact h'
   ·rw [Array.getElem?_eq_none h'] at hg;cases hg
  refine ⟨hl,.inr ⟨g,cap,putCells id 0 us'.toArray cur,rfl,hb,?_,hn,hm,by simpa [putCells] using hs,?_⟩⟩
  ·have:g<(putRow id (Sort.ahead w q) g 0 us'.toArray).heap.size:=by simpa [putRow,mapBlock,Sort.ahead] using hlt
   simp only [Sort.grow,Array.getElem?_append,if_pos this];simp [putRow,mapBlock,Sort.ahead,Array.getElem?_modify,hg,onCells]
  ·have hle:n*k≤cap*k:=Nat.mul_le_mul_right k hn;apply List.ext_getElem?;intro j;rw [List.getElem?_take,Array.getElem?_toList];by_cases hj:j<n*k
   ·have hjc:j<cur.size:=by omega
    rw [if_pos hj];simp only [putCells,Array.getElem?_mapIdx,Array.getElem?_eq_getElem hjc,Option.map_some];rw [if_pos (by simp;omega),zkM (by omega)];simp [getElem!_pos,show j<us'.length by omega]
   ·rw [if_neg hj,List.getElem?_eq_none (by omega)]
theorem holds_own {w:World} {base:Nat} {e:TypeId} {g n cap k:Nat} {us:List Value} (h:w.ownsRow base e k (.slice (some ⟨g,0,none⟩) n cap) n us):Go.Sort.Holds id w g 0 us.toArray:=by
 rcases h.2 with ⟨e0,_⟩ | ⟨g',cap',cur,e0,hb,hg,hn,hm,hs,ht⟩
 ·cases e0
 ·injection e0 with e1 _ e3
  injection e1 with e1
  injection e1 with e1
  subst e1;subst e3;intro j hj;have hj':j<us.length:=by simpa using hj
  have hjn:j<n*k:=by rw [← h.1];exact hj'
  have hle:n*k≤cap*k:=Nat.mul_le_mul_right k hn;have hjc:j<cur.size:=by omega
  have e1:(cur.toList.take (n*k))[j]?=us[j]?:=by rw [ht]
  rw [List.getElem?_take,if_pos hjn,Array.getElem?_toList,zkM hj'] at e1;refine ⟨?_,by simp [World.frozen?,hg]⟩;simp only [World.cell?,hg,Nat.zero_add,Option.isSome_none,Bool.false_eq_true,if_false];rw [e1];simp [getElem!_pos,hj']
theorem put_block {w:World} {g q:Nat} {F:Array Value} {os:Array Obj} {b:Nat} (hb:b<w.heap.size) (hne:b≠g):(Sort.grow (putRow id (Sort.ahead w q) g 0 F) os).heap[b]?=w.heap[b]?:=by
 have:b<(putRow id (Sort.ahead w q) g 0 F).heap.size:=by simpa [putRow,mapBlock,Sort.ahead] using hb
 simp only [Sort.grow,Array.getElem?_append,if_pos this];simp [putRow,mapBlock,Sort.ahead,Array.getElem?_modify,Ne.symm hne]
theorem put_cell {w:World} {g q:Nat} {F:Array Value} {os:Array Obj} {p:Addr} {u:Value} (hne:p.block≠g) (h:w.cell? p=some u):(Sort.grow (putRow id (Sort.ahead w q) g 0 F) os).cell? p=some u:=by
 have hlt:=World.block_lt_of_cell? w _ h;unfold World.cell? at h ⊢;rw [put_block hlt hne];exact h
theorem zwk [DecidableEq α] {P:Program} {sg:FuncId} {mk:List Value→Value} {t:TypeId} {X:α→IV} (he:∀ args w,(callFunc sg args).run P w=.ok (.enter sg args) w) (C:SortC P sg k mk) (hk0:0<k) (hk:∀ x,(c x).length=k)
  (hX:∀ (W:World) (S:Nat→Prop) us x,us.length=k→(∀ v∈us,v.oneCell'=true)→zj0 W S us (c x)→RepI W S (mk us) (X x))
  {f:α→α→Option Int} {g:FuncId} (eg:∀ args w,(callFunc g args).run P w=.ok (.enter g args) w) (hg:CmpG P g X f) {l r:List α} (h:zqh l f=some r) :
  Sp P sg [.lent (.row t k (l.map c)),.im (.fn g [])] (.mk true [] [.lent (.row t k (r.map c))]):=by
 obtain ⟨hlen,h⟩:=zan h;cases hT:totB f l with
 | false=>rw [hT] at h;cases h
 | true =>
 rw [hT] at h;injection h with h
 subst h;have T:=totB_iff hT;refine ⟨he,fun w S vs F hS hv hn hF=>?_⟩
 match vs,hv with
 | [v,u],⟨F1,F2,⟨hv1,inn,hrow,e1⟩,⟨F3,F4,⟨h4,e2⟩,h5,e3⟩,e4⟩ =>
  have h5:F4=[]:=h5;have e1:F1=(zba v).toList:=e1;subst e1 e2 h5 e3;have e4:F=(zba v).toList:=by rw [e4];simp
  subst e4;obtain ⟨us,_,_,hlim,hown,hul,h1,hr⟩:=hrow;rw [zkK] at hown hlim
  have hu:u=.func (.func g) #[] #[]:=by
   generalize hx:IV.fn g []=x at h4;cases h4 with
   | fn f us cs hl hr =>
    injection hx with hx1 hx2
    subst hx1 hx2;have:=List.eq_nil_of_length_eq_zero hl;subst this;rfl
   | _=>cases hx
  subst hu
  have fin:∀ (w':World) (us':List Value),w'.ownsRow 0 t k v l.length us'→us'.length=((zgq f l).map c).flatten.length→(∀ u∈us',u.oneCell'=true) →
    Belo (fun b=>b∈(zba v).toList) w.heap.size w w'→(∀ (i:Nat) u x,us'[i]?=some u→((zgq f l).map c).flatten[i]?=some x→RepI w' (fun b=>(S b∨w.heap.size≤b∨b∈(zba v).toList)∧b<w'.heap.size∧b∉(zba v).toList) u x) →
    ∃ (v1:Value) (F':List Nat),Ending.returned (.tuple #[])=.returned v1∧Belo (fun b=>b∈(zba v).toList) w.heap.size w w' ∧
     zv0 w' (fun b=>(S b∨w.heap.size≤b∨b∈(zba v).toList)∧b<w'.heap.size∧b∉F') v1 (bxVs [v,.func (.func g) #[] #[]] [.lent (.row t k (l.map c)),.im (.fn g [])]) (.mk true [] [.lent (.row t k ((zgq f l).map c))]) F'∧F'.Nodup∧∀ b∈F',(w.heap.size≤b∨b∈(zba v).toList)∧b<w'.heap.size:=by
   intro w' us' ho hl' h1' hb hr';refine ⟨_,(zba v).toList,rfl,hb,⟨[],[],(zba v).toList,rfl,rfl,⟨(zba v).toList,[],⟨hv1,inn,⟨us',hk0,fun x hx=>?_,?_,?_,hl',h1',hr'⟩,rfl⟩,rfl,by simp⟩,by simp⟩,hn,fun b hb'=>⟨.inr hb',Nat.lt_of_lt_of_le (hF b hb').2 hb.size⟩⟩
   ·obtain ⟨y,_,rfl⟩:=List.mem_map.1 hx;exact hk y
   ·rw [zkK,(zec f l).length_eq];exact hlim
   ·rw [zkK,(zec f l).length_eq];exact ho
  by_cases hnil:v=.slice none 0 0
  ·subst hnil
   have hl0:l.length=0:=by
    rcases hown.2 with ⟨_,h0⟩ | ⟨_,_,_,e,_⟩
    ·exact h0
    ·cases e
   have hl0:l=[]:=List.eq_nil_of_length_eq_zero hl0;subst hl0;refine (C.1 none 0 _ w).mono ?_;rintro e w' ⟨rfl,rfl⟩;have hus:us=[]:=List.eq_nil_of_length_eq_zero (by rw [hul];rfl);subst hus;exact fin w' [] hown rfl (fun u hu=>by cases hu) (Belo.refl _ _ _) fun i u x hu=>by simp at hu
  ·obtain ⟨blk,cap,rfl⟩:∃ blk cap,v=.slice (some ⟨blk,0,none⟩) l.length cap:=by
    rcases hown.2 with ⟨e0,_⟩ | ⟨g,cap,cur,e,_⟩
    ·exact absurd e0 hnil
    ·exact ⟨g,cap,e⟩
   have hblk:blk<w.heap.size:=(hF blk (by simp [zba])).2;have hnS:¬ S blk:=(hF blk (by simp [zba])).1;obtain ⟨zs,hz1,hz2⟩:=el_list (w:=w) (S:=S) (l:=l) hk l us (fun x hx=>hx) hul h1 hr;by_cases hl0:l=[]
   ·subst hl0;refine (C.1 (some ⟨blk,0,none⟩) cap _ w).mono ?_;rintro e w' ⟨rfl,rfl⟩;have hus:us=[]:=List.eq_nil_of_length_eq_zero (by rw [hul];rfl);subst hus;exact fin w' [] hown rfl (fun u hu=>by cases hu) (Belo.refl _ _ _) fun i u x hu=>by simp at hu
   ·have hzl:zs.length=l.length:=by have:=congrArg List.length hz2;simpa using this
    obtain ⟨z0,hz0⟩:∃ z,z∈zs:=by
     cases zs with
     | nil=>exact absurd (by simpa using hz2.symm) hl0
     | cons z zs=>exact ⟨z,by simp⟩
    haveI:Inhabited (El w S k c l):=⟨z0⟩
    have henc:∀ x:El w S k c l,(El.enc x).length=k:=fun x=>x.property.1;have hflat:∀ d:Array (El w S k c l),Go.Sort.flatK El.enc k d=(d.toList.map El.enc).flatten.toArray:=zwq henc
    have hcall:=C.2 (El w S k c l) El.enc (fun x y=>cfv f x.wd y.wd) g blk cap zs.toArray w henc (fun x=>x.property.2.1) (el_swo T) eg (fun m os dk _ x y=>by
      refine hg _ S _ _ x.wd y.wd _ (T.get _ x.property.2.2.2 _ y.property.2.2.2) (hX _ _ _ _ x.property.1 x.property.2.1 ⟨x.property.2.2.1.1,fun i u z hu hz=>?_⟩) (hX _ _ _ _ y.property.1 y.property.2.1 ⟨y.property.2.2.1.1,fun i u z hu hz=>?_⟩)
      ·exact (x.property.2.2.1.2 i u z hu hz).mono (fun _ h=>h) fun p u hp hu=>put_cell (fun e=>hnS (by rw [← e];exact hp)) hu
      ·exact (y.property.2.2.1.2 i u z hu hz).mono (fun _ h=>h) fun p u hp hu=>put_cell (fun e=>hnS (by rw [← e];exact hp)) hu)
     (by rw [hflat];show Go.Sort.Holds id w blk 0 ((zs.map El.enc).flatten).toArray;rw [hz1];exact holds_own hown) hblk (by simp;omega)
    have hsz:zs.toArray.size=l.length:=by simpa using hzl
    rw [hsz] at hcall;refine hcall.mono ?_;rintro e w' ⟨rfl,d',n,os,hp,hs,rfl⟩;have hd':d'.size=l.length:=by rw [hp.1];exact hsz
    have hperm:=perm_of_in' (d:=zs.toArray) (by rw [hsz];exact hp);have hpw:=ztj hd' hs
    have hwd:d'.toList.map El.wd=zgq f l:=by
     have hp1:(d'.toList.map El.wd).Perm l:=(hperm.map El.wd).trans (List.Perm.of_eq hz2);refine zth (T.sub fun x hx=>hp1.mem_iff.1 hx) (hp1.trans (zec f l).symm) ?_ (zi9 T);rw [List.pairwise_map];refine hpw.imp fun {a b} hab=>?_;have hab2:¬ cfv f b.wd a.wd<0:=by simpa only [ltOf,decide_eq_false_iff_not] using hab
     exact hab2
    rw [hflat]
    have hlen':((d'.toList.map El.enc).flatten).length=l.length*k:=by
     rw [zbb (k:=k) fun x hx=>by obtain ⟨y,_,rfl⟩:=List.mem_map.1 hx;exact henc y];simp [hd']
    have hflen:((zgq f l).map c).flatten.length=l.length*k:=by
     rw [zbb (k:=k) fun x hx=>by obtain ⟨y,_,rfl⟩:=List.mem_map.1 hx;exact hk y,zkK,(zec f l).length_eq]
    refine fin _ _ (own_put hown hlen') (by rw [hlen',hflen]) (fun u hu=>?_) ⟨rfl,rfl,rfl,?_,fun b hb hnb=>put_block hb fun e=>hnb (by simp [zba,e])⟩ fun i u x hu hx=>?_
    ·obtain ⟨us2,h2,h3⟩:=List.mem_flatten.1 hu;obtain ⟨y,_,rfl⟩:=List.mem_map.1 h2;exact y.property.2.1 u h3
    ·simp [Sort.grow,putRow,mapBlock,Sort.ahead]
    ·have hi:i<l.length*k:=by rw [← hlen'];exact (zkI.1 hu).1
     have hq:i / k<l.length:=Nat.div_lt_of_lt_mul (by rwa [Nat.mul_comm] at hi);have hm:i%k<k:=Nat.mod_lt _ hk0;have hik:i / k*k+i%k=i:=by rw [Nat.mul_comm];exact Nat.div_add_mod i k
     have hq':i / k<d'.size:=by rw [hd'];exact hq
     have g1:=flat_get (es:=d'.toList.map El.enc) (i:=i / k) (j:=i%k) (e:=El.enc (d'[i / k]'hq')) (fun x hx=>by obtain ⟨y,_,rfl⟩:=List.mem_map.1 hx;exact henc y) (by simp [hq']) hm;have g2:=flat_get (es:=(zgq f l).map c) (i:=i / k) (j:=i%k) (e:=c (El.wd (d'[i / k]'hq'))) (fun x hx=>by obtain ⟨y,_,rfl⟩:=List.mem_map.1 hx;exact hk y) (by rw [← hwd];simp [hq']) hm;rw [hik,hu] at g1;rw [hik,hx] at g2;refine ((d'[i / k]'hq').property.2.2.1.2 _ _ _ g1.symm g2.symm).mono (fun b hb=>⟨.inl hb,?_,?_⟩) fun p u hp hu=>put_cell (fun e=>hnS (by rw [← e];exact hp)) hu
     ·have:w.heap.size≤(Sort.grow (putRow id (Sort.ahead w n) blk 0 ((d'.toList.map El.enc).flatten).toArray) os).heap.size:=by simp [Sort.grow,putRow,mapBlock,Sort.ahead]
      exact Nat.lt_of_lt_of_le (hS b hb) this
     ·intro hb';have:b=blk:=by simpa [zba] using hb'
      subst this;exact hnS hb
end model
end
end Go.Proofs.YtbcommjbpmhdbaaGreatDoor.Sym
namespace Go.Proofs.YtbcommjbpmhdbaaGreatDoor
def zi5 (d:Nat):UInt8:=if d<10 then UInt8.ofNat (48+d) else UInt8.ofNat (87+d)
def digsF:Nat→Nat→List UInt8
 | 0,u=>[zi5 u]
 | f+1,u=>if u<36 then [zi5 u] else digsF f (u / 36)++[zi5 (u%36)]
theorem zwm:∀ (f g u:Nat),u≤f→u≤g→digsF f u=digsF g u
 | 0,0,_,_,_=>rfl
 | 0,g+1,u,h,_=>by
  have h0:u=0:=by omega
  subst h0;rfl
 | f+1,0,u,_,h=>by
  have h0:u=0:=by omega
  subst h0;rfl
 | f+1,g+1,u,h1,h2=>by
  unfold digsF;by_cases h:u<36
  ·rw [if_pos h,if_pos h]
  ·rw [if_neg h,if_neg h,zwm f g (u / 36) (by omega) (by omega)]
def digs (u:Nat):List UInt8:=digsF u u
theorem zhx {u:Nat} (h:u<36):digs u=[zi5 u]:=by
 unfold digs;cases u with
 | zero=>rfl
 | succ u=>unfold digsF;rw [if_pos h]
theorem zqe {u:Nat} (h:36≤u):digs u=digs (u / 36)++[zi5 (u%36)]:=by
 obtain ⟨v,rfl⟩:∃ v,u=v+1:=⟨u-1,by omega⟩;show digsF (v+1) (v+1)=digsF ((v+1) / 36) ((v+1) / 36)++[zi5 ((v+1)%36)];rw [digsF,if_neg (by omega),zwm v ((v+1) / 36) ((v+1) / 36) (by omega) (Nat.le_refl _)]
theorem digs_len:∀ (k u:Nat),u<36^(k+1)→(digs u).length≤k+1
 | 0,u,h=>by rw [zhx (by simpa using h)];simp
 | k+1,u,h=>by
  by_cases h1:u<36
  ·rw [zhx h1];simp
  ·rw [zqe (by omega),List.length_append];have:=digs_len k (u / 36) (by rw [Nat.div_lt_iff_lt_mul (by omega),← Nat.pow_succ];exact h);simp;omega
theorem zwf {u:Nat} (h:u<18446744073709551616):(digs u).length≤13 :=
 digs_len 12 u (Nat.lt_of_lt_of_le h (by decide))
theorem digs_pos (u:Nat):0<(digs u).length:=by
 by_cases h1:u<36
 ·rw [zhx h1];simp
 ·rw [zqe (by omega)];simp
def undig (c:UInt8):Nat:=if c.toNat<58 then c.toNat-48 else c.toNat-87
theorem undig_dig {d:Nat} (h:d<36):undig (zi5 d)=d:=by
 have:∀ d:Fin 36,undig (zi5 d.1)=d.1:=by decide
 exact this ⟨d,h⟩
theorem dig_char {d:Nat} (h:d<36):48≤(zi5 d).toNat:=by
 have:∀ d:Fin 36,48≤(zi5 d.1).toNat:=by decide
 exact this ⟨d,h⟩
def undigs (l:List UInt8):Nat:=l.foldl (fun n c=>n*36+undig c) 0
theorem zvb (u:Nat):undigs (digs u)=u:=by
 induction u using Nat.strongRecOn with
 | _ u ih =>
  by_cases h1:u<36
  ·rw [zhx h1];simp [undigs,undig_dig h1]
  ·rw [zqe (by omega),undigs,List.foldl_append];have:=ih (u / 36) (by omega);rw [undigs] at this;simp only [List.foldl_cons,List.foldl_nil,this,undig_dig (Nat.mod_lt u (by omega))];omega
theorem digs_inj {u v:Nat} (h:digs u=digs v):u=v:=by rw [← zvb u,h,zvb]
theorem zm6 (u:Nat):∀ c∈digs u,48≤c.toNat:=by
 induction u using Nat.strongRecOn with
 | _ u ih =>
  by_cases h1:u<36
  ·rw [zhx h1];intro c hc;simp at hc;rw [hc];exact dig_char h1
  ·rw [zqe (by omega)];intro c hc;rw [List.mem_append] at hc;rcases hc with hc | hc
   ·exact ih (u / 36) (by omega) c hc
   ·simp at hc;rw [hc];exact dig_char (Nat.mod_lt u (by omega))
def zmd (a:Int):List UInt8:=if a<0 then 45::digs a.natAbs else digs a.natAbs
theorem zwp (a:Int):∀ c∈zmd a,c≠32:=by
 intro c hc e;subst e;unfold zmd at hc;split at hc
 ·simp only [List.mem_cons] at hc;rcases hc with hc | hc
  ·exact absurd hc (by decide)
  ·have:=zm6 _ _ hc;exact absurd this (by decide)
 ·have:=zm6 _ _ hc;exact absurd this (by decide)
theorem enc36_inj {a b:Int} (h:zmd a=zmd b):a=b:=by
 have hne:∀ u v:Nat,45::digs u≠digs v:=fun u v e=>by
  have:=zm6 v 45 (by rw [← e];simp);exact absurd this (by decide)
 unfold zmd at h;split at h<;>split at h
 ·injection h with _ h
  have:=digs_inj h;omega
 ·exact absurd h (hne _ _)
 ·exact absurd h.symm (hne _ _)
 ·have:=digs_inj h;omega
theorem enc36_len {a:Int} (h1:-9223372036854775808≤a) (h2:a≤9223372036854775807):(zmd a).length≤14:=by
 have:=zwf (u:=a.natAbs) (by omega);unfold zmd;split<;>simp<;>omega
def keyL:List Int→List UInt8
 | []=>[]
 | a::xs=>zmd a++32::keyL xs
theorem zus:∀ xs ys:List Int,keyL (xs++ys)=keyL xs++keyL ys
 | [],_=>rfl
 | a::xs,ys=>by simp [keyL,zus xs ys]
theorem split_at {c:UInt8}:∀ {xs ys rs ss:List UInt8},(∀ d∈xs,d≠c)→(∀ d∈ys,d≠c)→xs++c::rs=ys++c::ss→xs=ys∧rs=ss
 | [],[],rs,ss,_,_,h=>by simpa using h
 | [],y::ys,rs,ss,_,h2,h=>by
  simp at h;exact absurd h.1.symm (h2 y (by simp))
 | x::xs,[],rs,ss,h1,_,h=>by
  simp at h;exact absurd h.1 (h1 x (by simp))
 | x::xs,y::ys,rs,ss,h1,h2,h=>by
  simp only [List.cons_append,List.cons.injEq] at h;obtain ⟨e1,e2⟩:=split_at (fun d hd=>h1 d (by simp [hd])) (fun d hd=>h2 d (by simp [hd])) h.2;exact ⟨by rw [h.1,e1],e2⟩
theorem keyL_inj:∀ {xs ys:List Int},keyL xs=keyL ys→xs=ys
 | [],[],_=>rfl
 | [],a::ys,h=>by simp [keyL] at h
 | a::xs,[],h=>by simp [keyL] at h
 | a::xs,b::ys,h=>by
  simp only [keyL] at h;obtain ⟨e1,e2⟩:=split_at (zwp a) (zwp b) h;rw [enc36_inj e1,keyL_inj e2]
theorem zsn:∀ {xs:List Int},(∀ x∈xs,-9223372036854775808≤x∧x≤9223372036854775807)→(keyL xs).length≤15*xs.length
 | [],_=>by simp [keyL]
 | a::xs,h=>by
  have h1:=zsn (xs:=xs) fun x hx=>h x (by simp [hx]);have h2:=h a (by simp);have h3:=enc36_len h2.1 h2.2;simp only [keyL,List.length_append,List.length_cons];omega
theorem Tryz.infoByte:(Tryz.prog.info? 5).map (fun i=>(i.zero,i.size,i.bytes))=some (some (.int .u8 0),1,1):=by kernel_rfl
def zij (l:List UInt8):List Value:=l.map fun b=>.int .u8 (b.toNat:Int)
theorem zp6 (l:List UInt8):(zij l).length=l.length:=by simp [zij]
theorem zlt (l m:List UInt8):zij (l++m)=zij l++zij m:=by simp [zij]
theorem bcells_one (l:List UInt8):∀ u∈zij l,u.oneCell'=true:=by
 intro u hu;simp only [zij,List.mem_map] at hu;obtain ⟨b,_,rfl⟩:=hu;rfl
def OwnB (w:World) (base:Nat) (v:Value) (l:List UInt8):Prop:=w.ownsRow base 5 1 v l.length (zij l)
theorem OwnB.lt {w:World} {base:Nat} {v:Value} {l:List UInt8} (h:OwnB w base v l):∀ k,v.ownBlock=some k→base≤k∧k<w.heap.size:=World.ownsRow.lt h
theorem OwnB.nil_ (w:World) (base:Nat):OwnB w base (.slice none 0 0) []:=World.ownsRow_nil _ _ _ _
def MoreB (w:World) (base:Nat) (l:List UInt8) (e:Ending) (w':World):Prop:=∃ v',e=.returned v'∧OwnB w' base v' l∧Below base w w'
theorem idx36 (k:IntKind) (z:Int) (d:Nat) (hz:z=(d:Int)) (hd:d<36) (w:World) :
  (Instr.index 9 (.string { data:=#[48,49,50,51,52,53,54,55,56,57,97,98,99,100,101,102,103,104,105,106,107,108,109,110,111,112,113,114,115,116,117,118,119,120,121,122] }) (.int k z)).run Tryz.prog w=.ok (.int .u8 ((zi5 d).toNat:Int)) w:=by
 subst hz;rw [run_index_string w 9 _ k _ Tryz.underlying9,dif_pos ⟨by omega,by show (d:Int)<((36:Nat):Int);omega⟩];have:∀ d:Fin 36,(({ data:=#[48,49,50,51,52,53,54,55,56,57,97,98,99,100,101,102,103,104,105,106,107,108,109,110,111,112,113,114,115,116,117,118,119,120,121,122] }:ByteArray)[d.1]'(by show d.1<36;exact d.2))=zi5 d.1:=by decide
 have h:=this ⟨d,hd⟩;simp only [Int.toNat_natCast];rw [h]
def Dig (zs:List Value) (i:Nat) (l:List UInt8):Prop:=zs.length=65∧zs.drop i=zij l
theorem Dig.push {zs:List Value} {j:Nat} {m:List UInt8} (h:Dig zs (j+1) m) (hj:j<65) (c:UInt8):Dig (zs.set j (.int .u8 (c.toNat:Int))) j (c::m):=by
 obtain ⟨h1,h2⟩:=h;refine ⟨by simpa using h1,?_⟩;rw [List.drop_eq_getElem_cons (by simp;omega),List.getElem_set_self,List.drop_set_of_lt (by omega),h2];rfl
set_option maxRecDepth 100000 in
set_option maxHeartbeats 1600000 in
theorem zvw {B u:Nat} {sv:Value} {l:List UInt8} {w:World} (hu:u<18446744073709551616) (hown:OwnB w B sv l) (hB:B≤w.heap.size) (hl:l.length≤1000000000) :
  Calls Tryz.prog 163 #[sv,.int .u64 u,.int .i64 36,.bool false,.bool true] w (fun e w'=>∃ v',e=.returned (.tuple #[v',.string ByteArray.empty])∧OwnB w' B v' (l++digs u)∧Below B w w'):=by
 obtain ⟨i0,hi,hz0,hz1,hz2⟩:=info_parts Tryz.infoByte;have HOWN:=Lib.hid hown;clear hown;have hbits:(bits BinOp.and IntKind.i64 36 35==0)=false:=by decide
 go_enter Tryz.func163,Tryz.ntmps163
 go_wp2
 go_loopw [1,13,18] (fun v i _ wr=>∃ k j:Nat,∃ m:List UInt8,∃ zs,v=.int .u64 k∧i=.int .i64 j∧k<18446744073709551616∧j+m.length=65∧Hid (digs k++m=digs u)∧Hid (Dig zs j m)∧wr.ownsRow w.heap.size 200 1 (.slice (some ⟨w.heap.size,0,none⟩) 65 65) 65 zs∧Below w.heap.size w wr) (fun v _ _ _=>(intOf v).toNat)
 case atStart=>exact ⟨u,65,[],_,rfl,rfl,hu,rfl,Lib.hid (by simp),Lib.hid ⟨rfl,rfl⟩,World.ownsRow_lit w _ 65 (Nat.le_refl _) (by unfold maxLen;omega) rfl,(Below.refl _ _).alloc (Nat.le_refl _) _⟩
 case round =>
  obtain ⟨k,j,m,zs,rfl,rfl,hk,hj,HD,HZ,hrow,hbel⟩:=hrel
  have hlen:m.length≤12:=by
   have h1:=congrArg List.length HD.out;rw [List.length_append] at h1;have h2:=digs_pos k;have h3:=zwf hu;omega
  obtain ⟨j,rfl⟩:∃ j':Nat,j=j'+1:=⟨j-1,by omega⟩;have hzl:j<zs.length:=by rw [HZ.out.1];omega
  have q1:wr.cell? ⟨w.heap.size,j,none⟩=some (zs[j]):=by rw [hrow.cellAt j (by omega)];exact List.getElem?_eq_getElem hzl
  have q2:wr.frozen? ⟨w.heap.size,j,none⟩=false:=hrow.frozenAt j;generalize zs[j]=z0 at q1;have HR:=Lib.hid hrow;have HB:=Lib.hid hbel;clear hrow hbel hzl;by_cases h1:36≤k
  ·have e0:((j+1:Nat):Int)-1=(j:Int):=by omega
   have hix:=fun W=>idx36 .u64 ((k:Int)-(k:Int) / 36*36) (k%36) (by omega) (by omega) W
   go_wp2
   go_roundw
   case rel =>
    obtain ⟨s1,s2⟩:=HR.out.stored j (.int .u8 ((zi5 (k%36)).toNat:Int));exact ⟨k / 36,j,zi5 (k%36)::m,_,by go_num,rfl,by omega,by simp;omega,Lib.hid (by rw [← HD.out,zqe h1];simp),Lib.hid (HZ.out.push (by omega) _),s1,HB.out.grown s2 HB.out.size (fun g e=>by injection e with e;omega)⟩
   case measure=>simp [intOf]<;>omega
  ·have e0:((j+1:Nat):Int)-1=(j:Int):=by omega
   have hix:=fun W=>idx36 .u64 (k:Int) k rfl (by omega) W;have hal:Tryz.prog.arrayLen 200=65:=by simp [Program.arrayLen,Tryz.underlying200]
   have hsl:∀ W,(Instr.sliceAt 200 (.pointer (some ⟨w.heap.size,0,none⟩)) (some (.int .i64 (j:Int))) none none).run Tryz.prog W=.ok (.slice (some ⟨w.heap.size,j,none⟩) (65-j) (65-j)) W:=fun W=>by
    rw [run_sliceAt_array_l W 200 ⟨w.heap.size,0,none⟩ (by simp [Program.arrayLen,Program.elem,Tryz.underlying200]) .i64 (j:Int) (by omega) (by rw [hal];omega)]
    go_simp
    omega
   obtain ⟨s1,s2⟩:=HR.out.stored j (.int .u8 ((zi5 k).toNat:Int));have hb2:Below w.heap.size w (wr.setCell ⟨w.heap.size,j,none⟩ (.int .u8 ((zi5 k).toNat:Int))):=HB.out.grown s2 HB.out.size (fun g e=>by injection e with e;omega);have hown2:OwnB (wr.setCell ⟨w.heap.size,j,none⟩ (.int .u8 ((zi5 k).toNat:Int))) B sv l:=World.ownsRow.kept HOWN.out (zv3 hb2) (by cases sv.ownBlock<;>simp);have hdz:=HZ.out.push (by omega) (zi5 k)
   have hsrc:Src (wr.setCell ⟨w.heap.size,j,none⟩ (.int .u8 ((zi5 k).toNat:Int))) (some ⟨w.heap.size,j,none⟩) (65-j) (zij (zi5 k::m)):=by
    refine ⟨by rw [zp6];simp;omega,fun _=>⟨_,_,rfl,fun i v hv=>?_⟩⟩;have hi:i<(zij (zi5 k::m)).length:=(List.getElem?_eq_some_iff.1 hv).1;rw [zp6,List.length_cons] at hi;rw [s1.cellAt (j+i) (by omega),← hv,← hdz.2,List.getElem?_drop]
   have hone:=bcells_one (zi5 k::m);have hc1:l.length+(65-j)≤maxLen:=by unfold maxLen;omega
   have hc2:(l.length+(65-j))*1≤140737488355328:=by omega
   have hc3:B≤(wr.setCell ⟨w.heap.size,j,none⟩ (.int .u8 ((zi5 k).toNat:Int))).heap.size:=Nat.le_trans hB hb2.size
   have hfull:zij l++zij (zi5 k::m)=zij (l++digs u):=by
    rw [← zlt,← HD.out,zhx (by omega)];rfl
   have hfl:l.length+(65-j)=(l++digs u).length:=by
    rw [← HD.out,zhx (by omega)];simp;omega
   have HF:=Lib.hid (And.intro hfull hfl);have HB2:=Lib.hid hb2;clear s1 s2 hdz hb2 hfull hfl hal;unfold OwnB at hown2
   go_wp2_with (at_builtin;refine zh4 rfl (.tmp 95) (.tmp 97) 131 rfl B 5 i0 (.int .u8 0) 1 Tryz.underlying131 hi hz0 hz1 hz2 rfl sv _ _ rfl hown2 _ (65-j) (65-j) _ rfl hsrc hone hc1 hc2 hc3 ?_;intro v1 w1 hown1 hg1 hb1)
   go_ret2
   have hlt:=hown2;refine ⟨_,rfl,?_,?_⟩
   ·unfold OwnB;rw [← HF.out.1,← HF.out.2];exact hown1
   ·exact (HB2.out.mono hB).grown hg1 hc3 fun g e=>(OwnB.lt hown2 g e).1
set_option maxRecDepth 100000 in
set_option maxHeartbeats 800000 in
theorem zoc {B u:Nat} {sv:Value} {l:List UInt8} {w:World} (hu:u<18446744073709551616) (hown:OwnB w B sv l) (hB:B≤w.heap.size) (hl:l.length≤1000000000) :
  Calls Tryz.prog 143 #[sv,.int .u64 u,.int .i64 36] w (MoreB w B (l++digs u)):=by
 have hcall:=zvw hu hown hB hl;clear hown
 go_enter Tryz.func143,Tryz.ntmps143
 go_wp2_with (go_at_call 163;refine hcall.mono ?_;rintro e w' ⟨v',rfl,hown',hb'⟩)
 go_ret
 exact ⟨_,rfl,hown',hb'⟩
set_option maxRecDepth 100000 in
set_option maxHeartbeats 800000 in
theorem appendInt_any {B:Nat} {a:Int} {sv:Value} {l:List UInt8} {w:World} (ha1:-9223372036854775808≤a) (ha2:a≤9223372036854775807) (hown:OwnB w B sv l) (hB:B≤w.heap.size) (hl:l.length≤100000000) :
  Calls Tryz.prog 121 #[sv,.int .i64 a,.int .i64 36] w (MoreB w B (l++zmd a)):=by
 obtain ⟨i0,hi,hz0,hz1,hz2⟩:=info_parts Tryz.infoByte;by_cases h1:a<0
 ·have hs1:∀ t,Src (w.alloc (.cells #[.int .u8 45] t)) (some ⟨w.heap.size,0,none⟩) 1 [.int .u8 45]:=fun t=>src_one w _ t;have hone:∀ u∈[Value.int .u8 45],u.oneCell'=true:=by intro u hu;simp at hu;subst hu;rfl
  have hownA:∀ o,(w.alloc o).ownsRow B 5 1 sv l.length (zij l):=fun o=>World.ownsRow.alloc hown o;have hc1:l.length+1≤maxLen:=by unfold maxLen;omega
  have hc2:(l.length+1)*1≤140737488355328:=by omega
  have hc3:∀ o,B≤(w.alloc o).heap.size:=fun o=>by simp;omega
  have hlt:=OwnB.lt hown;have hB1:∀ o,Below B w (w.alloc o):=fun o=>(Below.refl B w).alloc hB o;have HOWN:=Lib.hid hown;clear hown;have e1:(zmd a)=45::digs a.natAbs:=by unfold zmd;rw [if_pos h1]
  have HE:=Lib.hid e1;clear e1
  go_enter Tryz.func121,Tryz.ntmps121
  go_wp2_with (at_builtin;refine zh4 rfl (.tmp 12) (.tmp 13) 131 rfl B 5 i0 (.int .u8 0) 1 Tryz.underlying131 hi hz0 hz1 hz2 rfl sv _ _ rfl (hownA _) _ 1 1 [.int .u8 45] rfl (hs1 _) hone hc1 hc2 (hc3 _) ?_;intro v1 w1 hown1 hg1 hb1)
  have hw:IntKind.u64.wrap (-IntKind.u64.wrap a)=((a.natAbs:Nat):Int):=by
   rw [IntKind.wrap_u64,IntKind.wrap_u64];omega
  rw [hw]
  have hown2:OwnB w1 B v1 (l++[45]):=by
   unfold OwnB;rw [zlt,List.length_append];exact hown1
  have hb2:Below B w w1:=(hB1 _).grown hg1 (hc3 _) fun g e=>(hlt g e).1;have hcall:=zoc (u:=a.natAbs) (by omega) hown2 (Nat.le_trans hB (by have:=hg1.size;simp at this;omega)) (by simp;omega);clear hown1 hg1 hb1 hown2 hownA hs1 hc3;refine hcall.mono ?_;rintro e w' ⟨v',rfl,hown',hb'⟩
  go_wp2
  go_ret
  refine ⟨_,rfl,?_,hb2.trans hb'⟩;rw [HE.out];simpa using hown'
 ·have HOWN:=Lib.hid hown;have e1:(zmd a)=digs a.natAbs:=by unfold zmd;rw [if_neg h1]
  have hw:IntKind.u64.wrap a=((a.natAbs:Nat):Int):=by
   rw [IntKind.wrap_u64];omega
  have hcall:=zoc (u:=a.natAbs) (by omega) hown hB (by omega);clear hown
  go_enter Tryz.func121,Tryz.ntmps121
  go_wp2_with (go_at_call 143;refine hcall.mono ?_;rintro e w' ⟨v',rfl,hown',hb'⟩)
  go_ret
  exact ⟨_,rfl,by rw [e1];exact hown',hb'⟩
set_option maxRecDepth 100000 in
theorem zn9 {B:Nat} {a:Int} {sv:Value} {l:List UInt8} {w:World} (ha1:-9223372036854775808≤a) (ha2:a≤9223372036854775807) (hown:OwnB w B sv l) (hB:B≤w.heap.size) (hl:l.length≤100000000) :
  Calls Tryz.prog 99 #[sv,.int .i64 a,.int .i64 36] w (MoreB w B (l++zmd a)):=by
 have hcall:=appendInt_any ha1 ha2 hown hB hl;clear hown
 go_enter Tryz.func99,Tryz.ntmps99
 go_wp2_with (go_at_call 121;refine hcall.mono ?_;rintro e w' ⟨v',rfl,hown',hb'⟩)
 go_ret
 exact ⟨_,rfl,hown',hb'⟩
theorem keyL_take {xs:List Int} {k:Nat} {x:Int} (h:xs[k]?=some x):keyL (xs.take (k+1))=(keyL (xs.take k)++zmd x)++[32]:=by
 rw [zbk h,zus];simp [keyL]
def Rng (x:Int):Prop:=-9223372036854775808≤x∧x≤9223372036854775807
def KeyPost (w:World) (l:List UInt8) (e:Ending) (w':World):Prop:=e=.returned (.string ⟨l.toArray⟩)∧Below w.heap.size w w'
set_option maxRecDepth 100000 in
set_option maxHeartbeats 1600000 in
theorem key_any {A:Option Addr} {n c:Nat} {xs:List Int} {w:World} (hx:zhq w zox A n c xs) (hr:∀ x∈xs,Rng x) (hn:n≤2000000) :
  Calls Tryz.prog 71 #[.slice A n c] w (KeyPost w (keyL xs)):=by
 have HL:=Lib.hid hx.len;have HR:=Lib.hid hr;obtain ⟨i0,hi,hz0,hz1,hz2⟩:=info_parts Tryz.infoByte;clear hr
 go_enter Tryz.func71,Tryz.ntmps71
 go_wp2
 go_loopw [3,5,8] (fun v _ i wr=>∃ k:Nat,k≤n∧i=.int .i64 k∧OwnB wr w.heap.size v (keyL (xs.take k))∧Below w.heap.size w wr) (fun _ _ i _=>n-(intOf i).toNat)
 case atStart=>exact ⟨0,by omega,rfl,OwnB.nil_ _ _,Below.refl _ _⟩
 case round =>
  obtain ⟨k,hk,rfl,hown,hbel⟩:=hrel
  have hkl:(keyL (xs.take k)).length≤15*k:=by
   have:=zsn (xs:=xs.take k) fun x hx=>HR.out x (List.mem_of_mem_take hx);rw [List.length_take] at this;omega
  by_cases h1:k<n
  ·obtain ⟨b,o,x,rfl,hx1,hx2⟩:=hx.int_at h1;have hc:=Keeps.of_below hbel _ _ hx2;have hrx:=HR.out x (List.mem_of_getElem? hx1);have HX:=Lib.hid hx1;have HC:=Lib.hid (zn9 hrx.1 hrx.2 hown hbel.size (by omega));have hlen:=enc36_len hrx.1 hrx.2;have HB:=Lib.hid hbel;clear hx1 hx2 hrx hown hbel;have hone:∀ u∈[Value.int .u8 32],u.oneCell'=true:=by intro u hu;simp at hu;subst hu;rfl
   have hc1:(keyL (xs.take k)++zmd x).length+1≤maxLen:=by unfold maxLen;simp;omega
   have hc2:((keyL (xs.take k)++zmd x).length+1)*1≤140737488355328:=by simp;omega
   go_wp2_with (first | (go_at_call 99;refine HC.out.mono ?_;rintro e w1 ⟨v1,rfl,hown1,hb1⟩;have HH:=Lib.hid (And.intro hown1 hb1);have hs1:=fun t=>src_one w1 (.int .u8 32) t;have hownA:=fun o=>World.ownsRow.alloc hown1 o;have hc3:∀ o,w.heap.size≤(w1.alloc o).heap.size:=(fun o=>by have:=HB.out.size;have:=hb1.size;simp;omega);clear hown1 hb1) | (at_builtin;refine zh4 rfl (.tmp 14) (.tmp 15) 131 rfl w.heap.size 5 i0 (.int .u8 0) 1 Tryz.underlying131 hi hz0 hz1 hz2 rfl v1 _ _ rfl (hownA _) _ 1 1 [.int .u8 32] rfl (hs1 _) hone hc1 hc2 (hc3 _) ?_;intro v2 w2 hown2 hg2 hb2))
   have hfin:OwnB w2 w.heap.size v2 (keyL (xs.take (k+1))):=by
    unfold OwnB;rw [keyL_take HX.out,zlt,List.length_append];exact hown2
   have hbel':Below w.heap.size w w2:=((HB.out.trans (HH.out.2.mono (Nat.le_refl _))).alloc (by have:=HB.out.size;have:=HH.out.2.size;omega) _).grown hg2 (hc3 _) fun g e=>(OwnB.lt HH.out.1 g e).1;clear hown2 hg2 hb2 hs1 hownA hc3
   go_roundw
   case rel=>exact ⟨k+1,by omega,by go_num,hfin,hbel'⟩
   case measure=>simp [intOf]<;>omega
  ·rw [List.take_of_length_le (by rw [HL.out];omega)] at hown
   have hconv:(convert 131 9 u3).run Tryz.prog wr=.ok (.string ⟨(keyL xs).toArray⟩) wr:=by
    rcases hown.2 with ⟨rfl,h0⟩ | ⟨g,cap,cur,rfl,_,_,_⟩
    ·have a2:keyL xs=[]:=List.eq_nil_of_length_eq_zero h0;rw [a2];exact Lib.run_convert_nil_bytes wr _ _ _ 0 Tryz.underlying131 Tryz.underlying5 Tryz.underlying9
    ·refine run_convert_bytes_back wr _ _ _ ⟨g,0,none⟩ cap (keyL xs) Tryz.underlying131 Tryz.underlying5 Tryz.underlying9 fun j hj=>?_;rw [hown.cells (g:=g) rfl j (.int .u8 ((keyL xs)[j].toNat:Int)) (by simp [zij,hj])]
   clear hown
   go_wp2
   go_ret
   exact ⟨rfl,hbel⟩
end Go.Proofs.YtbcommjbpmhdbaaGreatDoor
namespace Go.Proofs.YtbcommjbpmhdbaaGreatDoor.Sym
theorem zgd {w:World} {S:Nat→Prop} {v:Value} {l:List Int} (h:RepI w S v (nL cI l)):∃ A n c,v=.slice A n c∧zhq w zox A n c l:=by
 have h:RepI w S v (.sl (l.map cI)):=h;generalize he:l.map cI=es at h;cases h with
 | emp A c =>
  have:l=[]:=by simpa using he
  subst this;exact ⟨A,0,c,rfl,rfl,Nat.zero_le _,by omega,fun h=>by omega⟩
 | sl b o c k n _ us hn hk hc hs hS hl h1 hu hr =>
  subst he
  have hf:(l.map cI).flatten=l.map fun x=>nI x:=by
   clear hn hk hl hr h
   induction l with
   | nil=>rfl
   | cons x l ih=>rw [List.map_cons,List.flatten_cons,ih];rfl
  rw [hf] at hl hr;refine ⟨_,_,_,rfl,by simpa using hn,hc,hs,fun _=>⟨b,o,rfl,fun i x hx=>?_⟩⟩;have hi:i<us.length:=by rw [hl,zkK];exact (zkI.1 hx).1
  have hg:=zkM hi;refine ⟨_,hu i _ hg,?_⟩;have:=hr i _ (nI x) hg (by rw [List.getElem?_map,hx];rfl);generalize us[i]=u at this;cases this with
  | val _=>rfl
def zk2 (l:List Int):Option ByteArray:=chk (∀ x∈l,inR x) (chk (l.length≤2000000) (some ⟨(keyL l).toArray⟩))
set_option maxRecDepth 100000 in
theorem zm5 (l:List Int) (r:ByteArray) (h:zk2 l=some r):Sp Tryz.prog 71 [.im (nL cI l)] (.im (nS r)):=by
 obtain ⟨h1,h⟩:=zan h;obtain ⟨h2,h⟩:=zan h;injection h with h
 subst h;refine ⟨fun args w=>ze2 rfl rfl rfl args w,fun w S vs F hS hv hn hF=>?_⟩
 match vs,hv with
 | [v],⟨F1,F2,⟨h3,e1⟩,h4,e2⟩ =>
  have h4:F2=[]:=h4;subst e1 h4 e2;obtain ⟨A,n,c,rfl,hrow⟩:=zgd h3;refine (key_any hrow h1 (by rw [← hrow.1];exact h2)).mono ?_;rintro e w' ⟨rfl,hb⟩;exact ⟨_,[],rfl,.of hb,⟨[_],[],[],rfl,⟨[],[],⟨.val _,rfl⟩,rfl,rfl⟩,rfl,rfl⟩,List.nodup_nil,fun b hb=>by simp at hb⟩
end Go.Proofs.YtbcommjbpmhdbaaGreatDoor.Sym
namespace Go.Proofs.YtbcommjbpmhdbaaGreatDoor
def cmpI (x y:Int):Int:=if x<y then -1 else if y<x then 1 else 0
theorem zkj (x y:Int) (w:World) :
  Calls Tryz.prog 106 #[.int .i64 x,.int .i64 y] w fun e w'=>e=.returned (.int .i64 (cmpI x y))∧w=w':=by
 by_cases h1:x<y
 ·go_enter Tryz.func106,Tryz.ntmps106
  go_wp2
  go_ret
  exact ⟨zkk (by unfold cmpI;rw [if_pos h1]),rfl⟩
 ·by_cases h2:y<x
  ·go_enter Tryz.func106,Tryz.ntmps106
   go_wp2
   go_ret
   exact ⟨zkk (by unfold cmpI;rw [if_neg (by omega),if_pos h2]),rfl⟩
  ·go_enter Tryz.func106,Tryz.ntmps106
   go_wp2
   go_ret
   exact ⟨zkk (by unfold cmpI;rw [if_neg (by omega),if_neg (by omega)]),rfl⟩
theorem lexI_step {xs ys:List Int} {k:Nat} {x y:Int} (hx:xs[k]?=some x) (hy:ys[k]?=some y) :
  lexI (xs.drop k) (ys.drop k)=if cmpI x y=0 then lexI (xs.drop (k+1)) (ys.drop (k+1)) else cmpI x y:=by
 obtain ⟨h1,h1'⟩:=List.getElem?_eq_some_iff.1 hx;obtain ⟨h2,h2'⟩:=List.getElem?_eq_some_iff.1 hy;rw [List.drop_eq_getElem_cons h1,List.drop_eq_getElem_cons h2,h1',h2'];simp only [lexI,cmpI];by_cases a:x<y
 ·simp [a]
 ·by_cases b:y<x
  ·simp [a,b]
  ·simp [a,b]
theorem lexI_long {xs ys:List Int} {k:Nat} (h1:k<xs.length) (h2:ys.length≤k):lexI (xs.drop k) (ys.drop k)=1:=by
 rw [List.drop_eq_getElem_cons h1,List.drop_eq_nil_of_le h2];rfl
theorem lexI_end {xs ys:List Int} {k:Nat} (h1:xs.length≤k):lexI (xs.drop k) (ys.drop k)=if k<ys.length then -1 else 0:=by
 rw [List.drop_eq_nil_of_le h1];by_cases h2:k<ys.length
 ·rw [if_pos h2,List.drop_eq_getElem_cons h2];rfl
 ·rw [if_neg h2,List.drop_eq_nil_of_le (by omega)];rfl
set_option maxHeartbeats 800000 in
theorem zky {A B:Option Addr} {n c m c':Nat} {xs ys:List Int} {w:World} (hx:zhq w zox A n c xs) (hy:zhq w zox B m c' ys) :
  Calls Tryz.prog 107 #[.slice A n c,.slice B m c'] w fun e w'=>e=.returned (.int .i64 (lexI xs ys))∧w=w':=by
 have hn:=hx.small;have hm:=hy.small;have HL:=Lib.hid (And.intro hx.len hy.len)
 go_enter Tryz.func107,Tryz.ntmps107
 go_wp2
 go_loop [5,6,7,8,11] (fun _ _ _ _ i=>∃ k:Nat,k≤n∧k≤m∧i=.int .i64 k∧Hid (lexI xs ys=lexI (xs.drop k) (ys.drop k))) (fun _ _ _ _ i=>n-(intOf i).toNat)
 case atStart=>exact ⟨0,by omega,by omega,rfl,Lib.hid (by simp)⟩
 case round =>
  obtain ⟨k,hk,hk',rfl,HT⟩:=hrel;by_cases h1:k<n
  ·obtain ⟨b,o,x,rfl,hx1,hx2⟩:=hx.int_at h1;have HX:=Lib.hid hx1;clear hx1;by_cases h2:k<m
   ·obtain ⟨b',o',y,rfl,hy1,hy2⟩:=hy.int_at h2;have HY:=Lib.hid hy1;clear hy1;have hst:=lexI_step HX.out HY.out;by_cases h3:cmpI x y=0
    ·rw [if_pos h3] at hst;have HST:=Lib.hid hst;have d3:(cmpI x y != 0)=false:=by simp [h3]
     have H3:=Lib.hid h3;clear h3 hst
     go_wp2_with (go_at_call 106;refine (zkj _ _ _).mono ?_;rintro e w' ⟨rfl,rfl⟩)
     go_round
     case rel=>exact ⟨k+1,by omega,by omega,by go_num,Lib.hid (by rw [HT.out,HST.out])⟩
     case measure=>simp [intOf];omega
    ·rw [if_neg h3] at hst;have HST:=Lib.hid hst;have d3:(cmpI x y != 0)=true:=by simp [h3]
     clear h3 hst
     go_wp2_with (go_at_call 106;refine (zkj _ _ _).mono ?_;rintro e w' ⟨rfl,rfl⟩)
     go_ret
     exact ⟨zkk (by rw [HT.out,HST.out]),rfl⟩
   ·go_wp2
    go_ret
    obtain ⟨h3,h4⟩:=HL.out;exact ⟨zkk (by rw [HT.out,lexI_long (by omega) (by omega)]),rfl⟩
  ·obtain ⟨h3,h4⟩:=HL.out;have HE:=Lib.hid (lexI_end (xs:=xs) (ys:=ys) (k:=k) (by omega));clear h3 h4;by_cases h2:n<m
   ·go_wp2
    go_ret
    obtain ⟨h3,h4⟩:=HL.out;exact ⟨zkk (by rw [HT.out,HE.out,if_pos (by omega)]),rfl⟩
   ·go_wp2
    go_ret
    obtain ⟨h3,h4⟩:=HL.out;exact ⟨zkk (by rw [HT.out,HE.out,if_neg (by omega)]),rfl⟩
theorem zvf {A B:Option Addr} {n c m c':Nat} {xs ys:List Int} {w:World} (hx:zhq w zox A n c xs) (hy:zhq w zox B m c' ys) :
  Calls Tryz.prog 93 #[.slice A n c,.slice B m c'] w fun e w'=>e=.returned (.int .i64 (lexI xs ys))∧w=w':=by
 go_enter Tryz.func93,Tryz.ntmps93
 go_wp2_with (go_at_call 107;refine (zky hx hy).mono ?_;rintro e w' ⟨rfl,rfl⟩)
 go_ret
 exact ⟨rfl,rfl⟩
def orI (xs:List Int):Int:=(xs.find? fun a=>a != 0).getD 0
set_option maxHeartbeats 400000 in
theorem cmpOr_any {A:Option Addr} {n c:Nat} {xs:List Int} {w:World} (hx:zhq w zox A n c xs) :
  Calls Tryz.prog 105 #[.slice A n c] w fun e w'=>e=.returned (.int .i64 (orI xs))∧w=w':=by
 have hns:=hx.small;have HL:=Lib.hid hx.len
 go_enter Tryz.func105,Tryz.ntmps105
 go_wp2
 go_loop [5,8] (fun _ i=>∃ k:Nat,k≤n∧i=.int .i64 k∧Hid (((xs.take k).find? fun a=>a != 0)=none)) (fun _ i=>n-(intOf i).toNat)
 case atStart=>exact ⟨0,by omega,rfl,Lib.hid (by simp)⟩
 case round =>
  obtain ⟨k,hk,rfl,HT⟩:=hrel;by_cases h1:k<n
  ·obtain ⟨b,o,x,rfl,hx1,hx2⟩:=hx.int_at h1;have HX:=Lib.hid hx1;clear hx1;by_cases h2:x=0
   ·have d2:(x != 0)=false:=by simp [h2]
    have H2:=Lib.hid h2;clear h2
    go_wp2
    go_round
    case rel=>exact ⟨k+1,by omega,by go_num,Lib.hid (by rw [zbk HX.out,List.find?_append,HT.out,H2.out];rfl)⟩
    case measure=>simp [intOf]<;>omega
   ·have d2:(x != 0)=true:=by simp [h2]
    go_wp2
    go_ret
    refine ⟨zkk ?_,rfl⟩;have hsp:=List.take_append_drop (k+1) xs;unfold orI;rw [← hsp,List.find?_append,zbk HX.out,List.find?_append,HT.out];simp [h2]
  ·go_wp2
   go_ret
   have ht:=HT.out;rw [List.take_of_length_le (by rw [HL.out];omega)] at ht;exact ⟨zkk (by unfold orI;rw [ht];rfl),rfl⟩
theorem orI_cmp (xs ys:List Int):orI [cmpI xs.length ys.length,lexI xs ys]=cmpW xs ys:=by
 unfold orI cmpI cmpW;by_cases h1:xs.length<ys.length
 ·rw [if_pos (by omega),if_pos h1];rfl
 ·by_cases h2:ys.length<xs.length
  ·rw [if_neg (by omega),if_pos (by omega),if_neg h1,if_pos h2];rfl
  ·rw [if_neg (by omega),if_neg (by omega),if_neg h1,if_neg h2];by_cases h3:lexI xs ys=0
   ·simp [h3]
   ·simp [h3]
theorem src_two {w:World} (x y:Value) (t:TypeId):Src (w.alloc (.cells #[x,y] t)) (some ⟨w.heap.size,0,none⟩) 2 [x,y] :=
 ⟨rfl,fun _=>⟨_,_,rfl,fun j u hu=>by
  have:=cell_two_new w x y t j u hu
  rwa [addr_add] at this⟩⟩
theorem ints_row {w:World} (x y:Int) (t:TypeId):zhq (w.alloc (.cells #[.int .i64 x,.int .i64 y] t)) zox (some ⟨w.heap.size,0,none⟩) 2 2 [x,y]:=by
 refine ⟨rfl,Nat.le_refl _,by omega,fun _=>⟨_,_,rfl,fun i z hz=>?_⟩⟩;obtain ⟨_,hc⟩:=src_two (w:=w) (.int .i64 x) (.int .i64 y) t;obtain ⟨b,o,e,hcc⟩:=hc (by omega);injection e with e
 injection e with e1 e2
 subst e1 e2
 match i,hz with
 | 0,hz =>
  simp at hz;subst hz;exact ⟨_,hcc 0 _ rfl,rfl⟩
 | 1,hz =>
  simp at hz;subst hz;exact ⟨_,hcc 1 _ rfl,rfl⟩
set_option maxHeartbeats 400000 in
theorem zs7 {A B:Option Addr} {n c m c':Nat} {xs ys:List Int} {w:World} (hx:zhq w zox A n c xs) (hy:zhq w zox B m c' ys) :
  Calls Tryz.prog 78 #[.slice A n c,.slice B m c'] w fun e w'=>e=.returned (.int .i64 (cmpW xs ys))∧w.alloc (.cells #[.int .i64 (cmpI xs.length ys.length),.int .i64 (lexI xs ys)] 3)=w':=by
 have hn:=hx.small;have hm:=hy.small;have hc1:=Lib.hid (zky hx hy);have HE:=Lib.hid (orI_cmp xs ys);have h1:=hx.len;have h2:=hy.len;have HO:=Lib.hid (fun t=>cmpOr_any (ints_row (w:=w) (cmpI xs.length ys.length) (lexI xs ys) t));rw [h1,h2] at HE HO;rw [h1,h2];clear h1 h2 hx hy
 go_enter Tryz.func78,Tryz.ntmps78
 go_wp2_with (first | (go_at_call 106;refine (zkj _ _ _).mono ?_;rintro e w' ⟨rfl,rfl⟩) | (go_at_call 107;refine hc1.out.mono ?_;rintro e w' ⟨rfl,rfl⟩) | (go_at_call 105;refine (HO.out _).mono ?_;rintro e w' ⟨rfl,rfl⟩))
 go_ret
 exact ⟨zkk HE.out,rfl⟩
end Go.Proofs.YtbcommjbpmhdbaaGreatDoor
namespace Go.Proofs
section
open Go.Shelf
def Tryz.sortW_ren:Go.Shelf.Ren:=⟨fun | 6=>102 | 15=>115 | 14=>122 | 28=>141 | 29=>142 | 20=>144 | 21=>145 | 22=>146 | 23=>147 | 24=>148 | 25=>149 | 26=>150 | 27=>151 | 46=>164 | 47=>156 | 48=>157 | 49=>165 | 50=>166 | 57=>173 | n=>n,fun | 22=>22 | 24=>50 | 25=>68 | 3=>3 | 39=>150 | 0=>0 | 53=>170 | 55=>172 | 4=>4 | 46=>164 | 45=>163 | 50=>146 | 5=>5 | 9=>9 | 66=>182 | 70=>186 | 76=>195 | 77=>155 | n=>n,fun | n=>n⟩
theorem Tryz.sortW:Go.Proofs.SlLaysF.n6 Tryz.prog Tryz.sortW_ren:={
 mixed:=by kernel_rfl
 f6:=⟨Tryz.f102.name,by decide,Tryz.func102.trans (congrArg some (by kernel_rfl))⟩
 f14:=⟨Tryz.f122.name,by decide,Tryz.func122.trans (congrArg some (by kernel_rfl))⟩
 f15:=Tryz.func115.trans (congrArg some (by kernel_rfl))
 f20:=⟨Tryz.f144.name,by decide,Tryz.func144.trans (congrArg some (by kernel_rfl))⟩
 f21:=⟨Tryz.f145.name,by decide,Tryz.func145.trans (congrArg some (by kernel_rfl))⟩
 f22:=⟨Tryz.f146.name,by decide,Tryz.func146.trans (congrArg some (by kernel_rfl))⟩
 f23:=⟨Tryz.f147.name,by decide,Tryz.func147.trans (congrArg some (by kernel_rfl))⟩
 f24:=⟨Tryz.f148.name,by decide,Tryz.func148.trans (congrArg some (by kernel_rfl))⟩
 f25:=⟨Tryz.f149.name,by decide,Tryz.func149.trans (congrArg some (by kernel_rfl))⟩
 f26:=⟨Tryz.f150.name,by decide,Tryz.func150.trans (congrArg some (by kernel_rfl))⟩
 f27:=⟨Tryz.f151.name,by decide,Tryz.func151.trans (congrArg some (by kernel_rfl))⟩
 f28:=Tryz.func141.trans (congrArg some (by kernel_rfl))
 f29:=Tryz.func142.trans (congrArg some (by kernel_rfl))
 f46:=⟨Tryz.f164.name,by decide,Tryz.func164.trans (congrArg some (by kernel_rfl))⟩
 f47:=Tryz.func156.trans (congrArg some (by kernel_rfl))
 f48:=Tryz.func157.trans (congrArg some (by kernel_rfl))
 f49:=⟨Tryz.f165.name,by decide,Tryz.func165.trans (congrArg some (by kernel_rfl))⟩
 f50:=⟨Tryz.f166.name,by decide,Tryz.func166.trans (congrArg some (by kernel_rfl))⟩
 f57:=⟨Tryz.f173.name,by decide,Tryz.func173.trans (congrArg some (by kernel_rfl))⟩
 t0:=Tryz.underlying0
 a0:=Tryz.isAgg0
 z0:=Tryz.sizeOf0
 v0:=Tryz.zeroValue0
 t3:=Tryz.underlying3
 a3:=Tryz.isAgg3
 z3:=Tryz.sizeOf3
 v3:=Tryz.zeroValue3
 t4:=Tryz.underlying4
 a4:=Tryz.isAgg4
 z4:=Tryz.sizeOf4
 v4:=Tryz.zeroValue4
 t5:=Tryz.underlying5
 a5:=Tryz.isAgg5
 z5:=Tryz.sizeOf5
 v5:=Tryz.zeroValue5
 t9:=Tryz.underlying9
 a9:=Tryz.isAgg9
 z9:=Tryz.sizeOf9
 v9:=Tryz.zeroValue9
 t22:=Tryz.underlying22
 a22:=Tryz.isAgg22
 z22:=Tryz.sizeOf22
 v22:=Tryz.zeroValue22
 a24:=Tryz.isAgg50
 z24:=Tryz.sizeOf50
 t25:=Tryz.underlying68
 a25:=Tryz.isAgg68
 z25:=Tryz.sizeOf68
 v25:=Tryz.zeroValue68
 t39:=Tryz.underlying150
 a39:=Tryz.isAgg150
 z39:=Tryz.sizeOf150
 v39:=Tryz.zeroValue150
 t45:=Tryz.underlying163
 a45:=Tryz.isAgg163
 z45:=Tryz.sizeOf163
 v45:=Tryz.zeroValue163
 t46:=Tryz.underlying164
 a46:=Tryz.isAgg164
 z46:=Tryz.sizeOf164
 v46:=Tryz.zeroValue164
 t50:=Tryz.underlying146
 a50:=Tryz.isAgg146
 z50:=Tryz.sizeOf146
 v50:=Tryz.zeroValue146
 t53:=Tryz.underlying170
 a53:=Tryz.isAgg170
 z53:=Tryz.sizeOf170
 v53:=Tryz.zeroValue170
 t55:=Tryz.underlying172
 a55:=Tryz.isAgg172
 z55:=Tryz.sizeOf172
 v55:=Tryz.zeroValue172
 t66:=Tryz.underlying182
 a66:=Tryz.isAgg182
 z66:=Tryz.sizeOf182
 v66:=Tryz.zeroValue182
 t70:=Tryz.underlying186
 a70:=Tryz.isAgg186
 z70:=Tryz.sizeOf186
 v70:=Tryz.zeroValue186
 t76:=Tryz.underlying195
 a76:=Tryz.isAgg195
 z76:=Tryz.sizeOf195
 v76:=Tryz.zeroValue195
 t77:=Tryz.underlying155
 a77:=Tryz.isAgg155
 z77:=Tryz.sizeOf155
 v77:=Tryz.zeroValue155 }
def Tryz.sortF_ren:Go.Shelf.Ren:=⟨fun | 14=>114 | 20=>133 | 21=>134 | 22=>135 | 23=>136 | 24=>137 | 25=>138 | 26=>139 | 27=>140 | 46=>155 | 47=>156 | 48=>157 | 49=>158 | 50=>159 | 15=>115 | 57=>168 | 28=>141 | 29=>142 | n=>n,fun | 24=>66 | 22=>30 | 3=>3 | 25=>96 | 4=>4 | 0=>0 | 46=>164 | 45=>163 | 50=>146 | 66=>182 | 39=>150 | 55=>172 | 70=>186 | 76=>195 | 77=>155 | 53=>170 | 5=>5 | 9=>9 | n=>n,fun | n=>n⟩
theorem Tryz.sortF:Go.Proofs.SlLaysF0.n14 Tryz.prog Tryz.sortF_ren:={
 mixed:=by kernel_rfl
 f14:=⟨Tryz.f114.name,by decide,Tryz.func114.trans (congrArg some (by kernel_rfl))⟩
 f15:=Tryz.func115.trans (congrArg some (by kernel_rfl))
 f20:=⟨Tryz.f133.name,by decide,Tryz.func133.trans (congrArg some (by kernel_rfl))⟩
 f21:=⟨Tryz.f134.name,by decide,Tryz.func134.trans (congrArg some (by kernel_rfl))⟩
 f22:=⟨Tryz.f135.name,by decide,Tryz.func135.trans (congrArg some (by kernel_rfl))⟩
 f23:=⟨Tryz.f136.name,by decide,Tryz.func136.trans (congrArg some (by kernel_rfl))⟩
 f24:=⟨Tryz.f137.name,by decide,Tryz.func137.trans (congrArg some (by kernel_rfl))⟩
 f25:=⟨Tryz.f138.name,by decide,Tryz.func138.trans (congrArg some (by kernel_rfl))⟩
 f26:=⟨Tryz.f139.name,by decide,Tryz.func139.trans (congrArg some (by kernel_rfl))⟩
 f27:=⟨Tryz.f140.name,by decide,Tryz.func140.trans (congrArg some (by kernel_rfl))⟩
 f28:=Tryz.func141.trans (congrArg some (by kernel_rfl))
 f29:=Tryz.func142.trans (congrArg some (by kernel_rfl))
 f46:=⟨Tryz.f155.name,by decide,Tryz.func155.trans (congrArg some (by kernel_rfl))⟩
 f47:=Tryz.func156.trans (congrArg some (by kernel_rfl))
 f48:=Tryz.func157.trans (congrArg some (by kernel_rfl))
 f49:=⟨Tryz.f158.name,by decide,Tryz.func158.trans (congrArg some (by kernel_rfl))⟩
 f50:=⟨Tryz.f159.name,by decide,Tryz.func159.trans (congrArg some (by kernel_rfl))⟩
 f57:=⟨Tryz.f168.name,by decide,Tryz.func168.trans (congrArg some (by kernel_rfl))⟩
 t0:=Tryz.underlying0
 a0:=Tryz.isAgg0
 z0:=Tryz.sizeOf0
 v0:=Tryz.zeroValue0
 t3:=Tryz.underlying3
 a3:=Tryz.isAgg3
 z3:=Tryz.sizeOf3
 v3:=Tryz.zeroValue3
 t4:=Tryz.underlying4
 a4:=Tryz.isAgg4
 z4:=Tryz.sizeOf4
 v4:=Tryz.zeroValue4
 t5:=Tryz.underlying5
 a5:=Tryz.isAgg5
 z5:=Tryz.sizeOf5
 v5:=Tryz.zeroValue5
 t9:=Tryz.underlying9
 a9:=Tryz.isAgg9
 z9:=Tryz.sizeOf9
 v9:=Tryz.zeroValue9
 t22:=Tryz.underlying30
 a22:=Tryz.isAgg30
 z22:=Tryz.sizeOf30
 v22:=Tryz.zeroValue30
 t25:=Tryz.underlying96
 a25:=Tryz.isAgg96
 z25:=Tryz.sizeOf96
 v25:=Tryz.zeroValue96
 t39:=Tryz.underlying150
 a39:=Tryz.isAgg150
 z39:=Tryz.sizeOf150
 v39:=Tryz.zeroValue150
 t45:=Tryz.underlying163
 a45:=Tryz.isAgg163
 z45:=Tryz.sizeOf163
 v45:=Tryz.zeroValue163
 t46:=Tryz.underlying164
 a46:=Tryz.isAgg164
 z46:=Tryz.sizeOf164
 v46:=Tryz.zeroValue164
 t50:=Tryz.underlying146
 a50:=Tryz.isAgg146
 z50:=Tryz.sizeOf146
 v50:=Tryz.zeroValue146
 t53:=Tryz.underlying170
 a53:=Tryz.isAgg170
 z53:=Tryz.sizeOf170
 v53:=Tryz.zeroValue170
 t55:=Tryz.underlying172
 a55:=Tryz.isAgg172
 z55:=Tryz.sizeOf172
 v55:=Tryz.zeroValue172
 t66:=Tryz.underlying182
 a66:=Tryz.isAgg182
 z66:=Tryz.sizeOf182
 v66:=Tryz.zeroValue182
 t70:=Tryz.underlying186
 a70:=Tryz.isAgg186
 z70:=Tryz.sizeOf186
 v70:=Tryz.zeroValue186
 t76:=Tryz.underlying195
 a76:=Tryz.isAgg195
 z76:=Tryz.sizeOf195
 v76:=Tryz.zeroValue195
 t77:=Tryz.underlying155
 a77:=Tryz.isAgg155
 z77:=Tryz.sizeOf155
 v77:=Tryz.zeroValue155 }
end
end Go.Proofs
namespace Go.Proofs.YtbcommjbpmhdbaaGreatDoor.Sym
section
open Go.RowKit Go.Sort
theorem putRow_map {E:Type} [Inhabited E] (enc:E→Value) (w:World) (blk off:Nat) (d:Array E):putRow enc w blk off d=putRow id w blk off (d.map enc):=by
 unfold putRow;congr 1;funext c;unfold putCells;congr 1;funext k x;rw [Array.size_map];by_cases h:off≤k∧k<off+d.size
 ·have h1:k-off<d.size:=by omega
  rw [if_pos h,if_pos h,getElem!_pos d _ h1,getElem!_pos (d.map enc) _ (by simpa using h1)];simp
 ·rw [if_neg h,if_neg h]
theorem holds_map {E:Type} [Inhabited E] {enc:E→Value} {w:World} {blk off:Nat} {d:Array E} (h:Go.Sort.Holds id w blk off (d.map enc)):Go.Sort.Holds enc w blk off d:=fun j hj=>by
 have:=h j (by simpa using hj);rw [getElem!_pos (d.map enc) _ (by simpa using hj)] at this;rw [getElem!_pos d _ hj];simpa using this
def one1 (us:List Value):Value:=us.headD undef
theorem flat_one1 {E:Type} [Inhabited E] {enc:E→List Value} (hk:∀ x,(enc x).length=1) (d:Array E):Go.Sort.flatK enc 1 d=d.map fun x=>one1 (enc x):=by
 rw [zwq hk]
 have:(d.toList.map enc).flatten=d.toList.map fun x=>one1 (enc x):=by
  generalize d.toList=l
  induction l with
  | nil=>rfl
  | cons x l ih =>
   rw [List.map_cons,List.flatten_cons,ih,List.map_cons];have:=hk x
   match h:enc x,this with
   | [v],_=>rfl
 rw [this];apply Array.ext';simp
theorem sortC_words:SortC Tryz.prog 102 1 one1:=by
 refine ⟨fun p cap fv w=>AnyF.slices_SortFunc_none { Tryz.sortW with } p cap fv w,?_⟩;intro E _ enc cf g blk cap d w hk h1 hO eg hcmp hH hblk hsz;have e1:∀ m (dk:Array E),putRow (fun x=>one1 (enc x)) (Sort.ahead w m) blk 0 dk=putRow id (Sort.ahead w m) blk 0 (Go.Sort.flatK enc 1 dk):=fun m dk=>by rw [flat_one1 hk,putRow_map]
 have hone:OneCell fun x=>one1 (enc x):=fun x=>by
  have h2:=hk x;have h3:=h1 x
  match h:enc x,h2 with
  | [v],_ =>
   show (one1 (enc x)).oneCell'=true;rw [h] at h3 ⊢;exact h3 v (by simp)
 refine (Any.slices_SortFunc Tryz.sortW (fun x=>one1 (enc x)) hone cf hO g #[] blk 0 cap d w eg (fun m os dk hs x y=>?_) (holds_map (by rw [← flat_one1 hk];exact hH)) hblk hsz).mono ?_
 ·have:=hcmp m os dk hs x y;unfold sortWorld;rw [e1];simpa using this
 ·rintro e w' ⟨he,d',n,os,hp,hs,hw⟩;exact ⟨he,d',n,os,hp,hs,by rw [hw];unfold sortWorld;rw [e1]⟩
theorem aggF:∀ w,(isAgg (Tryz.sortF_ren.t 24)).run Tryz.prog w=.ok true w:=Tryz.isAgg66
theorem sizF:∀ w,(Go.sizeOf (Tryz.sortF_ren.t 24)).run Tryz.prog w=.ok 2 w:=Tryz.sizeOf66
set_option maxHeartbeats 2000000 in
theorem sortC_finder:SortC Tryz.prog 91 2 (fun us=>.agg us.toArray):=by
 refine ⟨fun p cap fv w=>?_,?_⟩
 ·have hp:=fun lim W=>AnyF.pdqsortCmpFunc_none (P:=Tryz.prog) (ρ:=Tryz.sortF_ren) Tryz.sortF p cap lim fv W
  have hl:∀ W,Calls Tryz.prog 115 #[.int .u64 0] W fun e w'=>e=.returned (.int .i64 (Lib.bitLen 0:Nat))∧w'=W:=fun W=>by
   have h:=Any.bits_Len (SlLaysF0.n15.bits (P:=Tryz.prog) (ρ:=Tryz.sortF_ren) { Tryz.sortF with }) 0 W (by omega) (by omega);exact h
  go_enter Tryz.func91,Tryz.ntmps91
  go_wp2_with (first | (go_at_call 115;refine (hl _).mono ?_;rintro e w' ⟨rfl,rfl⟩) | (go_at_call 114;refine (hp _ _).mono ?_;rintro e w' ⟨rfl,rfl⟩))
  go_end0
  exact ⟨rfl,rfl⟩
 ·intro E _ enc cf g blk cap d w hk h1 hO eg hcmp hH hblk hsz;have hlim:Lib.bitLen d.size<4611686018427387904:=Nat.lt_of_le_of_lt (Lib.bitLen_le d.size 62 (by omega) (by omega)) (by omega)
  have hcmp':CmpLays Tryz.prog g #[] enc 2 cf blk 0 d.size w:=fun m os dk hs x y=>by
   unfold sortWorldK putRowK;simpa using hcmp m os dk hs x y
  have hp:=AnyQ.pdqsortCmpFunc_all (P:=Tryz.prog) (ρ:=Tryz.sortF_ren) Tryz.sortF 2 aggF sizF enc cf g #[] hO blk 0 cap d w eg hcmp' ⟨hk,h1,hH,hblk⟩ (d.size+1) 0 d.size (Lib.bitLen d.size) d w (by omega) rfl (SWK.start hH) (Nat.zero_le _) (Nat.le_refl _) hsz hlim (Or.inl rfl)
  have hl:Calls Tryz.prog 115 #[.int .u64 (d.size:Int)] w fun e w'=>e=.returned (.int .i64 (Lib.bitLen d.size:Nat))∧w'=w:=by
   have h:=Any.bits_Len (SlLaysF0.n15.bits (P:=Tryz.prog) (ρ:=Tryz.sortF_ren) { Tryz.sortF with }) (d.size:Int) w (by omega) (by omega)
   rwa [Int.toNat_natCast] at h
  have wr:IntKind.u64.wrap (d.size:Int)=d.size:=by simp [IntKind.wrap,IntKind.bits,IntKind.signed];omega
  have hps:=pdq_sorts (ltOf cf) hO d 0 d.size (Lib.bitLen d.size) true true (Nat.zero_le _) (Nat.le_refl _) (Or.inl rfl);clear hH hcmp hcmp' hk h1
  go_enter Tryz.func91,Tryz.ntmps91
  go_wp2_with (first | (go_at_call 115;refine hl.mono ?_;rintro e w' ⟨rfl,rfl⟩) | (go_at_call 114;refine hp.mono ?_;rintro e w' ⟨rfl,n,os,rfl⟩))
  go_end0
  exact ⟨rfl,_,n,os,hps.1,hps.2,rfl⟩
theorem cmpG_lex {f:List Int→List Int→Option Int} (hf:∀ x y r,x.length≤17592186044416→f x y=some r→r=lexI x y):CmpG Tryz.prog 93 (nL cI) f:=by
 intro W S u u' x y r h hu hu';obtain ⟨A,n,c,rfl,h1⟩:=zgd hu;have:=hf x y r (by rw [h1.len];exact h1.small) h;subst this;obtain ⟨B,m,c',rfl,h2⟩:=zgd hu';refine (zvf h1 h2).mono fun e w' ⟨he,hw⟩=>⟨he,0,#[],?_⟩;rw [← hw,Sort.grow_empty];rfl
theorem cmpG_compare {f:List Int→List Int→Option Int} (hf:∀ x y r,x.length≤17592186044416→f x y=some r→r=cmpW x y):CmpG Tryz.prog 78 (nL cI) f:=by
 intro W S u u' x y r h hu hu';obtain ⟨A,n,c,rfl,h1⟩:=zgd hu;have:=hf x y r (by rw [h1.len];exact h1.small) h;subst this;obtain ⟨B,m,c',rfl,h2⟩:=zgd hu';refine (zs7 h1 h2).mono fun e w' ⟨he,hw⟩=>⟨he,0,#[.cells #[.int .i64 (cmpI x.length y.length),.int .i64 (lexI x y)] 3],?_⟩;rw [← hw,Sort.alloc_eq_grow];rfl
theorem rep_two {w:World} {S:Nat→Prop} {u:Value} {x y:IV} (h:RepI w S u (.agg [x,y])):∃ a b,u=.agg #[a,b]∧RepI w S a x∧RepI w S b y:=by
 generalize hz:IV.agg [x,y]=z at h;cases h with
 | agg us cs hl h1 hr =>
  injection hz with hz
  subst hz
  match us,hl with
  | [a,b],_=>exact ⟨a,b,rfl,hr 0 a x rfl rfl,hr 1 b y rfl rfl⟩
 | _=>cases hz
set_option maxHeartbeats 400000 in
theorem find1_any {A A' B B':Option Addr} {n c m c' p q p' q':Nat} {xs ys:List Int} {w:World} (hx:zhq w zox A n c xs) (hy:zhq w zox B m c' ys) :
  Calls Tryz.prog 92 #[.agg #[.slice A n c,.slice A' p q],.agg #[.slice B m c',.slice B' p' q']] w fun e w'=>e=.returned (.int .i64 (lexI xs ys))∧∃ q os,w'=Sort.grow (w.drewN q) os:=by
 have key:∀ o o',∃ q os,(w.alloc o).alloc o'=Sort.grow (w.drewN q) os:=fun o o'=>⟨0,#[o]++#[o'],by
  rw [Sort.alloc_eq_grow,Sort.alloc_eq_grow,Sort.grow_grow]
  rfl⟩
 have hx':∀ o o',zhq ((w.alloc o).alloc o') zox A n c xs:=fun o o'=>(hx.kept (zg4 (World.grownBy_alloc w o none))).kept (zg4 (World.grownBy_alloc _ o' none));have hy':∀ o o',zhq ((w.alloc o).alloc o') zox B m c' ys:=fun o o'=>(hy.kept (zg4 (World.grownBy_alloc w o none))).kept (zg4 (World.grownBy_alloc _ o' none))
 go_enter Tryz.func92,Tryz.ntmps92
 go_wp2_with (go_at_call 93;refine (zvf (hx' _ _) (hy' _ _)).mono ?_;rintro e w' ⟨rfl,rfl⟩)
 go_ret
 exact ⟨rfl,key _ _⟩
theorem cmpG_find1 {T:Type} {X:T→IV} {i o:T→List Int} (hX:∀ x,X x=.agg [nL cI (i x),nL cI (o x)]) {f:T→T→Option Int} (hf:∀ x y r,(i x).length≤17592186044416→f x y=some r→r=lexI (i x) (i y)):CmpG Tryz.prog 92 X f:=by
 intro W S u u' x y r h hu hu';rw [hX] at hu hu';obtain ⟨a,b,rfl,ha,hb⟩:=rep_two hu;obtain ⟨a',b',rfl,ha',hb'⟩:=rep_two hu';obtain ⟨A,n,c,rfl,h1⟩:=zgd ha;have:=hf x y r (by rw [h1.len];exact h1.small) h;subst this;obtain ⟨B,m,c',rfl,h2⟩:=zgd ha';obtain ⟨_,_,_,rfl,_⟩:=zgd hb;obtain ⟨_,_,_,rfl,_⟩:=zgd hb';exact find1_any h1 h2
theorem rep_of_one {W:World} {S:Nat→Prop} {us:List Value} {x:IV} (hl:us.length=1) (hr:zj0 W S us [x]):RepI W S (one1 us) x:=by
 match us,hl with
 | [u],_=>exact hr.2 0 u x rfl rfl
def CmpE {T:Type} (P:Program) (g:FuncId) (X:T→IV) (f:T→T→Option Int):Prop:=(∀ args w,(callFunc g args).run P w=.ok (.enter g args) w)∧CmpG P g X f
end
section
theorem Tryz.infoI_traces:(Tryz.prog.info? 66).map (fun i=>(i.zero,i.size,i.bytes))=some (some (.agg #[.slice none 0 0,.slice none 0 0]),2,48):=by kernel_rfl
section
variable {P:Program}
theorem zws (w:World) {o:Oper} {a:Act} {K:Act→World→Prop} {Q:Exit→Act→World→Prop} (d s:Operand) (t t':TypeId)
  (ho:o.op=.call { callee:=.builtin .copy,args:=#[d,s],argTypes:=#[t,t'] }) (v u:Value) (hd:a.eval d=v) (hs:a.eval s=u) {v':Value} {w':World}
  (hr:(Builtin.copy_ #[t,t'] o.type #[v,u]).run P w=.ok v' w') (h:K (a.put o.dst v') w'):o.wp P a w K Q:=by
 unfold Oper.wp execOp;simp only [ho,resolve,invoke,builtin,Sem.run_bind,Sem.run_pure,Result.andThen_ok,List.map_toArray,List.map_cons,List.map_nil,hd,hs,hr];exact h
theorem zoj (w:World) {ops:Array Oper} {rest:List Oper} {o:Oper} {a:Act} {Q:Exit→Act→World→Prop} (hgd:o.guard=none) (d s:Operand) (t t':TypeId)
  (ho:o.op=.call { callee:=.builtin .copy,args:=#[d,s],argTypes:=#[t,t'] }) (v u:Value) (hd:a.eval d=v) (hs:a.eval s=u) {v':Value} {w':World}
  (hr:(Builtin.copy_ #[t,t'] o.type #[v,u]).run P w=.ok v' w') (h:wpList P ops Q rest (a.put o.dst v') w'):wpList P ops Q (o::rest) a w :=
 wpList_plain hgd fun _ hK=>zws w d s t t' ho v u hd hs hr (hK _ _ h)
theorem zrq {ops:Array Oper} {o:Oper} {a:Act} {w:World} {K:Act→World→Prop} {Q:Exit→Act→World→Prop} {E:Prop}
  (hg:o.guard=none) (d x:Operand) (dT sT:TypeId) (hop:o.op=Op.call { callee:=Callee.builtin Builtin.copy,args:=#[d,x],argTypes:=#[dT,sT] })
  (v u:Value) (hd:a.eval d=v) (hx:a.eval x=u) {v':Value} {w':World} (hr:(Builtin.copy_ #[dT,sT] o.type #[v,u]).run P w=.ok v' w') (hK:K (a.put o.dst v') w') :
  if Region.wanted o (yielded ops a.tmps)=true then Oper.wp P o a w K Q else E:=by
 have hw:Region.wanted o (yielded ops a.tmps)=true:=by simp [Region.wanted,hg]
 rw [if_pos hw];exact zws w d x dT sT hop v u hd hx hr hK
end
def InsPost (t:TypeId) (k n:Nat) (us:List Value) (v:Value) (w:World) (e:Ending) (w':World):Prop :=
 ∃ v',e=.returned v'∧w'.ownsRow 0 t k v' (n+1) us∧w.grownBy w' v.ownBlock∧(v'.ownBlock=v.ownBlock∨v'.ownBlock=some w.heap.size)
set_option maxRecDepth 100000 in
set_option maxHeartbeats 400000 in
theorem insert_end (w:World) (v:Value) (n vb vc:Nat) (us news:List Value) (ho:w.ownsRow 0 66 2 v n us) (hl:news.length=1*2) (hb:∀ (j:Nat) u,news[j]?=some u→w.cell? ⟨vb,0+j,none⟩=some u)
  (h1:∀ u∈news,u.oneCell'=true) (hn:n≤1000000):Calls Tryz.prog 132 #[v,.int .i64 n,.slice (some ⟨vb,0,none⟩) 1 vc] w (InsPost 66 2 n (us++news) v w):=by
 obtain ⟨j0,ji,jz0,jz1,jz2⟩:=info_parts Tryz.infoI_traces;have hc6:n+1≤maxLen:=by unfold maxLen;omega
 have hc7:(n+1)*48≤140737488355328:=by omega
 rcases ho.2 with ⟨hv,h0⟩ | ⟨g,cap,cur,hv,_,hg,hnc,hcm,hcz,hct⟩
 ·subst hv h0
  go_enter Tryz.func132,Tryz.ntmps132
  go_wp2_with (at_builtin;refine zf1 rfl (.tmp 23) (.tmp 24) 30 rfl 0 66 j0 (.agg #[.slice none 0 0,.slice none 0 0]) 2 48 Tryz.underlying30 ji jz0 jz1 jz2 rfl (by decide) _ _ _ rfl ho _ _ _ _ rfl hl (fun _=>⟨vb,0,rfl,hb⟩) h1 hc6 hc7 (Nat.zero_le _) ?_;intro v1 w1 hown1 hg1 hb1)
  all_goals (go_ret;exact ⟨v1,rfl,hown1,hg1,hb1⟩)
 ·subst hv
  go_enter Tryz.func132,Tryz.ntmps132
  go_wp2_with (at_builtin;refine zf1 rfl (.tmp 23) (.tmp 24) 30 rfl 0 66 j0 (.agg #[.slice none 0 0,.slice none 0 0]) 2 48 Tryz.underlying30 ji jz0 jz1 jz2 rfl (by decide) _ _ _ rfl ho _ _ _ _ rfl hl (fun _=>⟨vb,0,rfl,hb⟩) h1 hc6 hc7 (Nat.zero_le _) ?_;intro v1 w1 hown1 hg1 hb1)
  all_goals (go_ret;exact ⟨v1,rfl,hown1,hg1,hb1⟩)
set_option maxRecDepth 100000 in
set_option maxHeartbeats 800000 in
theorem insert_shift (w:World) (g cap n i vb vc:Nat) (cur cur2:Array Value) (us news:List Value) (hg:w.heap[g]?=some (.cells cur 66 (0,0))) (hcz:cur.size=cap*2) (hct:cur.toList.take (n*2)=us)
  (hcm:cap≤maxLen) (hne:vb≠g) (hvb:w.heap[vb]?=some (.cells cur2 66 (0,0))) (hvz:cur2.toList.take 2=news) (hl:news.length=2) (h1:∀ u∈us,u.oneCell'=true) (h2:∀ u∈news,u.oneCell'=true) (hi:i<n) (hr:n<cap) (hn:n≤1000000) :
  Calls Tryz.prog 132 #[.slice (some ⟨g,0,none⟩) n cap,.int .i64 i,.slice (some ⟨vb,0,none⟩) 1 vc] w (InsPost 66 2 n (us.take (i*2)++news++us.drop (i*2)) (.slice (some ⟨g,0,none⟩) n cap) w):=by
 obtain ⟨j0,ji,jz0,jz1,jz2⟩:=info_parts Tryz.infoI_traces;have hz2:¬ ((i:Int)=(n:Int)):=by omega
 have hov:∀ lb cb,(callFunc 153 #[.slice (some ⟨vb,0,none⟩) 1 vc,.slice (some ⟨g,(i+1)*2,none⟩) lb cb]).run Tryz.prog w=.ok (.value (.bool false)) w:=fun lb cb=>by
  rw [run_callFunc_extern Tryz.func153 (by kernel_rfl) (by kernel_rfl) (by kernel_rfl) (e:=Extern.SlicesOverlaps.overlaps #[30,30] #[4]) (by kernel_rfl),
   Lib.run_overlaps_apart w 30 4 66 Tryz.underlying30 2 Tryz.sizeOf66 ⟨vb,0,none⟩ ⟨g,(i+1)*2,none⟩ 1 vc lb cb hne 66 66 cur2.size cur.size (by simp [World.shape?,hvb]) (by simp [World.shape?,hg]) (by omega) (by simp [World.frozen?,hvb]) (by simp [World.frozen?,hvb])]
  rfl
 have hct':∀ (j:Nat),j<n*2→cur[j]?=us[j]?:=fun j hj=>by
  rw [← hct,List.getElem?_take,if_pos hj,Array.getElem?_toList]
 have hul:us.length=n*2:=by
  rw [← hct,List.length_take,Array.length_toList];omega
 have hdl:(us.drop (i*2)).length=(n-i)*2:=by rw [List.length_drop,hul];omega
 obtain ⟨R1,hR1⟩:∃ R1,R1=(cur.toList.take ((i+1)*2)++us.drop (i*2)++cur.toList.drop ((i+1)*2+(us.drop (i*2)).length)).toArray:=⟨_,rfl⟩
 have hcp1:∀ ty dl dc sl sc,dl=n-i→sl=n+1-i→(Builtin.copy_ #[30,30] ty #[.slice (some ⟨g,(i+1)*2,none⟩) dl dc,.slice (some ⟨g,i*2,none⟩) sl sc]).run Tryz.prog w.drew=.ok (goInt ((n-i:Nat):Int)) (w.drew.setRow g R1):=fun ty dl dc sl sc hd hs=>by
  have hm:Nat.min sl dl=n-i:=by rw [hd,hs];simp only [Nat.min_def];split<;>omega
  have:=znu (P:=Tryz.prog) w.drew 30 30 ty 66 g ((i+1)*2) dl dc ⟨g,i*2,none⟩ sl sc cur 66 (us.drop (i*2)) 2 Tryz.underlying30 (by rw [ji];simp [jz1]) hg (by rw [hm,hdl]) (fun j v hj=>by
   rw [Addr.add_lit]
   rw [List.getElem?_drop] at hj
   have hlt:=(zkI.1 hj).1
   show w.cell? _=_
   simp only [World.cell?,hg]
   rw [hct' _ (by omega)]
   simpa using hj) (by rw [hdl];omega) (fun v hv=>h1 v (List.mem_of_mem_drop hv))
  rw [hm,← hR1] at this;exact this
 have hR1z:R1.size=cap*2:=by
  rw [hR1];simp only [List.size_toArray,zkJ,List.length_take,List.length_drop,Array.length_toList];omega
 have hg1:(w.drew.setRow g R1).heap[g]?=some (.cells R1 66 (0,0)):=setRow_heap w.drew g cur R1 _ _ hg
 have hvb1:(w.drew.setRow g R1).heap[vb]?=some (.cells cur2 66 (0,0)):=by
  rw [setRow_other _ _ _ _ hne];exact hvb
 obtain ⟨R2,hR2⟩:∃ R2,R2=(R1.toList.take (i*2)++news++R1.toList.drop (i*2+news.length)).toArray:=⟨_,rfl⟩
 have hcp2:∀ (W:World) ty dl dc,W.heap[g]?=some (.cells R1 66 (0,0))→W.heap[vb]?=some (.cells cur2 66 (0,0))→1≤dl→(Builtin.copy_ #[30,30] ty #[.slice (some ⟨g,i*2,none⟩) dl dc,.slice (some ⟨vb,0,none⟩) 1 vc]).run Tryz.prog W=.ok (goInt ((1:Nat):Int)) (W.setRow g R2):=fun W ty dl dc hW hV hd=>by
  have hm:Nat.min 1 dl=1:=by simp only [Nat.min_def];split<;>omega
  have:=znu (P:=Tryz.prog) W 30 30 ty 66 g (i*2) dl dc ⟨vb,0,none⟩ 1 vc R1 66 news 2 Tryz.underlying30 (by rw [ji];simp [jz1]) hW (by rw [hm,hl]) (fun j v hj=>by
   rw [Addr.add_lit]
   have hlt:=(zkI.1 hj).1
   simp only [World.cell?,hV]
   rw [← hvz,List.getElem?_take,if_pos (by omega),Array.getElem?_toList] at hj
   simpa using hj) (by rw [hl];omega) h2
  rw [hm,← hR2] at this;exact this
 obtain ⟨US,hUS⟩:∃ US,US=us.take (i*2)++news++us.drop (i*2):=⟨_,rfl⟩;rw [← hUS];have HUS:=Lib.hid hUS;have HR1:=Lib.hid hR1;have HR2:=Lib.hid hR2;have HDL:=Lib.hid hdl;have HUL:=Lib.hid hul;have HCT:=Lib.hid hct;have HL:=Lib.hid hl;have HVZ:=Lib.hid hvz;clear hUS hR1 hR2 hdl hul hct hct' hl hvz h1 h2;have hcp3:=fun ty dl dc=>hcp2 (w.drew.setRow g R1) ty dl dc hg1 hvb1;have hcd:1≤n+1-i:=by omega
 clear hcp2 hg1 hvb1;have mixed:Tryz.prog.follows Departure.mixedOrders=true:=by kernel_rfl
 have hw1:IntKind.i64.wrap ((i:Int)+1)=(i:Int)+1:=by rw [IntKind.wrap_i64];omega
 have hb1:(0:Int)≤(i:Int)+1:=by omega
 have hin:i≤n:=by omega
 have htn:((i:Int)+1).toNat=i+1:=by omega
 have hb2:¬ (cap=i+1):=by omega
 have hb3:(i:Int)≤(n:Int)+1:=by omega
 have hb4:¬ (cap=i):=by omega
 go_enter Tryz.func132,Tryz.ntmps132
 go_wp2_with (simp only [hov])
 go_region_law_o (refine zrq rfl _ _ 30 30 rfl _ _ (by simp [Act.eval,Act.put]) (by simp [Act.eval,Act.put]) (hcp1 _ _ _ _ _ (by omega) (by omega)) ?_)
 go_wp2_with (at_builtin;refine zoj _ rfl _ _ 30 30 rfl _ _ rfl rfl (hcp3 3 (n+1-i) (cap-i) hcd) ?_)
 go_ret
 have hl:=HL.out;have hul:=HUL.out;have hct:=HCT.out;have hdl:=HDL.out;have hRL1:R1.toList=cur.toList.take ((i+1)*2)++us.drop (i*2)++cur.toList.drop ((i+1)*2+(us.drop (i*2)).length):=by rw [HR1.out]
 have hA1:(cur.toList.take ((i+1)*2)).length=(i+1)*2:=by rw [List.length_take,Array.length_toList];omega
 have hT:R1.toList.take (i*2)=us.take (i*2):=by
  rw [hRL1,List.append_assoc,List.take_append_of_le_length (by rw [hA1];omega),List.take_take,← hct,List.take_take];congr 1;omega
 have hD:R1.toList.drop (i*2+2)=us.drop (i*2)++cur.toList.drop ((i+1)*2+(us.drop (i*2)).length):=by
  rw [hRL1,List.append_assoc,List.drop_append_of_le_length (by rw [hA1];omega),List.drop_of_length_le (by rw [hA1];omega),List.nil_append]
 have hRL2:R2.toList=US++cur.toList.drop ((i+1)*2+(us.drop (i*2)).length):=by
  rw [HR2.out,HUS.out,hl,hT,hD];simp
 have hUL:US.length=(n+1)*2:=by
  rw [HUS.out,zkJ,zkJ,hdl,hl,List.length_take,hul];omega
 refine ⟨_,rfl,⟨hUL,.inr ⟨g,cap,R2,rfl,Nat.zero_le _,?_,by omega,hcm,?_,?_⟩⟩,⟨rfl,rfl,rfl,?_,fun k hk hkn=>?_⟩,.inl rfl⟩
 ·exact setRow_heap _ g R1 R2 _ _ (setRow_heap w.drew g cur R1 _ _ hg)
 ·rw [← Array.length_toList,hRL2,zkJ,hUL,List.length_drop,Array.length_toList,hdl];omega
 ·rw [hRL2,List.take_append_of_le_length (by omega),List.take_of_length_le (by omega)]
 ·simp
 ·have hkg:k≠g:=fun e=>hkn (by rw [e];rfl);rw [setRow_other _ _ _ _ hkg,setRow_other _ _ _ _ hkg];rfl
set_option maxRecDepth 100000 in
set_option maxHeartbeats 800000 in
theorem insert_grow (w:World) (g n i vb vc:Nat) (cur cur2:Array Value) (us news:List Value) (hg:w.heap[g]?=some (.cells cur 66 (0,0))) (hcz:cur.size=n*2) (hct:cur.toList.take (n*2)=us)
  (hvb:w.heap[vb]?=some (.cells cur2 66 (0,0))) (hvz:cur2.toList.take 2=news) (hl:news.length=2) (h1:∀ u∈us,u.oneCell'=true) (h2:∀ u∈news,u.oneCell'=true) (hi:i<n) (hn:n≤1000000) :
  Calls Tryz.prog 132 #[.slice (some ⟨g,0,none⟩) n n,.int .i64 i,.slice (some ⟨vb,0,none⟩) 1 vc] w (InsPost 66 2 n (us.take (i*2)++news++us.drop (i*2)) (.slice (some ⟨g,0,none⟩) n n) w):=by
 obtain ⟨j0,ji,jz0,jz1,jz2⟩:=info_parts Tryz.infoI_traces;have hz2:¬ ((i:Int)=(n:Int)):=by omega
 have hz3:(n:Int)<(n:Int)+1:=by omega
 have hct':∀ (j:Nat),j<n*2→cur[j]?=us[j]?:=fun j hj=>by
  rw [← hct,List.getElem?_take,if_pos hj,Array.getElem?_toList]
 have hul:us.length=n*2:=by
  rw [← hct,List.length_take,Array.length_toList];omega
 have hdl:(us.drop (i*2)).length=(n-i)*2:=by rw [List.length_drop,hul];omega
 have htl:(us.take (i*2)).length=i*2:=by rw [List.length_take,hul];omega
 have hgl:g<w.heap.size:=by
  rcases Nat.lt_or_ge g w.heap.size with h | h
  ·exact h
  ·rw [Array.getElem?_eq_none h] at hg;cases hg
 have hvl:vb<w.heap.size:=by
  rcases Nat.lt_or_ge vb w.heap.size with h | h
  ·exact h
  ·rw [Array.getElem?_eq_none h] at hvb;cases hvb
 obtain ⟨N,hN⟩:∃ N,N=w.heap.size:=⟨_,rfl⟩
 have hold:(Builtin.firstCells j0.size i (.slice (some ⟨g,0,none⟩) i n)).run Tryz.prog w.drew=.ok (us.take (i*2)).toArray w.drew:=by
  rw [jz1]
  exact run_firstCells_some w.drew 2 i ⟨g,0,none⟩ i n (us.take (i*2)) htl (fun j v hj=>by
   rw [Addr.add_lit]
   rw [List.getElem?_take] at hj
   split at hj
   ·show w.cell? _=_
    simp only [World.cell?,hg]
    rw [Nat.zero_add,hct' _ (by omega)]
    exact hj
   ·cases hj)
 obtain ⟨G,hG⟩:∃ G,G=grownCap w (n+1) n 66:=⟨_,rfl⟩;obtain ⟨ROW,hROW⟩:∃ ROW:Array Value,ROW=(us.take (i*2)).toArray++Builtin.zeroCells (Value.agg #[.slice none 0 0,.slice none 0 0]).cells (n+1-i)++Builtin.zeroCells (Value.agg #[.slice none 0 0,.slice none 0 0]).cells (G-(n+1)):=⟨_,rfl⟩;have hGn:n+1≤G:=by rw [hG];exact grownCap_ge w _ _ _
 have hGm:G≤maxLen:=by rw [hG];exact grownCap_le_maxLen w (n+1) n 66 (by unfold maxLen;omega)
 have hG63:G≤9223372036854775807:=by unfold maxLen at hGm;omega
 obtain ⟨W1,hW1⟩:∃ W1,W1=w.drew.alloc (.cells ROW 66):=⟨_,rfl⟩
 have hrz:∀ ty,(Builtin.append_ #[30,3] ty #[.slice (some ⟨g,0,none⟩) i n,.int .i64 ((n:Int)+1-(i:Int))]).run Tryz.prog w=.ok (.slice (some ⟨N,0,none⟩) (n+1) G) W1:=fun ty=>by
  have h:=Lib.run_append_grow_zeros w 30 3 ty 66 j0 _ .i64 .i64 Tryz.underlying30 Tryz.underlying3 ji jz0 (some ⟨g,0,none⟩) i n (us.take (i*2)) hold (n+1-i) (by omega) (by omega) (by omega) (by omega) (by rw [jz2];omega) (by rw [jz2,show i+(n+1-i)=n+1 by omega];exact growslice_fits (by omega) (by omega));rw [show i+(n+1-i)=n+1 by omega,← hG,← hROW,← hN,← hW1] at h;rw [show (n:Int)+1-(i:Int)=((n+1-i:Nat):Int) by omega];exact h
 have hRz:ROW.size=G*2:=by
  rw [hROW];simp only [Array.size_append,List.size_toArray,htl,Builtin.zeroCells,Value.cells,Array.size_map,Array.size_range];simp;omega
 have hROWL:ROW.toList.take (i*2)=us.take (i*2):=by
  rw [hROW,Array.toList_append,Array.toList_append,List.append_assoc,List.take_append_of_le_length (by simp [htl]),List.take_of_length_le (by simp [htl])]
 have hA0:W1.heap[N]?=some (.cells ROW 66 (0,0)):=by
  rw [hW1,hN];exact heap_alloc_new w.drew _
 have hAold:∀ k,k<w.heap.size→W1.heap[k]?=w.heap[k]?:=fun k hk=>by
  rw [hW1];exact heap_alloc_old w.drew _ hk
 obtain ⟨R1,hR1⟩:∃ R1,R1=(ROW.toList.take (i*2)++news++ROW.toList.drop (i*2+news.length)).toArray:=⟨_,rfl⟩
 have hcpA:∀ (W:World) ty dl dc,W.heap[N]?=some (.cells ROW 66 (0,0))→W.heap[vb]?=some (.cells cur2 66 (0,0))→1≤dl→(Builtin.copy_ #[30,30] ty #[.slice (some ⟨N,i*2,none⟩) dl dc,.slice (some ⟨vb,0,none⟩) 1 vc]).run Tryz.prog W=.ok (goInt ((1:Nat):Int)) (W.setRow N R1):=fun W ty dl dc hW hV hd=>by
  have hm:Nat.min 1 dl=1:=by simp only [Nat.min_def];split<;>omega
  have:=znu (P:=Tryz.prog) W 30 30 ty 66 N (i*2) dl dc ⟨vb,0,none⟩ 1 vc ROW 66 news 2 Tryz.underlying30 (by rw [ji];simp [jz1]) hW (by rw [hm,hl]) (fun j v hj=>by
   rw [Addr.add_lit]
   have hlt:=(zkI.1 hj).1
   simp only [World.cell?,hV]
   rw [← hvz,List.getElem?_take,if_pos (by omega),Array.getElem?_toList] at hj
   simpa using hj) (by rw [hl];omega) h2
  rw [hm,← hR1] at this;exact this
 have hR1z:R1.size=G*2:=by
  rw [hR1];simp only [List.size_toArray,zkJ,List.length_take,List.length_drop,Array.length_toList,hl];omega
 obtain ⟨R2,hR2⟩:∃ R2,R2=(R1.toList.take ((i+1)*2)++us.drop (i*2)++R1.toList.drop ((i+1)*2+(us.drop (i*2)).length)).toArray:=⟨_,rfl⟩
 have hcpB:∀ (W:World) ty dl dc sl sc,W.heap[N]?=some (.cells R1 66 (0,0))→W.heap[g]?=some (.cells cur 66 (0,0))→dl=n-i→sl=n-i→(Builtin.copy_ #[30,30] ty #[.slice (some ⟨N,(i+1)*2,none⟩) dl dc,.slice (some ⟨g,i*2,none⟩) sl sc]).run Tryz.prog W=.ok (goInt ((n-i:Nat):Int)) (W.setRow N R2):=fun W ty dl dc sl sc hW hV hd hs=>by
  have hm:Nat.min sl dl=n-i:=by rw [hd,hs];simp only [Nat.min_def];split<;>omega
  have:=znu (P:=Tryz.prog) W 30 30 ty 66 N ((i+1)*2) dl dc ⟨g,i*2,none⟩ sl sc R1 66 (us.drop (i*2)) 2 Tryz.underlying30 (by rw [ji];simp [jz1]) hW (by rw [hm,hdl]) (fun j v hj=>by
   rw [Addr.add_lit]
   rw [List.getElem?_drop] at hj
   have hlt:=(zkI.1 hj).1
   simp only [World.cell?,hV]
   rw [hct' _ (by omega)]
   simpa using hj) (by rw [hdl,hR1z];omega) (fun v hv=>h1 v (List.mem_of_mem_drop hv))
  rw [hm,← hR2] at this;exact this
 have hcdA:1≤n+1-i:=by omega
 have hvN:vb≠N:=by omega
 have hgN:g≠N:=by omega
 have hA1:=fun ty dc=>hcpA W1 ty (n+1-i) dc hA0 (by rw [hAold vb hvl];exact hvb) hcdA;have hB0:(W1.setRow N R1).heap[N]?=some (.cells R1 66 (0,0)):=setRow_heap W1 N ROW R1 _ _ hA0
 have hB1:(W1.setRow N R1).drew.heap[g]?=some (.cells cur 66 (0,0)):=by
  show (W1.setRow N R1).heap[g]?=_;rw [setRow_other _ _ _ _ hgN,hAold g hgl];exact hg
 have hB2:=fun ty dl dc sl sc h3 h4=>hcpB (W1.setRow N R1).drew ty dl dc sl sc hB0 hB1 h3 h4;obtain ⟨US,hUS⟩:∃ US,US=us.take (i*2)++news++us.drop (i*2):=⟨_,rfl⟩;rw [← hUS]
 have hfin:∃ REST,R2.toList=US++REST:=by
  refine ⟨R1.toList.drop ((i+1)*2+(us.drop (i*2)).length),?_⟩
  have hT:R1.toList.take ((i+1)*2)=us.take (i*2)++news:=by
   have hz:(us.take (i*2)++news).length=(i+1)*2:=by rw [zkJ,htl,hl];omega
   rw [hR1,hROWL,← hz,List.take_append_of_le_length (Nat.le_refl _),List.take_length]
  rw [hR2,hT,hUS]
 have hUL:US.length=(n+1)*2:=by
  rw [hUS,zkJ,zkJ,hdl,hl,htl];omega
 have hR2z:R2.size=G*2:=by
  rw [hR2];simp only [List.size_toArray,zkJ,List.length_take,List.length_drop,Array.length_toList];omega
 have HR1:=Lib.hid hR1;have HN:=Lib.hid hN;have HG:=Lib.hid hG;have HW1:=Lib.hid hW1;have HOLD:=Lib.hid hAold;clear hUS hR1 hR2 hdl hul hct hct' hl hvz h1 h2 hold hROW hROWL htl hcpA hcpB hRz hR1z hG hN hW1 hAold;have mixed:Tryz.prog.follows Departure.mixedOrders=true:=by kernel_rfl
 have hw1:IntKind.i64.wrap ((i:Int)+1)=(i:Int)+1:=by rw [IntKind.wrap_i64];omega
 have hb1:(0:Int)≤(i:Int)+1:=by omega
 have hin:i≤n:=by omega
 have htn:((i:Int)+1).toNat=i+1:=by omega
 have hb3:(i:Int)≤(n:Int):=by omega
 have hGi:¬ (G=i):=by omega
 have hGim:¬ (G=i+1):=by omega
 have hci:¬ (n=i):=by omega
 go_enter Tryz.func132,Tryz.ntmps132
 go_wp2_with (first
  | (at_builtin;refine Lib.wpList_append_run _ rfl _ _ _ _ rfl _ _ rfl rfl _ _ (hrz _) ?_)
  | (at_builtin;refine zoj _ rfl _ _ 30 30 rfl _ _ rfl rfl (hA1 _ _) ?_))
 go_region_law_o (refine zrq rfl _ _ 30 30 rfl _ _ (by simp [Act.eval,Act.put]) (by simp [Act.eval,Act.put]) (hB2 _ _ _ _ _ (by omega) (by omega)) ?_)
 go_wp2
 go_ret
 obtain ⟨REST,hREST⟩:=hfin;have hN:=HN.out;refine ⟨_,rfl,⟨hUL,.inr ⟨N,G,R2,rfl,Nat.zero_le _,?_,hGn,hGm,hR2z,?_⟩⟩,⟨?_,?_,?_,?_,fun k hk hkn=>?_⟩,.inr (by rw [← hN];rfl)⟩
 ·exact setRow_heap _ N R1 R2 _ _ hB0
 ·rw [hREST,List.take_append_of_le_length (by omega),List.take_of_length_le (by omega)]
 ·rw [HW1.out];rfl
 ·rw [HW1.out];rfl
 ·rw [HW1.out];rfl
 ·simp [HW1.out]
 ·have hkg:k≠N:=by omega
  rw [setRow_other _ _ _ _ hkg];show (W1.setRow N R1).heap[k]?=_;rw [setRow_other _ _ _ _ hkg,HOLD.out k hk]
theorem zta {α:Type} {k:Nat}:∀ {es:List (List α)} (i:Nat),(∀ e∈es,e.length=k)→(es.take i).flatten=es.flatten.take (i*k)∧(es.drop i).flatten=es.flatten.drop (i*k)
 | [],i,_=>by simp
 | e::es,0,_=>by simp
 | e::es,i+1,h=>by
  have he:=h e (by simp);obtain ⟨h1,h2⟩:=zta (es:=es) i fun x hx=>h x (by simp [hx]);have hz:(i+1)*k=e.length+i*k:=by rw [he,Nat.succ_mul,Nat.add_comm]
  constructor
  ·rw [List.take_succ_cons,List.flatten_cons,List.flatten_cons,h1,hz,List.take_append (l₁:=e),List.take_of_length_le (l:=e) (by omega),Nat.add_sub_cancel_left]
  ·rw [List.drop_succ_cons,List.flatten_cons,h2,hz,List.drop_append (l₁:=e),List.drop_of_length_le (l:=e) (by omega),List.nil_append,Nat.add_sub_cancel_left]
def RelW (R:Value→IV→Prop) (us:List Value) (xs:List IV):Prop:=∀ (i:Nat) u x,us[i]?=some u→xs[i]?=some x→R u x
theorem RelW.append {R:Value→IV→Prop} {us vs:List Value} {xs ys:List IV} (hl:us.length=xs.length) (h1:RelW R us xs) (h2:RelW R vs ys):RelW R (us++vs) (xs++ys):=fun i u x hu hx=>by
 rcases Nat.lt_or_ge i us.length with h | h
 ·rw [List.getElem?_append_left h] at hu;rw [List.getElem?_append_left (by omega)] at hx;exact h1 i u x hu hx
 ·rw [List.getElem?_append_right h] at hu;rw [List.getElem?_append_right (by omega),← hl] at hx;exact h2 _ u x hu hx
theorem RelW.take {R:Value→IV→Prop} {us:List Value} {xs:List IV} (k:Nat) (h:RelW R us xs):RelW R (us.take k) (xs.take k):=fun i u x hu hx=>by
 rw [List.getElem?_take] at hu hx;split at hu
 ·rename_i g;rw [if_pos g] at hx;exact h i u x hu hx
 ·cases hu
theorem RelW.drop {R:Value→IV→Prop} {us:List Value} {xs:List IV} (k:Nat) (h:RelW R us xs):RelW R (us.drop k) (xs.drop k):=fun i u x hu hx=>by
 rw [List.getElem?_drop] at hu hx;exact h _ u x hu hx
set_option maxRecDepth 100000 in
theorem sp_of_insert {es:List (List IV)} {e:List IV} {i:Int} (hk:∀ x∈es,x.length=2) (hke:e.length=2) (h0:0≤i) (h1:i≤(↑es.length:Int)) (hn:es.length≤1000000) :
  Sp Tryz.prog 132 [.row 66 2 es,.im (nI i),.row 66 2 [e]] (.row 66 2 (es.take i.toNat++[e]++es.drop i.toNat)):=by
 refine ⟨fun args w=>ze2 rfl rfl rfl args w,fun w S vs F hS hv hnd hF=>?_⟩
 match vs,hv with
 | [v,vi,va],⟨F1,F2,⟨hv1,inn,hrow,e1⟩,⟨F3,F4,⟨h4,e2⟩,⟨F5,F6,⟨hva1,inn2,hrow2,e5⟩,h6,e6⟩,e3⟩,e4⟩ =>
  have h6:F6=[]:=h6;have e1:F1=(zba v).toList:=e1;have e5:F5=(zba va).toList:=e5;subst e1 e2 e5 h6;have e6:F4=(zba va).toList:=by rw [e6];simp
  subst e6;have e3:F2=(zba va).toList:=by rw [e3];simp
  subst e3;subst e4;cases h4;obtain ⟨us,_,_,hlim,hown,hul,hu1,hr⟩:=hrow;obtain ⟨news,_,_,_,hown2,hul2,hu2,hr2⟩:=hrow2;have hlen:([e]:List (List IV)).length=1:=rfl;rw [hlen] at hown2
  have hnl:news.length=2:=by
   rw [hul2];simp [hke]
  obtain ⟨vb,vc,cur2,rfl,_,hvb,hvc,hvm,hvz,hvt⟩:∃ vb vc cur2,va=.slice (some ⟨vb,0,none⟩) 1 vc∧0≤vb∧w.heap[vb]?=some (.cells cur2 66 (0,0))∧1≤vc∧vc≤maxLen∧cur2.size=vc*2∧cur2.toList.take (1*2)=news:=by
   rcases hown2.2 with ⟨_,h⟩ | h
   ·cases h
   ·exact h
  have hbva:zba (.slice (some ⟨vb,0,none⟩) 1 vc)=some vb:=rfl;rw [hbva] at hnd hF ⊢;have hvbF:¬ S vb∧vb<w.heap.size:=hF vb (by simp);have hull:us.length=es.length*2:=hown.1;have ei:i=(↑i.toNat:Int):=by omega
  have hcall:Calls Tryz.prog 132 #[v,.int .i64 i,.slice (some ⟨vb,0,none⟩) 1 vc] w (InsPost 66 2 es.length (us.take (i.toNat*2)++news++us.drop (i.toNat*2)) v w):=by
   rw [ei];simp only [Int.toNat_natCast];by_cases hend:i.toNat=es.length
   ·have:=insert_end w v es.length vb vc us news hown (by omega) (fun j u hj=>by
     have hlt:=(zkI.1 hj).1
     simp only [World.cell?,hvb]
     rw [← hvt,List.getElem?_take,if_pos (by omega),Array.getElem?_toList] at hj
     simpa using hj) hu2 hn
    rw [hend,List.take_of_length_le (by omega),List.drop_of_length_le (by omega),List.append_nil];exact this
   ·rcases hown.2 with ⟨_,h⟩ | ⟨g,cap,cur,hv,_,hg,hnc,hcm,hcz,hct⟩
    ·omega
    ·subst hv
     have hne:vb≠g:=fun e=>by
      have:zba (.slice (some ⟨g,0,none⟩) es.length cap)=some g:=rfl;rw [this,e] at hnd;simp at hnd
     by_cases hroom:es.length<cap
     ·exact insert_shift w g cap es.length i.toNat vb vc cur cur2 us news hg hcz hct hcm hne hvb hvt hnl hu1 hu2 (by omega) hroom hn
     ·have hc:cap=es.length:=by omega
      subst hc;exact insert_grow w g es.length i.toNat vb vc cur cur2 us news hg hcz hct hvb hvt hnl hu1 hu2 (by omega) hn
  refine hcall.mono ?_;rintro ex w' ⟨v',rfl,ho,hgr,hbl⟩;have hown0:=hown
  have hbv:v.ownBlock=zba v:=by
   rcases hown.2 with ⟨rfl,_⟩ | ⟨g,cap,cur,rfl,_⟩<;>rfl
  have hbv':v'.ownBlock=zba v':=by
   rcases ho.2 with ⟨rfl,_⟩ | ⟨g,cap,cur,rfl,_⟩<;>rfl
  have hlt:=ho.lt
  have hbk:∀ b∈(zba v').toList,(w.heap.size≤b∨b∈(zba v).toList)∧b<w'.heap.size:=fun b hb=>by
   have h2:zba v'=some b:=by simpa using hb
   refine ⟨?_,?_⟩
   ·rcases hbl with h | h
    ·rw [hbv,hbv',h2] at h;exact .inr (by rw [← h];simp)
    ·rw [hbv',h2] at h;injection h with h
     exact .inl (by omega)
   ·refine (hlt b ?_).2;rw [zhh ho];simpa using hb
  have hbe:Belo (fun b=>b∈(zba v).toList++[vb]) w.heap.size w w':=⟨hgr.os,hgr.tape,hgr.output,hgr.size,fun b hb hnb=>hgr.block b hb fun h=>hnb (by
   rw [hbv] at h
   rw [← h]
   simp)⟩
  have hS':∀ b,S b→b<w.heap.size∧b∉(zba v).toList∧b≠vb:=fun b hb=>⟨hS b hb,fun hm=>(hF b (by simp [hm])).1 hb,fun e=>hvbF.1 (e ▸ hb)⟩
  have hkeep:∀ u x,RepI w S u x→RepI w' (fun b=>(S b∨w.heap.size≤b∨b∈(zba v).toList++[vb])∧b<w'.heap.size∧b∉(zba v').toList) u x:=fun u x h=>h.mono (fun b hb=>⟨.inl hb,Nat.lt_of_lt_of_le (hS b hb) hgr.size,fun hm=>by
    rcases (hbk b hm).1 with h2 | h2
    ·have:=hS b hb
     omega
    ·exact (hS' b hb).2.1 h2⟩) fun p y hp hy=>by
   have h6:=hgr.block p.block (hS _ hp) fun h=>(hS' _ hp).2.1 (by
    rw [hbv] at h
    rw [← h]
    simp)
   have h7:w'.cell? p=w.cell? p:=by
    unfold World.cell?;rw [h6]
   rw [h7];exact hy
  have hfl:=zta (es:=es) (k:=2) i.toNat hk
  have hflat:(es.take i.toNat++[e]++es.drop i.toNat).flatten=es.flatten.take (i.toNat*2)++[e].flatten++es.flatten.drop (i.toNat*2):=by
   rw [List.flatten_append,List.flatten_append,hfl.1,hfl.2]
  have hlen2:(es.take i.toNat++[e]++es.drop i.toNat).length=es.length+1:=by
   rw [zkJ,zkJ,List.length_take,List.length_drop,List.length_singleton];omega
  refine ⟨v',(zba v').toList,rfl,hbe,⟨[v'],(zba v').toList,[],rfl,⟨(zba v').toList,[],⟨row_one ho,[],⟨_,by decide,fun x hx=>?_,by rw [hlen2];omega,by rw [hlen2];exact ho,?_,fun u hu=>?_,?_⟩,rfl⟩,rfl,by simp⟩,rfl,by simp⟩,?_,fun b hb=>⟨?_,(hbk b hb).2⟩⟩
  ·rcases List.mem_append.1 hx with hx | hx
   ·rcases List.mem_append.1 hx with hx | hx
    ·exact hk x (List.mem_of_mem_take hx)
    ·rw [List.mem_singleton.1 hx];exact hke
   ·exact hk x (List.mem_of_mem_drop hx)
  ·rw [hflat];simp only [zkJ,List.length_take,List.length_drop,← hul,← hul2]
  ·rcases List.mem_append.1 hu with hu | hu
   ·rcases List.mem_append.1 hu with hu | hu
    ·exact hu1 u (List.mem_of_mem_take hu)
    ·exact hu2 u hu
   ·exact hu1 u (List.mem_of_mem_drop hu)
  ·rw [hflat];have q1:RelW (RepI w S) us es.flatten:=hr;have q2:RelW (RepI w S) news [e].flatten:=hr2;have:=RelW.append (by simp only [zkJ,List.length_take,← hul,← hul2]) (RelW.append (by simp only [List.length_take,← hul]) (q1.take (i.toNat*2)) q2) (q1.drop (i.toNat*2));exact fun j u x hu hx=>hkeep u x (this j u x hu hx)
  ·cases zba v'<;>simp
  ·rcases (hbk b hb).1 with h | h
   ·exact .inl h
   ·exact .inr (by simp [h])
end
def zn4 {α:Type} (by_:Nat) (l:List α):Option (List α):=chk (za7 l.length by_) (some l)
def zdm (l:List Int):Option (List Int):=zn4 8 l
theorem zdu (l r:List Int) (h:zdm l=some r):Sp Tryz.prog 50 [.im (nL cI l)] (.row 3 1 (List.map cI r)):=by
 obtain ⟨h1,h⟩:=zan h;injection h with h
 subst h;exact zoq (by_:=8) (fun args w=>ze2 rfl rfl rfl args w) (by decide) clone_int (fun e he=>by obtain ⟨y,_,rfl⟩:=List.mem_map.1 he;rfl) (by rw [zkK];exact h1)
def zhm (l:List (List Int)):Option (List (List Int)):=zn4 24 l
theorem zpr (l r:List (List Int)) (h:zhm l=some r):Sp Tryz.prog 101 [.im (nL (cL cI) l)] (.row 50 1 (List.map (cL cI) r)):=by
 obtain ⟨h1,h⟩:=zan h;injection h with h
 subst h;exact zoq (by_:=24) (fun args w=>ze2 rfl rfl rfl args w) (by decide) clone_words (fun e he=>by obtain ⟨y,_,rfl⟩:=List.mem_map.1 he;rfl) (by rw [zkK];exact h1)
def zhf (l:List (List Int)) (f:(List Int)→(List Int)→Option Int):Option (List (List Int)):=zqh l f
theorem zmm (l:List (List Int)) (f:(List Int)→(List Int)→Option Int) (g:FuncId) (hd:CmpE Tryz.prog g (fun x=>nL cI x) f) (r:List (List Int)) (h:zhf l f=some r):Sp Tryz.prog 102 [.lent (.row 50 1 (List.map (cL cI) l)),.im (.fn g [])] (.mk true [] [.lent (.row 50 1 (List.map (cL cI) r))]) :=
 zwk (fun args w=>ze2 rfl rfl rfl args w) sortC_words (by decide) (fun _=>rfl) (fun W S us x hl h1 hr=>rep_of_one hl hr) hd.1 hd.2 h
def zit (l:List zaa):Option (List zaa):=zn4 48 l
theorem zo7 (l r:List zaa) (h:zit l=some r):Sp Tryz.prog 90 [.im (nL zae l)] (.row 66 2 (List.map zae r)):=by
 obtain ⟨h1,h⟩:=zan h;injection h with h
 subst h;exact zoq (by_:=48) (fun args w=>ze2 rfl rfl rfl args w) (by decide) clone_traces (fun e he=>by obtain ⟨y,_,rfl⟩:=List.mem_map.1 he;rfl) (by rw [zkK];exact h1)
def zhv (l:List zaa) (i:Int) (v:List zaa):Option (List zaa):=chk (0≤i∧i≤(↑l.length:Int)∧v.length=1∧l.length≤1000000) (some (l.take i.toNat++v++l.drop i.toNat))
theorem zoa (l:List zaa) (i:Int) (v:List zaa) (r:List zaa) (h:zhv l i v=some r):Sp Tryz.prog 132 [.row 66 2 (List.map zae l),.im (nI i),.row 66 2 (List.map zae v)] (.row 66 2 (List.map zae r)):=by
 obtain ⟨h1,h⟩:=zan h;injection h with h
 subst h
 match v,h1 with
 | [x],h1 =>
  have:=sp_of_insert (es:=l.map zae) (e:=zae x) (i:=i) (fun e he=>by obtain ⟨y,_,rfl⟩:=List.mem_map.1 he;rfl) rfl h1.1 (by rw [zkK];exact h1.2.1) (by rw [zkK];exact h1.2.2.2);simpa [List.map_append,List.map_take,List.map_drop] using this
def zg3 (l:List zaa) (f:zaa→zaa→Option Int):Option (List zaa):=zqh l f
theorem zme (l:List zaa) (f:zaa→zaa→Option Int) (g:FuncId) (hd:CmpE Tryz.prog g (fun x=>.agg (zae x)) f) (r:List zaa) (h:zg3 l f=some r):Sp Tryz.prog 91 [.lent (.row 66 2 (List.map zae l)),.im (.fn g [])] (.mk true [] [.lent (.row 66 2 (List.map zae r))]) :=
 zwk (fun args w=>ze2 rfl rfl rfl args w) sortC_finder (by decide) (fun _=>rfl) (fun W S us x hl h1 hr=>.agg _ _ hr.1 h1 hr.2) hd.1 hd.2 h
def zms (m_:zab):Option Bool:=(cond (decide ((↑m_.Next.length:Int)≤12)) (cond (decide ((↑m_.Out.length:Int)≤12)) (some (decide (m_.Inputs≤4))) (some false)) (some false)).bind (fun a2=>some a2)
def zmg (m_:zab):Option Bool:=(cond (decide (40<(↑m_.Next.length:Int))) (some true) (cond (decide (40<(↑m_.Out.length:Int))) (some true) (some (decide (20<m_.Inputs))))).bind (fun a2=>some a2)
def zft.s2 (m_:zab) (s_:Int) (a2:Nat):Option (Nat⊕(Unit⊕Int)):=cond (decide ((↑a2:Int)<m_.Inputs)) ((idx m_.Next s_ fun a6=>idxn a6 a2 fun a7=>cond (decide (a7<0)) (some true) (idx m_.Next s_ fun a8=>idxn a8 a2 fun b2=>cond (decide ((↑m_.Next.length:Int)≤b2)) (some true) (idx m_.Out s_ fun b3=>idxn b3 a2 fun b4=>cond (decide (b4<0)) (some true) (idx m_.Out s_ fun b5=>idxn b5 a2 fun b6=>some (decide (1048576<b6)))))).bind (fun b7=>cond (b7) (some (.inr (.inr 2))) (chk (inR ((↑a2:Int)+1)) (some (.inl (a2+1)))))) (some (.inr (.inl ())))
def zft (m_:zab) (s_:Int):Option Int:=(idx m_.Next s_ fun a2=>cond (decide ((↑a2.length:Int)≠m_.Inputs)) (some true) (idx m_.Out s_ fun a6=>some (decide ((↑a6.length:Int)≠m_.Inputs)))).bind (fun a7=>cond (a7) (some 1) ((iter (fun (s:Nat)=>zft.s2 m_ s_ s) fuel 0).bind (Sum.elim (fun _=>some 0) some)))
def zbx.s2 (m_:zab) (a2:Nat):Option (Nat⊕(Unit⊕Int)):=cond (decide ((↑a2:Int)<(↑m_.Next.length:Int))) ((zft m_ (↑a2:Int)).bind fun a6=>cond (decide (a6≠0)) (some (.inr (.inr a6))) (some (.inl (a2+1)))) (some (.inr (.inl ())))
def zbx (m_:zab):Option Int:=(cond (decide (m_.Inputs<1)) (some true) (some (decide (64<m_.Inputs)))).bind (fun a2=>cond (a2) (some 2) (cond (decide ((↑m_.Next.length:Int)=0)) (some 19) (cond (decide (128<(↑m_.Next.length:Int))) (some 11) ((cond (decide (m_.Start<0)) (some true) (some (decide ((↑m_.Next.length:Int)≤m_.Start)))).bind (fun a6=>cond (a6) (some 2) (cond (decide ((↑m_.Out.length:Int)≠(↑m_.Next.length:Int))) (some 1) ((iter (fun (s:Nat)=>zbx.s2 m_ s) fuel 0).bind (Sum.elim (fun _=>some 0) some))))))))
def zbe.s2 (s_:List Int) (f_:Int→Option Bool) (a2:Nat):Option (Nat⊕(Unit⊕Int)):=cond (decide ((↑a2:Int)<(↑s_.length:Int))) (idxn s_ a2 fun a6=>(f_ a6).bind fun a7=>cond (a7) (some (.inr (.inr (↑a2:Int)))) (some (.inl (a2+1)))) (some (.inr (.inl ())))
def zbe (s_:List Int) (f_:Int→Option Bool):Option Int:=(iter (fun (s:Nat)=>zbe.s2 s_ f_ s) fuel 0).bind (Sum.elim (fun _=>some (-1:Int)) some)
def zb9 (s_:List Int) (f_:Int→Option Bool):Option Bool:=(zbe s_ f_).bind fun a2=>some (decide (0≤a2))
def zgp (inputs_:Int):Option Bool:=(cond (decide (1≤inputs_)) (some (decide (inputs_≤1024))) (some false)).bind (fun a2=>some a2)
def zg7 (a_:Int) (p1_:Int):Option Bool:=(cond (decide (a_<0)) (some true) (some (decide (p1_≤a_)))).bind (fun a2=>some a2)
def za5.s2 (s_:List Int) (f_:Int→Option Bool) (a2:Nat):Option (Nat⊕(Unit⊕Int)):=cond (decide ((↑a2:Int)<(↑s_.length:Int))) (idxn s_ a2 fun a6=>(f_ a6).bind fun a7=>cond (a7) (some (.inr (.inr (↑a2:Int)))) (some (.inl (a2+1)))) (some (.inr (.inl ())))
def za5 (s_:List Int) (f_:Int→Option Bool):Option Int:=(iter (fun (s:Nat)=>za5.s2 s_ f_ s) fuel 0).bind (Sum.elim (fun _=>some (-1:Int)) some)
def zcl (s_:List Int) (f_:Int→Option Bool):Option Bool:=(za5 s_ f_).bind fun a2=>some (decide (0≤a2))
def ze6 (w_:List Int) (inputs_:Int):Option Int:=(zgp inputs_).bind fun a2=>cond ((!a2)) (some 2) (cond (decide (1024<(↑w_.length:Int))) (some 3) ((zcl w_ (fun u0=>zg7 u0 inputs_)).bind fun a6=>cond (a6) (some 1) (some 0)))
def zey (a_:List Int) (b_:List Int) (p2_:(List Int)→(List Int)→Option Int):Option Bool:=(p2_ a_ b_).bind fun a2=>some (decide (a2=0))
def zaj.s18 (eq_:(List Int)→(List Int)→Option Bool) (a8:Nat) (a2:List (List Int)) (a7:Nat) (a6:Nat):Option ((List (List Int)×Nat×Nat)⊕(List (List Int)×Nat)):=cond (decide ((↑a6:Int)<(↑(List.length a2-a8):Int))) (idxn a2 (a8+a6) fun b2=>chk ((0:Int)≤((↑a6:Int)-1)) (idxn a2 (a8+(Int.toNat ((↑a6:Int)-1))) fun b3=>(eq_ b2 b3).bind fun b4=>cond ((!b4)) (idxn a2 (a8+a6) fun b5=>idxn a2 a7 fun b6=>chk (inR ((↑a7:Int)+1)) (some (.inl ((List.set a2 a7 b5),(a7+1),(a6+1))))) (some (.inl (a2,a7,(a6+1)))))) (some (.inr (a2,a7)))
def zaj.k19 (a6:List (List Int)) (a2:Nat):Option (Nat⊕(Unit⊕List (List Int))):=chk ((0:Int)≤(↑a2:Int)∧(↑a2:Int)≤(↑a6.length:Int)∧0<List.length a6) (chk (a2≤List.length a6) (chk ((0:Int)≤(↑a2:Int)∧(↑a2:Int)≤(↑(List.length (List.take a2 a6++List.replicate (List.length a6-a2) [])):Int)∧0<List.length (List.take a2 a6++List.replicate (List.length a6-a2) [])) (some (.inr (.inr (List.take a2 (List.take a2 a6++List.replicate (List.length a6-a2) [])))))))
def zaj.s20 (s_:List (List Int)) (eq_:(List Int)→(List Int)→Option Bool) (a2:Nat):Option (Nat⊕(Unit⊕List (List Int))):=cond (decide ((↑a2:Int)<(↑s_.length:Int))) (idxn s_ a2 fun a6=>idx s_ ((↑a2:Int)-1) fun a7=>(eq_ a6 a7).bind fun a8=>cond (a8) (chk ((0:Int)≤(↑a2:Int)∧(↑a2:Int)≤(↑s_.length:Int)∧0<List.length s_) ((iter (fun (s:List (List Int)×Nat×Nat)=>zaj.s18 eq_ a2 s.1 s.2.1 s.2.2) fuel (s_,a2,1)).bind (fun s=>zaj.k19 s.1 s.2))) (some (.inl (a2+1)))) (some (.inr (.inl ())))
def zaj (s_:List (List Int)) (eq_:(List Int)→(List Int)→Option Bool):Option (List (List Int)):=cond (decide ((↑s_.length:Int)<2)) (some s_) ((iter (fun (s:Nat)=>zaj.s20 s_ eq_ s) fuel 1).bind (Sum.elim (fun _=>some s_) some))
def zcg.s2 (a7:List (List Int)) (a6:List (List Int)) (a2:Nat):Option ((List (List Int)×Nat)⊕List (List Int)):=cond (decide ((↑a2:Int)<(↑a7.length:Int))) (idxn a6 a2 fun a8=>(zdm a8).bind fun b2=>idxn a6 a2 fun b3=>chk (inR ((↑a2:Int)+1)) (some (.inl ((List.set a6 a2 b2),(a2+1))))) (some (.inr a6))
def zcg (l_:List (List Int)) (order_:(List Int)→(List Int)→Option Int):Option (List (List Int)):=(zhm l_).bind fun a6=>(zhf a6 order_).bind fun a7=>(zaj a7 (fun u0 u1=>zey u0 u1 order_)).bind fun a2=>(iter (fun (s:List (List Int)×Nat)=>zcg.s2 a2 s.1 s.2) fuel (a2,0)).bind (fun a8=>some a8)
def cmp_isNaN_int (x_:Int):Option Bool:=some (decide (x_≠x_))
def cmp_Compare_int (x_:Int) (y_:Int):Option Int:=(cmp_isNaN_int x_).bind fun a6=>(cmp_isNaN_int y_).bind fun a2=>cond (a6) (cond (a2) (some 0) (some (-1:Int))) (cond (a2) (some 1) (cond (decide (x_<y_)) (some (-1:Int)) (cond (decide (y_<x_)) (some 1) (some 0))))
def zbg.s2 (s1_:List Int) (s2_:List Int) (a2:Nat):Option (Nat⊕(Unit⊕Int)):=cond (decide ((↑a2:Int)<(↑s1_.length:Int))) (idxn s1_ a2 fun a7=>cond (decide ((↑s2_.length:Int)≤(↑a2:Int))) (some (.inr (.inr 1))) (idxn s2_ a2 fun a8=>(cmp_Compare_int a7 a8).bind fun a6=>cond (decide (a6≠0)) (some (.inr (.inr a6))) (some (.inl (a2+1))))) (some (.inr (.inl ())))
def zbg (s1_:List Int) (s2_:List Int):Option Int:=(iter (fun (s:Nat)=>zbg.s2 s1_ s2_ s) fuel 0).bind (Sum.elim (fun _=>cond (decide ((↑s1_.length:Int)<(↑s2_.length:Int))) (some (-1:Int)) (some 0)) some)
def zeh.s2 (vals_:List Int) (a2:Nat):Option (Nat⊕(Unit⊕Int)):=cond (decide ((↑a2:Int)<(↑vals_.length:Int))) (idxn vals_ a2 fun a6=>cond (decide (a6≠0)) (some (.inr (.inr a6))) (some (.inl (a2+1)))) (some (.inr (.inl ())))
def zeh (vals_:List Int):Option Int:=(iter (fun (s:Nat)=>zeh.s2 vals_ s) fuel 0).bind (Sum.elim (fun _=>some 0) some)
def zd3 (a_:List Int) (b_:List Int):Option Int:=(cmp_Compare_int (↑a_.length:Int) (↑b_.length:Int)).bind fun a2=>(zbg a_ b_).bind fun a6=>(zeh [a2,a6]).bind fun a7=>some a7
def zcj (l_:List (List Int)):Option (List (List Int)):=(zcg l_ (fun u0 u1=>zd3 u0 u1)).bind fun a2=>some a2
def zbp.s13 (part_:(List Int)→Int→Option (List Int)) (a7:List Int) (a6:List (List Int)) (a2:Nat):Option ((List (List Int)×Nat)⊕List (List Int)):=cond (decide ((↑a2:Int)<((↑a7.length:Int)+1))) ((part_ a7 (↑a2:Int)).bind fun a8=>chk (za7 (List.length a6+1) 24) (chk (inR ((↑a2:Int)+1)) (some (.inl ((a6++[a8]),(a2+1)))))) (some (.inr a6))
def zbp.s14 (l_:List (List Int)) (part_:(List Int)→Int→Option (List Int)) (a6:List (List Int)) (a2:Nat):Option ((List (List Int)×Nat)⊕List (List Int)):=cond (decide ((↑a2:Int)<(↑l_.length:Int))) (idxn l_ a2 fun a7=>chk (inR ((↑a7.length:Int)+1)) ((iter (fun (s:List (List Int)×Nat)=>zbp.s13 part_ a7 s.1 s.2) fuel (a6,0)).bind (fun a8=>some (.inl (a8,(a2+1)))))) (some (.inr a6))
def zbp (l_:List (List Int)) (part_:(List Int)→Int→Option (List Int)):Option (List (List Int)):=(iter (fun (s:List (List Int)×Nat)=>zbp.s14 l_ part_ s.1 s.2) fuel ([],0)).bind (fun a2=>(zcj a2).bind fun a6=>some a6)
def zem (w_:List Int) (i_:Int):Option (List Int):=chk ((0:Int)≤i_∧i_≤(↑w_.length:Int)) (some (List.take (Int.toNat i_) w_))
def zfj (l_:List (List Int)):Option (List (List Int)):=(zbp l_ (fun u0 u1=>zem u0 u1)).bind fun a2=>some a2
def zax.s2 (slices_:List (List (List Int))) (size73:Nat) (a2:Nat):Option ((Nat×Nat)⊕Nat):=cond (decide ((↑a2:Int)<(↑slices_.length:Int))) (idxn slices_ a2 fun a6=>chk (inR ((↑size73:Int)+(↑a6.length:Int))) (cond (decide (((↑size73:Int)+(↑a6.length:Int))<0)) (none) (some (.inl ((size73+a6.length),(a2+1)))))) (some (.inr size73))
def zax.s4 (slices_:List (List (List Int))) (a2:List (List Int)) (a6:Nat):Option ((List (List Int)×Nat)⊕List (List Int)):=cond (decide ((↑a6:Int)<(↑slices_.length:Int))) (idxn slices_ a6 fun a7=>chk (za7 (List.length a2+List.length a7) 24) (some (.inl ((a2++a7),(a6+1))))) (some (.inr a2))
def zax (slices_:List (List (List Int))):Option (List (List Int)):=(iter (fun (s:Nat×Nat)=>zax.s2 slices_ s.1 s.2) fuel (0,0)).bind (fun size68=>(zki (↑size68:Int)).bind fun a6=>(iter (fun (s:List (List Int)×Nat)=>zax.s4 slices_ s.1 s.2) fuel (a6,0)).bind (fun a2=>some a2))
def zge (lists_:List (List (List Int))):Option (List (List Int)):=(zax lists_).bind fun a2=>(zcj a2).bind fun a6=>some a6
def zfc (l_:List (List Int)) (i_:Int):Option Bool:=(cond (decide (i_=0)) (some true) (chk (inR (i_-1)) (idx l_ (i_-1) fun a2=>idx l_ i_ fun a6=>(zd3 a2 a6).bind fun a7=>some (decide (a7<0))))).bind (fun a8=>some a8)
def zcn.s2 (l_:List (List Int)) (a6:Int) (a2:Nat):Option ((Int×Nat)⊕Int):=cond (decide ((↑a2:Int)<(↑l_.length:Int))) (idxn l_ a2 fun a7=>some (.inl ((max a6 (↑a7.length:Int)),(a2+1)))) (some (.inr a6))
def zcn (l_:List (List Int)):Option Int:=(iter (fun (s:Int×Nat)=>zcn.s2 l_ s.1 s.2) fuel (0,0)).bind (fun a2=>some a2)
def zbc.s2 (t_:zac) (a6:List (ByteArray×Bool)) (a2:Nat):Option (((List (ByteArray×Bool))×Nat)⊕((List (ByteArray×Bool)))):=cond (decide ((↑a2:Int)<(↑t_.Prefixes.length:Int))) (idxn t_.Prefixes a2 fun a7=>(zk2 a7).bind fun a8=>some (.inl ((mset a8 true a6),(a2+1)))) (some (.inr a6))
def zbc.s4 (t_:zac) (b6:List (ByteArray×Bool)) (a6:Nat):Option (Nat⊕(Unit⊕Int)):=cond (decide ((↑a6:Int)<(↑t_.Prefixes.length:Int))) (idxn t_.Prefixes a6 fun a2=>(ze6 a2 t_.Inputs).bind fun a7=>cond (decide (a7≠0)) (some (.inr (.inr a7))) ((cond (decide ((↑a6:Int)=0)) (cond (decide (0<(↑a2.length:Int))) (some true) ((zfc t_.Prefixes (↑a6:Int)).bind fun a8=>some (!a8))) ((zfc t_.Prefixes (↑a6:Int)).bind fun b2=>some (!b2))).bind (fun b3=>cond (b3) (some (.inr (.inr 10))) ((cond (decide (0<(↑a2.length:Int))) (chk ((0:Int)≤((↑a2.length:Int)-1)∧((↑a2.length:Int)-1)≤(↑a2.length:Int)) ((zk2 (List.take (Int.toNat ((↑a2.length:Int)-1)) a2)).bind fun b4=>some (!((mget b4 b6).getD false)))) (some false)).bind (fun b5=>cond (b5) (some (.inr (.inr 1))) (some (.inl (a6+1)))))))) (some (.inr (.inl ())))
def zbc.s6 (t_:zac) (a2:Nat):Option (Nat⊕(Unit⊕Int)):=cond (decide ((↑a2:Int)<(↑t_.Suffixes.length:Int))) (idxn t_.Suffixes a2 fun a6=>(ze6 a6 t_.Inputs).bind fun a7=>cond (decide (a7≠0)) (some (.inr (.inr a7))) (cond (decide ((↑a6.length:Int)=0)) (some (.inr (.inr 19))) ((zfc t_.Suffixes (↑a2:Int)).bind fun a8=>cond ((!a8)) (some (.inr (.inr 10))) (some (.inl (a2+1)))))) (some (.inr (.inl ())))
def zbc (t_:zac):Option Int:=(cond (decide (t_.Inputs<1)) (some true) (some (decide (64<t_.Inputs)))).bind (fun b2=>cond (b2) (some 2) (cond (decide ((↑t_.Prefixes.length:Int)=0)) (some 19) ((cond (decide (10000<(↑t_.Prefixes.length:Int))) (some true) (cond (decide (10000<(↑t_.Suffixes.length:Int))) (some true) (chk (inR (t_.Inputs+1)) (chk (inR ((↑t_.Prefixes.length:Int)*(t_.Inputs+1))) (chk (inR (((↑t_.Prefixes.length:Int)*(t_.Inputs+1))*(↑t_.Suffixes.length:Int))) (some (decide (160000<(((↑t_.Prefixes.length:Int)*(t_.Inputs+1))*(↑t_.Suffixes.length:Int)))))))))).bind (fun b3=>cond (b3) (some 11) ((iter (fun (s:(List (ByteArray×Bool))×Nat)=>zbc.s2 t_ s.1 s.2) fuel (([]:List (ByteArray×Bool)),0)).bind (fun b4=>(iter (fun (s:Nat)=>zbc.s4 t_ b4 s) fuel 0).bind (Sum.elim (fun _=>(iter (fun (s:Nat)=>zbc.s6 t_ s) fuel 0).bind (Sum.elim (fun _=>(cond (decide ((↑t_.Suffixes.length:Int)<t_.Inputs)) (some true) (chk (inR (t_.Inputs-1)) (idx t_.Suffixes (t_.Inputs-1) fun a7=>some (decide (1<(↑a7.length:Int)))))).bind (fun a8=>cond (a8) (some 1) ((zcn t_.Prefixes).bind fun a2=>(zcn t_.Suffixes).bind fun a6=>chk (inR (a2+a6)) (cond (decide (1023<(a2+a6))) (some 3) (some 0))))) some)) some)))))))
def zga (t_:zac) (next_:zac):Option (zac×Int):=(zbc next_).bind fun a2=>cond (decide (a2≠0)) (some (t_,a2)) (some (next_,0))
def zg5 (t_:zac) (w_:List Int):Option (zac×Int):=(zbc t_).bind fun a2=>cond (decide (a2≠0)) (some (t_,a2)) ((ze6 w_ t_.Inputs).bind fun a6=>cond (decide (a6≠0)) (some (t_,a6)) ((zfj [w_]).bind fun a8=>(zge [t_.Prefixes,a8]).bind fun b2=>(zcj t_.Suffixes).bind fun b3=>(zga t_ (⟨t_.Inputs,b2,b3⟩:zac)).bind fun a7=>some (a7.1,a7.2)))
def zej (w_:List Int) (i_:Int):Option (List Int):=chk ((0:Int)≤i_∧i_≤(↑w_.length:Int)) (some (List.drop (Int.toNat i_) w_))
def zfl (l_:List (List Int)):Option (List (List Int)):=(zbp l_ (fun u0 u1=>zej u0 u1)).bind fun a2=>some a2
def zcf.s2 (a7:List (List Int)) (a2:List (List Int)) (a6:Nat):Option ((List (List Int)×Nat)⊕List (List Int)):=cond (decide ((↑a6:Int)<(↑a7.length:Int))) (idxn a7 a6 fun a8=>cond (decide (0<(↑a8.length:Int))) (chk (za7 (List.length a2+1) 24) (some (.inl ((a2++[a8]),(a6+1))))) (some (.inl (a2,(a6+1))))) (some (.inr a2))
def zcf (t_:zac) (w_:List Int) (mode_:Int):Option (zac×Int):=(zbc t_).bind fun a7=>cond (decide (a7≠0)) (some (t_,a7)) ((ze6 w_ t_.Inputs).bind fun a8=>cond (decide (a8≠0)) (some (t_,a8)) (cond (decide (mode_=0)) ((zg5 t_ w_).bind fun b2=>some (b2.1,b2.2)) (cond (decide (mode_=1)) ((zcj t_.Prefixes).bind fun b3=>(zcj t_.Suffixes).bind fun b4=>(zfl [w_]).bind fun b5=>(iter (fun (s:List (List Int)×Nat)=>zcf.s2 b5 s.1 s.2) fuel (b4,0)).bind (fun b6=>(zcj b6).bind fun a2=>(zbc (⟨t_.Inputs,b3,a2⟩:zac)).bind fun a6=>cond (decide (a6≠0)) (some (t_,a6)) (some ((⟨t_.Inputs,b3,a2⟩:zac),0)))) (some (t_,2)))))
def zei.s2 (a_:List Int) (b_:List Int) (a2:Nat):Option (Nat⊕Nat):=(cond (decide ((↑a2:Int)<(↑a_.length:Int))) (cond (decide ((↑a2:Int)<(↑b_.length:Int))) (idxn a_ a2 fun a6=>idxn b_ a2 fun a7=>some (decide (a6=a7))) (some false)) (some false)).bind (fun a8=>cond (a8) (chk (inR ((↑a2:Int)+1)) (some (.inl (a2+1)))) (some (.inr a2)))
def zei (a_:List Int) (b_:List Int):Option Int:=(iter (fun (s:Nat)=>zei.s2 a_ b_ s) fuel 0).bind (fun a2=>some (↑a2:Int))
def R01_Same (a_:List Int) (b_:List Int):Option Bool:=(cond (decide ((↑a_.length:Int)=(↑b_.length:Int))) ((zei a_ b_).bind fun a2=>some (decide (a2=(↑a_.length:Int)))) (some false)).bind (fun a6=>some a6)
def zeo.s2 (a_:List (List Int)) (b_:List (List Int)) (a2:Nat):Option (Nat⊕(Unit⊕Bool)):=cond (decide ((↑a2:Int)<(↑a_.length:Int))) (idxn a_ a2 fun a6=>idxn b_ a2 fun a7=>(R01_Same a6 a7).bind fun a8=>cond ((!a8)) (some (.inr (.inr false))) (some (.inl (a2+1)))) (some (.inr (.inl ())))
def zeo (a_:List (List Int)) (b_:List (List Int)):Option Bool:=cond (decide ((↑a_.length:Int)≠(↑b_.length:Int))) (some false) ((iter (fun (s:Nat)=>zeo.s2 a_ b_ s) fuel 0).bind (Sum.elim (fun _=>some true) some))
def zko:Option zac:=some (⟨2,[[]],[[0],[1]]⟩:zac)
def L23_Gate:Option zad:=some (⟨2,[(⟨[0,0],[1,1]⟩:zaa),(⟨[0,1],[1,2]⟩:zaa),(⟨[1,0],[0,1]⟩:zaa),(⟨[1,1],[0,0]⟩:zaa)]⟩:zad)
def zip (t_:zac) (w_:List Int):Option (zac×Int):=(zbc t_).bind fun a2=>cond (decide (a2≠0)) (some (t_,a2)) (cond (decide ((↑w_.length:Int)=0)) (some (t_,19)) ((ze6 w_ t_.Inputs).bind fun a6=>cond (decide (a6≠0)) (some (t_,a6)) ((zcj t_.Prefixes).bind fun a8=>(zge [t_.Suffixes,[w_]]).bind fun b2=>(zga t_ (⟨t_.Inputs,a8,b2⟩:zac)).bind fun a7=>some (a7.1,a7.2))))
def za1.s2 (slices_:List (List Int)) (size73:Nat) (a2:Nat):Option ((Nat×Nat)⊕Nat):=cond (decide ((↑a2:Int)<(↑slices_.length:Int))) (idxn slices_ a2 fun a6=>chk (inR ((↑size73:Int)+(↑a6.length:Int))) (cond (decide (((↑size73:Int)+(↑a6.length:Int))<0)) (none) (some (.inl ((size73+a6.length),(a2+1)))))) (some (.inr size73))
def za1.s4 (slices_:List (List Int)) (a2:List Int) (a6:Nat):Option ((List Int×Nat)⊕List Int):=cond (decide ((↑a6:Int)<(↑slices_.length:Int))) (idxn slices_ a6 fun a7=>chk (za7 (List.length a2+List.length a7) 8) (some (.inl ((a2++a7),(a6+1))))) (some (.inr a2))
def za1 (slices_:List (List Int)):Option (List Int):=(iter (fun (s:Nat×Nat)=>za1.s2 slices_ s.1 s.2) fuel (0,0)).bind (fun size68=>(zm7 (↑size68:Int)).bind fun a6=>(iter (fun (s:List Int×Nat)=>za1.s4 slices_ s.1 s.2) fuel (a6,0)).bind (fun a2=>some a2))
def zfk (parts_:List (List Int)):Option (List Int):=(za1 parts_).bind fun a2=>some a2
def zeq (w_:List Int) (a_:Int):Option (List Int):=(zfk [w_,[a_]]).bind fun a2=>some a2
def zdt.s2 (a_:List Int) (b_:List Int) (a2:Nat):Option (Nat⊕(Unit⊕Int)):=cond (decide ((↑a2:Int)<(min (↑a_.length:Int) (↑b_.length:Int)))) (idxn a_ a2 fun a6=>idxn b_ a2 fun a7=>cond (decide (a6≠a7)) (some (.inr (.inr (↑a2:Int)))) (some (.inl (a2+1)))) (some (.inr (.inl ())))
def zdt (a_:List Int) (b_:List Int):Option Int:=(iter (fun (s:Nat)=>zdt.s2 a_ b_ s) fuel 0).bind (Sum.elim (fun _=>some (min (↑a_.length:Int) (↑b_.length:Int))) some)
def zdl (w_:List Int) (p_:List Int):Option Bool:=(zdt w_ p_).bind fun a2=>some (decide (a2=(↑p_.length:Int)))
def zh9 (a_:List Int) (b_:List Int):Option Int:=(zbg a_ b_).bind fun a2=>some a2
def zcc.s2 (a8:List (List Int)) (a6:List (List Int)) (a2:Nat):Option ((List (List Int)×Nat)⊕List (List Int)):=cond (decide ((↑a2:Int)<(↑a8.length:Int))) (idxn a8 a2 fun a7=>(cond (decide (((↑a2:Int)+1)=(↑a8.length:Int))) (some true) (idxn a8 (a2+1) fun b2=>(zdl b2 a7).bind fun b3=>some (!b3))).bind (fun b4=>cond (b4) (chk (za7 (List.length a6+1) 24) (some (.inl ((a6++[a7]),(a2+1))))) (some (.inl (a6,(a2+1)))))) (some (.inr a6))
def zcc (l_:List (List Int)):Option (List (List Int)):=(zcg l_ (fun u0 u1=>zh9 u0 u1)).bind fun a7=>(iter (fun (s:List (List Int)×Nat)=>zcc.s2 a7 s.1 s.2) fuel ([],0)).bind (fun a2=>(zcj a2).bind fun a6=>some a6)
def zh0 (t_:zac) (o_:zad):Option Int:=(zbc t_).bind fun a2=>cond (decide (a2≠0)) (some a2) (cond (decide (t_.Inputs≠o_.Inputs)) (some 15) (some 0))
def zbs (a_:zaa) (b_:zaa):Option Int:=(zh9 a_.In b_.In).bind fun a2=>some a2
def zje (o_:zad):Option (List zaa):=(zit o_.Traces).bind fun a2=>(zg3 a2 (fun u0 u1=>zbs u0 u1)).bind fun a6=>some a6
def zam.s2 (x_:List zaa) (target_:List Int) (cmp_:zaa→(List Int)→Option Int) (a2:Int) (a6:Int):Option ((Int×Int)⊕Int):=cond (decide (a2<a6)) (chk (inR (a2+a6)) (chk ((0:Int)≤(a2+a6)∧(a2+a6)≤18446744073709551615) (chk ((0:Int)≤(a2+a6)∧(a2+a6)≤18446744073709551615) (chk (inR ((a2+a6) / 2^1)) (idx x_ ((a2+a6) / 2^1) fun a7=>(cmp_ a7 target_).bind fun a8=>cond (decide (a8<0)) (chk (inR (((a2+a6) / 2^1)+1)) (some (.inl ((((a2+a6) / 2^1)+1),a6)))) (some (.inl (a2,((a2+a6) / 2^1))))))))) (some (.inr a2))
def zam (x_:List zaa) (target_:List Int) (cmp_:zaa→(List Int)→Option Int):Option (Int×Bool):=(iter (fun (s:Int×Int)=>zam.s2 x_ target_ cmp_ s.1 s.2) fuel (0,(↑x_.length:Int))).bind (fun a2=>(cond (decide (a2<(↑x_.length:Int))) (idx x_ a2 fun a6=>(cmp_ a6 target_).bind fun a7=>some (decide (a7=0))) (some false)).bind (fun a8=>some (a2,a8)))
def zbu (t_:zaa) (w_:List Int):Option Int:=(zh9 t_.In w_).bind fun a2=>some a2
def zdh (f_:List zaa) (w_:List Int):Option (List Int×Bool):=cond (decide ((↑w_.length:Int)=0)) (some ([],true)) ((zam f_ w_ (fun u0 u1=>zbu u0 u1)).bind fun a2=>(cond (decide (a2.1=(↑f_.length:Int))) (some true) (idx f_ a2.1 fun a7=>(zdl a7.In w_).bind fun a8=>cond ((!a8)) (some true) (idx f_ a2.1 fun b2=>some (decide ((↑b2.Out.length:Int)<(↑w_.length:Int)))))).bind (fun b3=>cond (b3) (some ([],false)) (idx f_ a2.1 fun a6=>chk ((0:Int)≤(↑w_.length:Int)∧(↑w_.length:Int)≤(↑a6.Out.length:Int)) (some ((List.take w_.length a6.Out),true)))))
def zek (f_:List zaa) (w_:List Int):Option Bool:=(zdh f_ w_).bind fun a2=>some a2.2
def zch.s2 (w_:List Int) (p1_:zac) (p2_:List zaa) (a2:List (List Int)) (a6:Nat):Option ((List (List Int)×Nat)⊕List (List Int)):=cond (decide ((↑a6:Int)<(↑p1_.Suffixes.length:Int))) (idxn p1_.Suffixes a6 fun a8=>(zfk [w_,a8]).bind fun a7=>(zek p2_ a7).bind fun b2=>cond ((!b2)) (chk (za7 (List.length a2+1) 24) (some (.inl ((a2++[a7]),(a6+1))))) (some (.inl (a2,(a6+1))))) (some (.inr a2))
def zch (w_:List Int) (p1_:zac) (p2_:List zaa) (p3_:List (List Int)):Option (List (List Int)):=(iter (fun (s:List (List Int)×Nat)=>zch.s2 w_ p1_ p2_ s.1 s.2) fuel (p3_,0)).bind (fun a2=>some a2)
def zb1.s13 (t_:zac) (b3:List zaa) (a7:List Int) (a6:List (List Int)) (a2:Nat):Option ((List (List Int)×Nat)⊕List (List Int)):=cond (decide ((↑a2:Int)<t_.Inputs)) ((zeq a7 (↑a2:Int)).bind fun a8=>(zch a8 t_ b3 a6).bind fun b2=>chk (inR ((↑a2:Int)+1)) (some (.inl (b2,(a2+1))))) (some (.inr a6))
def zb1.s14 (t_:zac) (b3:List zaa) (a6:List (List Int)) (a2:Nat):Option ((List (List Int)×Nat)⊕List (List Int)):=cond (decide ((↑a2:Int)<(↑t_.Prefixes.length:Int))) (idxn t_.Prefixes a2 fun a7=>(zch a7 t_ b3 a6).bind fun a8=>(iter (fun (s:List (List Int)×Nat)=>zb1.s13 t_ b3 a7 s.1 s.2) fuel (a8,0)).bind (fun b2=>some (.inl (b2,(a2+1))))) (some (.inr a6))
def zb1 (t_:zac) (o_:zad):Option (List (List Int)×Int):=(zh0 t_ o_).bind fun a7=>cond (decide (a7≠0)) (some ([],a7)) ((zje o_).bind fun a8=>(iter (fun (s:List (List Int)×Nat)=>zb1.s14 t_ a8 s.1 s.2) fuel ([],0)).bind (fun a2=>(zcc a2).bind fun a6=>some (a6,0)))
def zbw.s2 (f_:List zaa) (t_:zac) (w_:List Int) (a6:List (List Int)) (a7:Nat):Option ((List (List Int)×Nat)⊕(List (List Int)⊕(List (List Int)×Bool))):=cond (decide ((↑a7:Int)<(↑t_.Suffixes.length:Int))) (idxn t_.Suffixes a7 fun a8=>(zfk [w_,a8]).bind fun b2=>(zdh f_ b2).bind fun a2=>cond ((!a2.2)) (some (.inr (.inr ([],false)))) (chk ((0:Int)≤(↑w_.length:Int)∧(↑w_.length:Int)≤(↑a2.1.length:Int)) ((zdm (List.drop w_.length a2.1)).bind fun b3=>chk (za7 (List.length a6+1) 24) (some (.inl ((a6++[b3]),(a7+1))))))) (some (.inr (.inl a6)))
def zbw (f_:List zaa) (t_:zac) (w_:List Int):Option (List (List Int)×Bool):=chk ((0:Int)≤0∧0≤(↑t_.Suffixes.length:Int)∧za7 (Int.toNat (↑t_.Suffixes.length:Int)) 24) ((iter (fun (s:List (List Int)×Nat)=>zbw.s2 f_ t_ w_ s.1 s.2) fuel ([],0)).bind (Sum.elim (fun a2=>some (a2,true)) some))
def zbr.s2 (row_:List (List Int)) (a2:ByteArray) (a6:Nat):Option ((ByteArray×Nat)⊕ByteArray):=cond (decide ((↑a6:Int)<(↑row_.length:Int))) (idxn row_ a6 fun a8=>(zk2 a8).bind fun a7=>chk (ByteArray.size a7+ByteArray.size (⟨#[47]⟩:ByteArray)≤9223372036854775807) (chk (ByteArray.size a2+ByteArray.size (a7++(⟨#[47]⟩:ByteArray))≤9223372036854775807) (some (.inl ((a2++(a7++(⟨#[47]⟩:ByteArray))),(a6+1)))))) (some (.inr a2))
def zbr.k3 (v_:zau) (a7:List (List (List Int))) (a2:List (ByteArray×Int)) (a6:Int):Option (Int×zau):=some (a6,(⟨a7,v_.prefixes,v_.next,a2⟩:zau))
def zbr (v_:zau) (row_:List (List Int)):Option (Int×zau):=(iter (fun (s:ByteArray×Nat)=>zbr.s2 row_ s.1 s.2) fuel ((⟨#[]⟩:ByteArray),0)).bind (fun a2=>(cond ((!((mget a2 v_.number).isSome))) (chk (za7 (List.length v_.rows+1) 24) (some ((v_.rows++[row_]),(mset a2 (↑v_.rows.length:Int) v_.number),(↑v_.rows.length:Int)))) (some (v_.rows,v_.number,((mget a2 v_.number).getD 0))):Option (List (List (List Int))×(List (ByteArray×Int))×Int)).bind (fun s=>zbr.k3 v_ s.1 s.2.1 s.2.2))
def za2.s2 (t_:zac) (b5:List zaa) (b3:List (List (List Int))) (a7:List Int) (b4:List (ByteArray×Int)) (a8:Nat):Option ((List (List (List Int))×List Int×(List (ByteArray×Int))×Nat)⊕((List (List (List Int))×List Int×(List (ByteArray×Int)))⊕(zau×Int))):=cond (decide ((↑a8:Int)<(↑t_.Prefixes.length:Int))) (idxn t_.Prefixes a8 fun b2=>(zbw b5 t_ b2).bind fun a6=>cond ((!a6.2)) (some (.inr (.inr ((⟨[],[],[],[]⟩:zau),12)))) ((zbr (⟨b3,a7,[],b4⟩:zau) a6.1).bind fun a2=>chk (za7 (List.length a7+1) 8) (some (.inl (a2.2.rows,(a7++[a2.1]),a2.2.number,(a8+1)))))) (some (.inr (.inl (b3,a7,b4))))
def za2.s20 (t_:zac) (b7:List zaa) (b8:List Int) (b4:List (List Int)) (b5:List Int) (a8:List (List (List Int))) (b2:List (ByteArray×Int)) (a6:List Int) (a2:Nat):Option ((List (List (List Int))×(List (ByteArray×Int))×List Int×Nat)⊕((List (List (List Int))×(List (ByteArray×Int))×List Int)⊕((List (List (List Int))×List (List Int)×(List (ByteArray×Int))×Nat)⊕((List (List (List Int))×List (List Int)×(List (ByteArray×Int)))⊕(zau×Int))))):=cond (decide ((↑a2:Int)<t_.Inputs)) ((zeq b5 (↑a2:Int)).bind fun b6=>(zbw b7 t_ b6).bind fun b3=>cond ((!b3.2)) (some (.inr (.inr (.inr (.inr ((⟨[],[],[],[]⟩:zau),12)))))) ((zbr (⟨a8,b8,b4,b2⟩:zau) b3.1).bind fun a7=>chk (za7 (List.length a6+1) 8) (chk (inR ((↑a2:Int)+1)) (some (.inl (a7.2.rows,a7.2.number,(a6++[a7.1]),(a2+1))))))) (some (.inr (.inl (a8,b2,a6))))
def za2.k21 (a2:List (List Int)) (a6:Nat) (a7:List (List (List Int))) (a8:List (ByteArray×Int)) (b2:List Int):Option ((List (List (List Int))×List (List Int)×(List (ByteArray×Int))×Nat)⊕((List (List (List Int))×List (List Int)×(List (ByteArray×Int)))⊕(zau×Int))):=chk (za7 (List.length a2+1) 24) (some (.inl (a7,(a2++[b2]),a8,(a6+1))))
def za2.s22 (t_:zac) (b3:List zaa) (b4:List Int) (a7:List (List (List Int))) (a2:List (List Int)) (a8:List (ByteArray×Int)) (a6:Nat):Option ((List (List (List Int))×List (List Int)×(List (ByteArray×Int))×Nat)⊕((List (List (List Int))×List (List Int)×(List (ByteArray×Int)))⊕(zau×Int))):=cond (decide ((↑a6:Int)<(↑t_.Prefixes.length:Int))) (idxn t_.Prefixes a6 fun b2=>(iter (fun (s:List (List (List Int))×(List (ByteArray×Int))×List Int×Nat)=>za2.s20 t_ b3 b4 a2 b2 s.1 s.2.1 s.2.2.1 s.2.2.2) fuel (a7,a8,[],0)).bind (Sum.elim (fun s=>za2.k21 a2 a6 s.1 s.2.1 s.2.2) some)) (some (.inr (.inl (a7,a2,a8))))
def za2.k23 (a8:List Int) (a2:List (List (List Int))) (a6:List (List Int)) (a7:List (ByteArray×Int)):Option (zau×Int):=some ((⟨a2,a8,a6,a7⟩:zau),0)
def za2.k24 (t_:zac) (a6:List zaa) (a7:List (List (List Int))) (a2:List Int) (a8:List (ByteArray×Int)):Option (zau×Int):=(iter (fun (s:List (List (List Int))×List (List Int)×(List (ByteArray×Int))×Nat)=>za2.s22 t_ a6 a2 s.1 s.2.1 s.2.2.1 s.2.2.2) fuel (a7,[],a8,0)).bind (Sum.elim (fun s=>za2.k23 a2 s.1 s.2.1 s.2.2) some)
def za2 (t_:zac) (o_:zad):Option (zau×Int):=(zh0 t_ o_).bind fun a2=>cond (decide (a2≠0)) (some ((⟨[],[],[],[]⟩:zau),a2)) ((zje o_).bind fun a6=>(iter (fun (s:List (List (List Int))×List Int×(List (ByteArray×Int))×Nat)=>za2.s2 t_ a6 s.1 s.2.1 s.2.2.1 s.2.2.2) fuel ([],[],([]:List (ByteArray×Int)),0)).bind (Sum.elim (fun s=>za2.k24 t_ a6 s.1 s.2.1 s.2.2) some))
def zbt.s2 (s_:List Int) (v_:Int) (a2:Nat):Option (Nat⊕(Unit⊕Int)):=cond (decide ((↑a2:Int)<(↑s_.length:Int))) (idxn s_ a2 fun a6=>cond (decide (v_=a6)) (some (.inr (.inr (↑a2:Int)))) (some (.inl (a2+1)))) (some (.inr (.inl ())))
def zbt (s_:List Int) (v_:Int):Option Int:=(iter (fun (s:Nat)=>zbt.s2 s_ v_ s) fuel 0).bind (Sum.elim (fun _=>some (-1:Int)) some)
def zcy (s_:List Int) (v_:Int):Option Bool:=(zbt s_ v_).bind fun a2=>some (decide (0≤a2))
def za6.s13 (v_:zau) (a7:Nat) (a6:List Int) (a2:Nat):Option (Nat⊕(Unit⊕(Nat⊕(Unit⊕(Int×Int×Bool))))):=cond (decide ((↑a2:Int)<(↑a6.length:Int))) (idxn a6 a2 fun a8=>(zcy v_.prefixes a8).bind fun b2=>cond ((!b2)) (some (.inr (.inr (.inr (.inr ((↑a7:Int),(↑a2:Int),true)))))) (some (.inl (a2+1)))) (some (.inr (.inl ())))
def za6.s14 (v_:zau) (a2:Nat):Option (Nat⊕(Unit⊕(Int×Int×Bool))):=cond (decide ((↑a2:Int)<(↑v_.next.length:Int))) (idxn v_.next a2 fun a6=>(iter (fun (s:Nat)=>za6.s13 v_ a2 a6 s) fuel 0).bind (Sum.elim (fun _=>some (.inl (a2+1))) some)) (some (.inr (.inl ())))
def za6 (v_:zau):Option (Int×Int×Bool):=(iter (fun (s:Nat)=>za6.s14 v_ s) fuel 0).bind (Sum.elim (fun _=>some (0,0,false)) some)
def zgt (t_:zac) (o_:zad):Option (List Int×Bool×Int):=(za2 t_ o_).bind fun a2=>cond (decide (a2.2≠0)) (some ([],false,a2.2)) ((za6 a2.1).bind fun a6=>cond ((!a6.2.2)) (some ([],false,0)) (idx t_.Prefixes a6.1 fun a7=>(zeq a7 a6.2.1).bind fun a8=>some (a8,true,0)))
def zbn.s2 (s1_:List Int) (s2_:List Int) (a2:Nat):Option (Nat⊕(Unit⊕Bool)):=cond (decide ((↑a2:Int)<(↑s1_.length:Int))) (idxn s1_ a2 fun a6=>idxn s2_ a2 fun a7=>cond (decide (a6≠a7)) (some (.inr (.inr false))) (some (.inl (a2+1)))) (some (.inr (.inl ())))
def zbn (s1_:List Int) (s2_:List Int):Option Bool:=cond (decide ((↑s1_.length:Int)≠(↑s2_.length:Int))) (some false) ((iter (fun (s:Nat)=>zbn.s2 s1_ s2_ s) fuel 0).bind (Sum.elim (fun _=>some true) some))
def zah.s1019 (a7:Nat) (a6:List (List Int)) (a8:List (List Int)) (a2:Nat):Option (Nat⊕(Unit⊕(Nat⊕(Unit⊕(Unit⊕(Nat⊕(Unit⊕(Nat⊕(Unit⊕(Int×Int×Bool)))))))))):=cond (decide ((↑a2:Int)<(↑a6.length:Int))) (idxn a6 a2 fun b2=>idxn a8 a2 fun b3=>(zbn b2 b3).bind fun b4=>cond ((!b4)) (some (.inr (.inr (.inr (.inr (.inr (.inr (.inr (.inr (.inr ((↑a7:Int),(↑a2:Int),true))))))))))) (some (.inl (a2+1)))) (some (.inr (.inl ())))
def zah.s1020 (v_:zau) (a6:Nat) (a7:Nat) (a8:List Int) (a2:Nat):Option (Nat⊕(Unit⊕(Unit⊕(Nat⊕(Unit⊕(Nat⊕(Unit⊕(Int×Int×Bool)))))))):=cond (decide ((↑a2:Int)<(↑a8.length:Int))) (idxn v_.next a6 fun b2=>idxn b2 a2 fun b3=>idx v_.rows b3 fun b4=>idxn v_.next a7 fun b5=>idxn b5 a2 fun b6=>idx v_.rows b6 fun b7=>(iter (fun (s:Nat)=>zah.s1019 a2 b4 b7 s) fuel 0).bind (Sum.elim (fun _=>chk (inR ((↑a2:Int)+1)) (some (.inl (a2+1)))) some)) (some (.inr (.inl ())))
def zah.s1021 (v_:zau) (a6:Nat) (a7:Int) (a2:Nat):Option (Nat⊕(Unit⊕(Nat⊕(Unit⊕(Int×Int×Bool))))):=cond (decide ((↑a2:Int)<(↑v_.prefixes.length:Int))) ((idxn v_.prefixes a2 fun a8=>cond (decide (a8≠a7)) (some (.inl ())) (idxn v_.next a6 fun b2=>(iter (fun (s:Nat)=>zah.s1020 v_ a6 a2 b2 s) fuel 0).bind (Sum.elim (fun _=>some (.inl ())) some)):Option (Unit⊕(Nat⊕(Unit⊕(Nat⊕(Unit⊕(Int×Int×Bool))))))).bind (Sum.elim (fun _=>some (.inl (a2+1))) some)) (some (.inr (.inl ())))
def zah.s1022 (v_:zau) (a2:Nat):Option (Nat⊕(Unit⊕(Int×Int×Bool))):=cond (decide ((↑a2:Int)<(↑v_.prefixes.length:Int))) (idxn v_.prefixes a2 fun a6=>(iter (fun (s:Nat)=>zah.s1021 v_ a2 a6 s) fuel (a2+1)).bind (Sum.elim (fun _=>some (.inl (a2+1))) some)) (some (.inr (.inl ())))
def zah (v_:zau):Option (Int×Int×Bool):=(iter (fun (s:Nat)=>zah.s1022 v_ s) fuel 0).bind (Sum.elim (fun _=>some (0,0,false)) some)
def zep (t_:zac) (o_:zad):Option (List Int×Bool×Int):=(za2 t_ o_).bind fun a2=>cond (decide (a2.2≠0)) (some ([],false,a2.2)) ((zah a2.1).bind fun a6=>cond ((!a6.2.2)) (some ([],false,0)) (idx t_.Suffixes a6.2.1 fun a7=>(zfk [[a6.1],a7]).bind fun a8=>some (a8,true,0)))
def zd7 (t_:zac) (o_:zad):Option (zac×List (List Int)×Bool×Int):=((((cond (decide (0=0)) (some (.inl ())) (cond (decide (0=1)) (some (.inr (.inl ()))) (cond (decide (0=2)) (some (.inr (.inr (.inl ())))) (some (.inr (.inr (.inr (.inl ()))))))):Option (Unit⊕(Unit⊕(Unit⊕(Unit⊕(zac×List (List Int)×Bool×Int)))))).bind (Sum.elim (fun _=>(zb1 t_ o_).bind fun a2=>(cond (decide (a2.2≠0)) (some true) (some (decide (0<(↑a2.1.length:Int))))).bind (fun b3=>cond (b3) (some (.inr (.inr (.inr (t_,a2.1,false,a2.2))))) (some (.inl ())))) some):Option (Unit⊕(Unit⊕(Unit⊕(zac×List (List Int)×Bool×Int))))).bind (Sum.elim (fun _=>(zgt t_ o_).bind fun a6=>cond (decide (a6.2.2≠0)) (some (.inr (.inr (t_,[],false,a6.2.2)))) (cond (a6.2.1) ((zg5 t_ a6.1).bind fun a8=>some (.inr (.inr (a8.1,[],false,a8.2)))) (some (.inl ())))) some):Option (Unit⊕(Unit⊕(zac×List (List Int)×Bool×Int)))).bind (Sum.elim (fun _=>(zep t_ o_).bind fun a7=>cond (decide (a7.2.2≠0)) (some (.inr (t_,[],false,a7.2.2))) (cond (a7.2.1) ((zip t_ a7.1).bind fun b2=>some (.inr (b2.1,[],false,b2.2))) (some (.inl ())))) some):Option (Unit⊕(zac×List (List Int)×Bool×Int))).bind (Sum.elim (fun _=>some (t_,[],true,0)) some)
def zmt:Option Bool:=(zko).bind fun b2=>(L23_Gate).bind fun b3=>(zd7 b2 b3).bind fun a2=>(zko).bind fun b4=>(zd7 b4 (⟨2,[]⟩:zad)).bind fun a6=>(zko).bind fun b5=>(zcf b5 [0,1] 0).bind fun a7=>(zko).bind fun b6=>(zcf b6 [0,1] 1).bind fun a8=>(cond (decide (a2.2.2.2≠0)) (some true) (cond (a2.2.2.1) (some true) (cond (decide ((↑a2.2.1.length:Int)≠0)) (some true) (cond (decide (a6.2.2.2≠0)) (some true) (cond (a6.2.2.1) (some true) (cond (decide ((↑a6.2.1.length:Int)≠4)) (some true) (cond (decide (a7.2≠0)) (some true) (cond (decide (a8.2≠0)) (some true) (some (decide ((↑a6.1.Prefixes.length:Int)≠1))))))))))).bind (fun b7=>cond (b7) (some false) (((zeo a2.1.Prefixes [[],[0]]).bind fun b8=>cond (b8) ((zeo a7.1.Prefixes [[],[0],[0,1]]).bind fun b9=>cond (b9) ((zeo a8.1.Suffixes [[0],[1],[0,1]]).bind fun c0=>some c0) (some false)) (some false)).bind (fun c6=>some c6)))
def zfu (m_:zc2) (s_:Int) (a_:Int):Option (Int×Int):=idx m_.Mealy.Next s_ fun a2=>idx a2 a_ fun a6=>idx m_.Mealy.Out s_ fun a7=>idx a7 a_ fun a8=>some (a6,a8)
def zbj.s2 (r_:zb7) (w_:List Int) (a7:Int) (a2:List Int) (a6:Nat):Option ((Int×List Int×Nat)⊕(Int×List Int)):=cond (decide ((↑a6:Int)<(↑w_.length:Int))) (idxn w_ a6 fun b2=>(zfu r_.machine a7 b2).bind fun a8=>chk (za7 (List.length a2+1) 8) (some (.inl (a8.1,(a2++[a8.2]),(a6+1))))) (some (.inr (a7,a2)))
def zbj.k3 (r_:zb7) (a2:Int) (a6:List Int):Option (List Int×zb7):=some (a6,(⟨r_.machine,a2⟩:zb7))
def zbj (r_:zb7) (w_:List Int):Option (List Int×zb7):=(iter (fun (s:Int×List Int×Nat)=>zbj.s2 r_ w_ s.1 s.2.1 s.2.2) fuel (r_.at_,[],0)).bind (fun s=>zbj.k3 r_ s.1 s.2)
def zb3.s13 (m_:zab) (a6:Nat) (a2:Nat):Option (Nat⊕(Unit⊕(Nat⊕(Unit⊕Int)))):=cond (decide ((↑a2:Int)<m_.Inputs)) (idxn m_.Next a6 fun b2=>idxn b2 a2 fun a7=>idxn m_.Out a6 fun b3=>idxn b3 a2 fun a8=>(cond (decide (a7<0)) (some true) (cond (decide ((↑m_.Next.length:Int)≤a7)) (some true) (cond (decide (a8<0)) (some true) (some (decide (1048576<a8)))))).bind (fun b4=>cond (b4) (some (.inr (.inr (.inr (.inr 2))))) (chk (inR ((↑a2:Int)+1)) (some (.inl (a2+1)))))) (some (.inr (.inl ())))
def zb3.s14 (m_:zab) (a2:Nat):Option (Nat⊕(Unit⊕Int)):=cond (decide ((↑a2:Int)<(↑m_.Next.length:Int))) ((idxn m_.Next a2 fun a6=>cond (decide ((↑a6.length:Int)≠m_.Inputs)) (some true) (idxn m_.Out a2 fun a7=>some (decide ((↑a7.length:Int)≠m_.Inputs)))).bind (fun a8=>cond (a8) (some (.inr (.inr 1))) ((iter (fun (s:Nat)=>zb3.s13 m_ a2 s) fuel 0).bind (Sum.elim (fun _=>some (.inl (a2+1))) some)))) (some (.inr (.inl ())))
def zb3 (m_:zab):Option Int:=(cond (decide (m_.Inputs<1)) (some true) (some (decide (64<m_.Inputs)))).bind (fun a2=>cond (a2) (some 2) (cond (decide ((↑m_.Next.length:Int)=0)) (some 19) (cond (decide (128<(↑m_.Next.length:Int))) (some 11) ((cond (decide (m_.Start<0)) (some true) (some (decide ((↑m_.Next.length:Int)≤m_.Start)))).bind (fun a6=>cond (a6) (some 2) (cond (decide ((↑m_.Out.length:Int)≠(↑m_.Next.length:Int))) (some 1) ((iter (fun (s:Nat)=>zb3.s14 m_ s) fuel 0).bind (Sum.elim (fun _=>some 0) some))))))))
def zdo.s2 (m_:zab) (words_:List (List Int)) (a2:List zaa) (a6:Nat):Option ((List zaa×Nat)⊕(List zaa⊕(List zaa×Int))):=cond (decide ((↑a6:Int)<(↑words_.length:Int))) (idxn words_ a6 fun a7=>(ze6 a7 m_.Inputs).bind fun b3=>cond (decide (b3≠0)) (some (.inr (.inr ([],b3)))) ((zdm a7).bind fun a8=>(zbj (⟨(⟨m_⟩:zc2),m_.Start⟩:zb7) a7).bind fun b2=>chk (za7 (List.length a2+1) 48) (some (.inl ((a2++[(⟨a8,b2.1⟩:zaa)]),(a6+1)))))) (some (.inr (.inl a2)))
def zdo (m_:zab) (words_:List (List Int)):Option (List zaa×Int):=(zb3 m_).bind fun a2=>cond (decide (a2≠0)) (some ([],a2)) (cond (decide (10000<(↑words_.length:Int))) (some ([],11)) ((iter (fun (s:List zaa×Nat)=>zdo.s2 m_ words_ s.1 s.2) fuel ([],0)).bind (Sum.elim (fun a6=>some (a6,0)) some)))
def zfp (t_:zaa):Option zaa:=(zdm t_.In).bind fun a2=>(zdm t_.Out).bind fun a6=>some (⟨a2,a6⟩:zaa)
def zc6.s2 (l_:List zaa) (a2:List zaa) (a6:Nat):Option ((List zaa×Nat)⊕List zaa):=cond (decide ((↑a6:Int)<(↑l_.length:Int))) (idxn l_ a6 fun a7=>(zfp a7).bind fun a8=>chk (za7 (List.length a2+1) 48) (some (.inl ((a2++[a8]),(a6+1))))) (some (.inr a2))
def zc6 (l_:List zaa):Option (List zaa):=chk ((0:Int)≤0∧0≤((↑l_.length:Int)+1)∧za7 (Int.toNat ((↑l_.length:Int)+1)) 48) ((iter (fun (s:List zaa×Nat)=>zc6.s2 l_ s.1 s.2) fuel ([],0)).bind (fun a2=>some a2))
def zak.s2 (x_:List zaa) (target_:zaa) (cmp_:zaa→zaa→Option Int) (a2:Int) (a6:Int):Option ((Int×Int)⊕Int):=cond (decide (a2<a6)) (chk (inR (a2+a6)) (chk ((0:Int)≤(a2+a6)∧(a2+a6)≤18446744073709551615) (chk ((0:Int)≤(a2+a6)∧(a2+a6)≤18446744073709551615) (chk (inR ((a2+a6) / 2^1)) (idx x_ ((a2+a6) / 2^1) fun a7=>(cmp_ a7 target_).bind fun a8=>cond (decide (a8<0)) (chk (inR (((a2+a6) / 2^1)+1)) (some (.inl ((((a2+a6) / 2^1)+1),a6)))) (some (.inl (a2,((a2+a6) / 2^1))))))))) (some (.inr a2))
def zak (x_:List zaa) (target_:zaa) (cmp_:zaa→zaa→Option Int):Option (Int×Bool):=(iter (fun (s:Int×Int)=>zak.s2 x_ target_ cmp_ s.1 s.2) fuel (0,(↑x_.length:Int))).bind (fun a2=>(cond (decide (a2<(↑x_.length:Int))) (idx x_ a2 fun a6=>(cmp_ a6 target_).bind fun a7=>some (decide (a7=0))) (some false)).bind (fun a8=>some (a2,a8)))
def zgw (a_:zaa) (b_:zaa):Option Int:=(zdt a_.In b_.In).bind fun a2=>chk ((0:Int)≤(min (min a2 (↑a_.Out.length:Int)) (↑b_.Out.length:Int))∧(min (min a2 (↑a_.Out.length:Int)) (↑b_.Out.length:Int))≤(↑a_.Out.length:Int)) (chk ((0:Int)≤(min (min a2 (↑a_.Out.length:Int)) (↑b_.Out.length:Int))∧(min (min a2 (↑a_.Out.length:Int)) (↑b_.Out.length:Int))≤(↑b_.Out.length:Int)) ((zdt (List.take (Int.toNat (min (min a2 (↑a_.Out.length:Int)) (↑b_.Out.length:Int))) a_.Out) (List.take (Int.toNat (min (min a2 (↑a_.Out.length:Int)) (↑b_.Out.length:Int))) b_.Out)).bind fun a6=>cond (decide (a6<(min (min a2 (↑a_.Out.length:Int)) (↑b_.Out.length:Int)))) (some a6) (some (-1:Int))))
def zhd (u_:zaa) (p1_:zaa):Option Bool:=(zdl p1_.In u_.In).bind fun a2=>some a2
def zat.s2 (s_:List zaa) (f_:zaa→Option Bool) (a2:Nat):Option (Nat⊕(Unit⊕Int)):=cond (decide ((↑a2:Int)<(↑s_.length:Int))) (idxn s_ a2 fun a6=>(f_ a6).bind fun a7=>cond (a7) (some (.inr (.inr (↑a2:Int)))) (some (.inl (a2+1)))) (some (.inr (.inl ())))
def zat (s_:List zaa) (f_:zaa→Option Bool):Option Int:=(iter (fun (s:Nat)=>zat.s2 s_ f_ s) fuel 0).bind (Sum.elim (fun _=>some (-1:Int)) some)
def zai.s2 (del_:zaa→Option Bool) (a2:List zaa) (a6:Int) (a7:Int):Option ((List zaa×Int×Int)⊕(List zaa×Int)):=cond (decide (a7<(↑a2.length:Int))) (idx a2 a7 fun a8=>(del_ a8).bind fun b2=>cond ((!b2)) (idx a2 a6 fun b3=>chk (inR (a6+1)) (chk (inR (a7+1)) (some (.inl ((List.set a2 a6.toNat a8),(a6+1),(a7+1)))))) (chk (inR (a7+1)) (some (.inl (a2,a6,(a7+1)))))) (some (.inr (a2,a6)))
def zai.k3 (a6:List zaa) (a2:Int):Option (List zaa):=chk ((0:Int)≤a2∧a2≤(↑a6.length:Int)∧0<List.length a6) (chk ((Int.toNat a2)≤List.length a6) (chk ((0:Int)≤a2∧a2≤(↑(List.length (List.take (Int.toNat a2) a6++List.replicate (List.length a6-(Int.toNat a2)) (⟨[],[]⟩:zaa))):Int)∧0<List.length (List.take (Int.toNat a2) a6++List.replicate (List.length a6-(Int.toNat a2)) (⟨[],[]⟩:zaa))) (some (List.take (Int.toNat a2) (List.take (Int.toNat a2) a6++List.replicate (List.length a6-(Int.toNat a2)) (⟨[],[]⟩:zaa))))))
def zai (s_:List zaa) (del_:zaa→Option Bool):Option (List zaa):=(zat s_ del_).bind fun a2=>cond (decide (a2=(-1:Int))) (some s_) (chk (inR (a2+1)) ((iter (fun (s:List zaa×Int×Int)=>zai.s2 del_ s.1 s.2.1 s.2.2) fuel (s_,a2,(a2+1))).bind (fun s=>zai.k3 s.1 s.2)))
def zd0 (a_:zaa) (b_:zaa):Option Int:=(zd3 a_.In b_.In).bind fun a2=>some a2
def zd8.s2 (l_:List zaa) (t_:zaa) (inside79:Bool) (a2:Nat):Option ((Bool×Nat)⊕(Bool⊕(List zaa×Int))):=cond (decide ((↑a2:Int)<(↑l_.length:Int))) (idxn l_ a2 fun a6=>(zgw a6 t_).bind fun a7=>cond (decide (0≤a7)) (some (.inr (.inr ([],13)))) (cond (inside79) (some (.inl (true,(a2+1)))) ((zdl a6.In t_.In).bind fun a8=>some (.inl (a8,(a2+1)))))) (some (.inr (.inl inside79)))
def zd8 (l_:List zaa) (t_:zaa):Option (List zaa×Int):=(iter (fun (s:Bool×Nat)=>zd8.s2 l_ t_ s.1 s.2) fuel (false,0)).bind (Sum.elim (fun inside73=>(cond (inside73) (some true) (some (decide ((↑t_.In.length:Int)=0)))).bind (fun b2=>cond (b2) (some (l_,0)) ((zai l_ (fun u0=>zhd u0 t_)).bind fun a2=>cond (decide ((↑a2.length:Int)=10000)) (some ([],11)) ((zak a2 t_ (fun u0 u1=>zd0 u0 u1)).bind fun a6=>(zfp t_).bind fun a7=>(zhv a2 a6.1 [a7]).bind fun a8=>some (a8,0))))) some)
def zfn (o_:Int):Option Bool:=(cond (decide (o_<0)) (some true) (some (decide (1048576<o_)))).bind (fun a2=>some a2)
def zgr (t_:zaa) (inputs_:Int):Option Int:=(ze6 t_.In inputs_).bind fun a2=>cond (decide (a2≠0)) (some a2) (cond (decide ((↑t_.Out.length:Int)≠(↑t_.In.length:Int))) (some 1) ((zb9 t_.Out (fun u0=>zfn u0)).bind fun a6=>cond (a6) (some 2) (some 0)))
def zdg.s2 (o_:zad) (l_:List zaa) (a7:List zaa) (a2:Nat):Option ((List zaa×Nat)⊕(List zaa⊕(zad×Int))):=cond (decide ((↑a2:Int)<(↑l_.length:Int))) (idxn l_ a2 fun a8=>(zgr a8 o_.Inputs).bind fun b2=>cond (decide (b2≠0)) (some (.inr (.inr (o_,b2)))) ((zd8 a7 a8).bind fun a6=>cond (decide (a6.2≠0)) (some (.inr (.inr (o_,a6.2)))) (some (.inl (a6.1,(a2+1)))))) (some (.inr (.inl a7)))
def zdg (o_:zad) (l_:List zaa):Option (zad×Int):=(zc6 o_.Traces).bind fun a2=>(iter (fun (s:List zaa×Nat)=>zdg.s2 o_ l_ s.1 s.2) fuel (a2,0)).bind (Sum.elim (fun a6=>some ((⟨o_.Inputs,a6⟩:zad),0)) some)
def zno (m_:zab) (words_:List (List Int)):Option (zad×Int):=(zdo m_ words_).bind fun a2=>cond (decide (a2.2≠0)) (some ((⟨0,[]⟩:zad),a2.2)) ((zdg (⟨m_.Inputs,[]⟩:zad) a2.1).bind fun a6=>cond (decide (a6.2≠0)) (some ((⟨0,[]⟩:zad),a6.2)) (some (a6.1,0)))
def zi2 (a_:zad) (b_:zad):Option (zad×Int):=cond (decide (a_.Inputs≠b_.Inputs)) (some (a_,15)) ((zdg a_ b_.Traces).bind fun a2=>some (a2.1,a2.2))
def zci (m_:zab) (o_:zad) (words_:List (List Int)):Option (zad×Int):=(zno m_ words_).bind fun a2=>cond (decide (a2.2≠0)) (some (o_,a2.2)) ((zi2 o_ a2.1).bind fun a6=>some (a6.1,a6.2))
def zgz.s2 (inputs_:Int) (a6:List (List Int)) (a2:Nat):Option ((List (List Int)×Nat)⊕List (List Int)):=cond (decide ((↑a2:Int)<inputs_)) (chk (za7 (List.length a6+1) 24) (chk (inR ((↑a2:Int)+1)) (some (.inl ((a6++[[(↑a2:Int)]]),(a2+1)))))) (some (.inr a6))
def zgz (inputs_:Int):Option (zac×Int):=(cond (decide (inputs_<1)) (some true) (some (decide (64<inputs_)))).bind (fun a2=>cond (a2) (some ((⟨0,[],[]⟩:zac),2)) ((iter (fun (s:List (List Int)×Nat)=>zgz.s2 inputs_ s.1 s.2) fuel ([],0)).bind (fun a6=>some ((⟨inputs_,[[]],a6⟩:zac),0))))
def zjw (inputs_:Int):Option (zad×Int):=(cond (decide (inputs_<1)) (some true) (some (decide (64<inputs_)))).bind (fun a2=>cond (a2) (some ((⟨0,[]⟩:zad),2)) (some ((⟨inputs_,[]⟩:zad),0)))
def zav.s30 (t_:zac) (b4:zau×Int) (a7:Int) (a6:List Int) (a2:Nat):Option ((List Int×Nat)⊕List Int):=cond (decide ((↑a2:Int)<t_.Inputs)) (idx b4.1.rows a7 fun a8=>idxn a8 a2 fun b2=>idxn b2 0 fun b3=>chk (za7 (List.length a6+1) 8) (chk (inR ((↑a2:Int)+1)) (some (.inl ((a6++[b3]),(a2+1)))))) (some (.inr a6))
def zav.k31 (a2:Nat) (a6:List (List Int)) (a7:List (List Int)) (a8:List (List Int)):Option ((List (List Int)×List (List Int)×List (List Int)×Nat)⊕(List (List Int)×List (List Int)×List (List Int))):=some (.inl (a6,a7,a8,(a2+1)))
def zav.s32 (t_:zac) (b3:zau×Int) (a7:List (List Int)) (a8:List (List Int)) (a2:List (List Int)) (a6:Nat):Option ((List (List Int)×List (List Int)×List (List Int)×Nat)⊕(List (List Int)×List (List Int)×List (List Int))):=cond (decide ((↑a6:Int)<(↑b3.1.prefixes.length:Int))) ((idxn b3.1.prefixes a6 fun b2=>cond (decide (b2<(↑a2.length:Int))) (some (a7,a8,a2)) ((iter (fun (s:List Int×Nat)=>zav.s30 t_ b3 b2 s.1 s.2) fuel ([],0)).bind (fun b4=>idxn b3.1.next a6 fun b5=>(zdm b5).bind fun b6=>chk (za7 (List.length a7+1) 24) (chk (za7 (List.length a8+1) 24) (idxn t_.Prefixes a6 fun b7=>(zdm b7).bind fun b8=>chk (za7 (List.length a2+1) 24) (some ((a7++[b6]),(a8++[b4]),(a2++[b8]))))))):Option (List (List Int)×List (List Int)×List (List Int))).bind (fun s=>zav.k31 a6 s.1 s.2.1 s.2.2)) (some (.inr (a7,a8,a2)))
def zav.k33 (t_:zac) (a2:List (List Int)) (a6:List (List Int)) (a7:List (List Int)):Option (zb0×Int):=some ((⟨(⟨t_.Inputs,0,a2,a6⟩:zab),a7⟩:zb0),0)
def zav (t_:zac) (o_:zad):Option (zb0×Int):=(za2 t_ o_).bind fun a2=>cond (decide (a2.2≠0)) (some ((⟨(⟨0,0,[],[]⟩:zab),[]⟩:zb0),a2.2)) ((za6 a2.1).bind fun a6=>(zah a2.1).bind fun a7=>(cond (a6.2.2) (some true) (some a7.2.2)).bind (fun a8=>cond (a8) (some ((⟨(⟨0,0,[],[]⟩:zab),[]⟩:zb0),10)) (cond (decide (128<(↑a2.1.rows.length:Int))) (some ((⟨(⟨0,0,[],[]⟩:zab),[]⟩:zb0),11)) ((iter (fun (s:List (List Int)×List (List Int)×List (List Int)×Nat)=>zav.s32 t_ a2 s.1 s.2.1 s.2.2.1 s.2.2.2) fuel ([],[],[],0)).bind (fun s=>zav.k33 t_ s.1 s.2.1 s.2.2)))))
def zer.s2 (a_:zab) (b_:zab) (a2:Nat):Option (Nat⊕(Unit⊕Int)):=cond (decide ((↑a2:Int)<2)) (cond (decide ((↑a2:Int)=0)) ((zb3 a_).bind fun a6=>cond (decide (a6≠0)) (some (.inr (.inr a6))) (some (.inl (a2+1)))) (chk ((↑a2:Int)=1) ((zb3 b_).bind fun a7=>cond (decide (a7≠0)) (some (.inr (.inr a7))) (some (.inl (a2+1)))))) (some (.inr (.inl ())))
def zer (a_:zab) (b_:zab):Option Int:=(iter (fun (s:Nat)=>zer.s2 a_ b_ s) fuel 0).bind (Sum.elim (fun _=>cond (decide (a_.Inputs≠b_.Inputs)) (some 15) (some 0)) some)
def za9.s2 (a_:zab) (b_:zab) (a6:List (List Bool)) (a2:Nat):Option ((List (List Bool)×Nat)⊕List (List Bool)):=cond (decide ((↑a2:Int)<(↑(List.length (List.replicate a_.Next.length ([]:List Bool))):Int))) (chk ((0:Int)≤(↑b_.Next.length:Int)∧(↑b_.Next.length:Int)≤(↑b_.Next.length:Int)∧za7 (Int.toNat (↑b_.Next.length:Int)) 1) (idxn a6 a2 fun a7=>chk (inR ((↑a2:Int)+1)) (some (.inl ((List.set a6 a2 (List.replicate b_.Next.length false)),(a2+1)))))) (some (.inr a6))
def za9.s20 (a_:zab) (b_:zab) (b5:Nat) (a6:zbf) (a8:List (List Bool)) (a7:List zbf) (a2:Nat):Option ((List (List Bool)×List zbf×Nat)⊕((List (List Bool)×List zbf)⊕((List (List Bool)×List zbf×Nat)⊕(Unit⊕(List Int×Bool))))):=cond (decide ((↑a2:Int)<a_.Inputs)) (idx a_.Out a6.at_.s fun b6=>idxn b6 a2 fun b7=>idx b_.Out a6.at_.t fun b8=>idxn b8 a2 fun b9=>cond (decide (b7≠b9)) (idxn a7 b5 fun c0=>(zfk [c0.word,[(↑a2:Int)]]).bind fun c6=>some (.inr (.inr (.inr (.inr (c6,true)))))) (idx a_.Next a6.at_.s fun c7=>idxn c7 a2 fun b2=>idx b_.Next a6.at_.t fun c8=>idxn c8 a2 fun b3=>(cond ((!(decide (b2=a6.at_.s)&&(decide (b3=a6.at_.t)&&true)))) (idx a8 b2 fun c9=>idx c9 b3 fun d0=>some (!d0)) (some false)).bind (fun d1=>cond (d1) (idx a8 b2 fun b4=>idx b4 b3 fun d4=>idxn a7 b5 fun d2=>(zfk [d2.word,[(↑a2:Int)]]).bind fun d3=>chk (za7 (List.length a7+1) 40) (chk (inR ((↑a2:Int)+1)) (some (.inl ((List.set a8 (Int.toNat b2) (List.set b4 (Int.toNat b3) true)),(a7++[(⟨(⟨b2,b3⟩:zc8),d3⟩:zbf)]),(a2+1)))))) (chk (inR ((↑a2:Int)+1)) (some (.inl (a8,a7,(a2+1)))))))) (some (.inr (.inl (a8,a7))))
def za9.k21 (a7:Nat) (a2:List (List Bool)) (a6:List zbf):Option ((List (List Bool)×List zbf×Nat)⊕(Unit⊕(List Int×Bool))):=some (.inl (a2,a6,(a7+1)))
def za9.s22 (a_:zab) (b_:zab) (a8:List (List Bool)) (a6:List zbf) (a2:Nat):Option ((List (List Bool)×List zbf×Nat)⊕(Unit⊕(List Int×Bool))):=cond (decide ((↑a2:Int)<(↑a6.length:Int))) (idxn a6 a2 fun a7=>(iter (fun (s:List (List Bool)×List zbf×Nat)=>za9.s20 a_ b_ a2 a7 s.1 s.2.1 s.2.2) fuel (a8,a6,0)).bind (Sum.elim (fun s=>za9.k21 a2 s.1 s.2) some)) (some (.inr (.inl ())))
def za9 (a_:zab) (b_:zab) (first_:zc8):Option (List Int×Bool):=chk ((0:Int)≤(↑a_.Next.length:Int)∧(↑a_.Next.length:Int)≤(↑a_.Next.length:Int)∧za7 (Int.toNat (↑a_.Next.length:Int)) 24) ((iter (fun (s:List (List Bool)×Nat)=>za9.s2 a_ b_ s.1 s.2) fuel ((List.replicate a_.Next.length ([]:List Bool)),0)).bind (fun a2=>idx a2 first_.s fun a6=>idx a6 first_.t fun a7=>(iter (fun (s:List (List Bool)×List zbf×Nat)=>za9.s22 a_ b_ s.1 s.2.1 s.2.2) fuel ((List.set a2 (Int.toNat first_.s) (List.set a6 (Int.toNat first_.t) true)),[(⟨first_,[]⟩:zbf)],0)).bind (Sum.elim (fun _=>some ([],false)) some)))
def zck (a_:zab) (b_:zab):Option (List Int×Bool×Int):=(zer a_ b_).bind fun a2=>cond (decide (a2≠0)) (some ([],false,a2)) ((za9 a_ b_ (⟨a_.Start,b_.Start⟩:zc8)).bind fun a6=>some (a6.1,a6.2,0))
def zdk (e_:Int):Option (zb0×zad×Int×Int):=some ((⟨(⟨0,0,[],[]⟩:zab),[]⟩:zb0),(⟨0,[]⟩:zad),0,e_)
def zby.k3 (a2:Int) (a6:List (List Int)) (a7:List (List Int)) (a8:Int) (b2:List zaa) (count199:Nat):Option ((Int×List (List Int)×List (List Int)×Int×List zaa×Nat)⊕(zb0×zad×Int×Int)):=some (.inl (a2,a6,a7,a8,b2,count199))
def zby.s4 (m_:zab) (mode_:Int) (c7:Int) (c8:List (List Int)) (c9:List (List Int)) (a6:Int) (a7:List zaa) (count118:Nat):Option ((Int×List (List Int)×List (List Int)×Int×List zaa×Nat)⊕(zb0×zad×Int×Int)):=((zd7 (⟨c7,c8,c9⟩:zac) (⟨a6,a7⟩:zad)).bind fun a2=>cond (decide (a2.2.2.2≠0)) ((zdk a2.2.2.2).bind fun b3=>some (.inr (.inr (b3.1,b3.2.1,b3.2.2.1,b3.2.2.2)))) (cond ((!a2.2.2.1)) ((zci m_ (⟨a6,a7⟩:zad) a2.2.1).bind fun b4=>cond (decide (b4.2≠0)) ((zdk b4.2).bind fun b5=>some (.inr (.inr (b5.1,b5.2.1,b5.2.2.1,b5.2.2.2)))) (some (.inl (a2.1.Inputs,a2.1.Prefixes,a2.1.Suffixes,b4.1.Inputs,b4.1.Traces,count118)))) ((zav a2.1 (⟨a6,a7⟩:zad)).bind fun b6=>cond (decide (b6.2≠0)) ((zdk b6.2).bind fun b7=>some (.inr (.inr (b7.1,b7.2.1,b7.2.2.1,b7.2.2.2)))) ((zck b6.1.M m_).bind fun a8=>cond (decide (a8.2.2≠0)) ((zdk a8.2.2).bind fun b8=>some (.inr (.inr (b8.1,b8.2.1,b8.2.2.1,b8.2.2.2)))) (cond ((!a8.2.1)) (some (.inr (.inr (b6.1,(⟨a6,a7⟩:zad),(↑count118:Int),0)))) ((zci m_ (⟨a6,a7⟩:zad) [a8.1]).bind fun b9=>cond (decide (b9.2≠0)) ((zdk b9.2).bind fun c0=>some (.inr (.inr (c0.1,c0.2.1,c0.2.2.1,c0.2.2.2)))) ((zcf a2.1 a8.1 mode_).bind fun b2=>cond (decide (b2.2≠0)) ((zdk b2.2).bind fun c6=>some (.inr (.inr (c6.1,c6.2.1,c6.2.2.1,c6.2.2.2)))) (chk (inR ((↑count118:Int)+1)) (some (.inl (b2.1.Inputs,b2.1.Prefixes,b2.1.Suffixes,b9.1.Inputs,b9.1.Traces,(count118+1))))))))))):Option ((Int×List (List Int)×List (List Int)×Int×List zaa×Nat)⊕((Int×List (List Int)×List (List Int)×Int×List zaa×Nat)⊕(zb0×zad×Int×Int)))).bind (Sum.elim (fun s=>zby.k3 s.1 s.2.1 s.2.2.1 s.2.2.2.1 s.2.2.2.2.1 s.2.2.2.2.2) some)
def zby (m_:zab) (mode_:Int):Option (zb0×zad×Int×Int):=(zb3 m_).bind fun a8=>cond (decide (a8≠0)) ((zdk a8).bind fun a2=>some (a2.1,a2.2.1,a2.2.2.1,a2.2.2.2)) ((cond (decide (mode_≠0)) (some (decide (mode_≠1))) (some false)).bind (fun b3=>cond (b3) ((zdk 2).bind fun a6=>some (a6.1,a6.2.1,a6.2.2.1,a6.2.2.2)) ((zgz m_.Inputs).bind fun a7=>(zjw m_.Inputs).bind fun b2=>iter (fun (s:Int×List (List Int)×List (List Int)×Int×List zaa×Nat)=>zby.s4 m_ mode_ s.1 s.2.1 s.2.2.1 s.2.2.2.1 s.2.2.2.2.1 s.2.2.2.2.2) fuel (a7.1.Inputs,a7.1.Prefixes,a7.1.Suffixes,b2.1.Inputs,b2.1.Traces,1))))
def zpz (inputs_:Int):Option Bool:=(cond (decide (1≤inputs_)) (some (decide (inputs_≤1024))) (some false)).bind (fun a2=>some a2)
def ze3.s2 (w_:List Int) (inputs_:Int) (a2:Nat):Option (Nat⊕(Unit⊕Int)):=cond (decide ((↑a2:Int)<(↑w_.length:Int))) ((idxn w_ a2 fun a6=>cond (decide (a6<0)) (some true) (idxn w_ a2 fun a7=>some (decide (inputs_≤a7)))).bind (fun a8=>cond (a8) (some (.inr (.inr 1))) (some (.inl (a2+1))))) (some (.inr (.inl ())))
def ze3 (w_:List Int) (inputs_:Int):Option Int:=(zpz inputs_).bind fun a2=>cond ((!a2)) (some 2) (cond (decide (1024<(↑w_.length:Int))) (some 3) ((iter (fun (s:Nat)=>ze3.s2 w_ inputs_ s) fuel 0).bind (Sum.elim (fun _=>some 0) some)))
def zds.s2 (m_:zab) (w_:List Int) (s90:Int) (a6:List Int) (a2:Nat):Option ((Int×List Int×Nat)⊕(Int×List Int)):=cond (decide ((↑a2:Int)<(↑w_.length:Int))) (idx m_.Out s90 fun a7=>idxn w_ a2 fun a8=>idx a7 a8 fun b2=>chk (za7 (List.length a6+1) 8) (idx m_.Next s90 fun b3=>idxn w_ a2 fun b4=>idx b3 b4 fun b5=>some (.inl (b5,(a6++[b2]),(a2+1))))) (some (.inr (s90,a6)))
def zds.k3 (a2:Int) (a6:List Int):Option (List Int×Int):=some (a6,a2)
def zds (m_:zab) (s_:Int) (w_:List Int):Option (List Int×Int):=(iter (fun (s:Int×List Int×Nat)=>zds.s2 m_ w_ s.1 s.2.1 s.2.2) fuel (s_,[],0)).bind (fun s=>zds.k3 s.1 s.2)
def zf4.s2 (h_:zb0) (a2:Nat):Option (Nat⊕(Unit⊕Int)):=cond (decide ((↑a2:Int)<(↑h_.Access.length:Int))) (idxn h_.Access a2 fun a6=>(ze3 a6 h_.M.Inputs).bind fun a7=>cond (decide (a7≠0)) (some (.inr (.inr a7))) ((zds h_.M h_.M.Start a6).bind fun a8=>cond (decide (a8.2≠(↑a2:Int))) (some (.inr (.inr 15))) (some (.inl (a2+1))))) (some (.inr (.inl ())))
def zf4 (h_:zb0):Option Int:=(zbx h_.M).bind fun a2=>cond (decide (a2≠0)) (some a2) (cond (decide ((↑h_.Access.length:Int)≠(↑h_.M.Next.length:Int))) (some 1) ((iter (fun (s:Nat)=>zf4.s2 h_ s) fuel 0).bind (Sum.elim (fun _=>idx h_.Access h_.M.Start fun a6=>cond (decide (0<(↑a6.length:Int))) (some 10) (some 0)) some)))
def zuf (a_:List Int) (b_:List Int):Option Int:=(zei a_ b_).bind fun a2=>(cond (decide (a2=(↑a_.length:Int))) (some (decide (a2=(↑b_.length:Int)))) (some false)).bind (fun a6=>cond (a6) (some 0) ((cond (decide (a2=(↑a_.length:Int))) (some (decide (a2=(↑a_.length:Int)))) (cond (decide (a2<(↑b_.length:Int))) (idx a_ a2 fun a7=>idx b_ a2 fun a8=>some (decide (a7<a8))) (some false))).bind (fun b2=>cond (b2) (some (-1:Int)) (some 1))))
def zjp (a_:List Int) (b_:List Int):Option Int:=cond (decide ((↑a_.length:Int)<(↑b_.length:Int))) (some (-1:Int)) (cond (decide ((↑b_.length:Int)<(↑a_.length:Int))) (some 1) ((zuf a_ b_).bind fun a2=>some a2))
def zfs.s2 (t_:zaa) (a2:Nat):Option (Nat⊕(Unit⊕Int)):=cond (decide ((↑a2:Int)<(↑t_.Out.length:Int))) ((idxn t_.Out a2 fun a6=>cond (decide (a6<0)) (some true) (idxn t_.Out a2 fun a7=>some (decide (1048576<a7)))).bind (fun a8=>cond (a8) (some (.inr (.inr 2))) (some (.inl (a2+1))))) (some (.inr (.inl ())))
def zfs (t_:zaa) (inputs_:Int):Option Int:=(ze3 t_.In inputs_).bind fun a2=>cond (decide (a2≠0)) (some a2) (cond (decide ((↑t_.Out.length:Int)≠(↑t_.In.length:Int))) (some 1) ((iter (fun (s:Nat)=>zfs.s2 t_ s) fuel 0).bind (Sum.elim (fun _=>some 0) some)))
def zgf (w_:List Int) (p_:List Int):Option Bool:=(zei w_ p_).bind fun a2=>some (decide (a2=(↑p_.length:Int)))
def zfr.s2 (a_:zaa) (b_:zaa) (a6:Int) (a2:Nat):Option (Nat⊕(Unit⊕Int)):=cond (decide ((↑a2:Int)<a6)) (idxn a_.Out a2 fun a7=>idxn b_.Out a2 fun a8=>cond (decide (a7≠a8)) (some (.inr (.inr (↑a2:Int)))) (chk (inR ((↑a2:Int)+1)) (some (.inl (a2+1))))) (some (.inr (.inl ())))
def zfr (a_:zaa) (b_:zaa):Option Int:=(zei a_.In b_.In).bind fun a2=>(iter (fun (s:Nat)=>zfr.s2 a_ b_ a2 s) fuel 0).bind (Sum.elim (fun _=>some (-1:Int)) some)
def zct.s30 (o_:zad) (a6:Nat) (prefix714:Bool) (clash715:Bool) (a2:Nat):Option ((Bool×Bool×Nat)⊕(Bool×Bool)):=cond (decide ((↑a2:Int)<(↑o_.Traces.length:Int))) ((cond (prefix714) (some true) (idxn o_.Traces a2 fun a7=>idxn o_.Traces a6 fun a8=>(zgf a7.In a8.In).bind fun b2=>some b2)).bind (fun prefix741=>cond (clash715) (some (.inl (prefix741,true,(a2+1)))) (idxn o_.Traces a6 fun b3=>idxn o_.Traces a2 fun b4=>(zfr b3 b4).bind fun b5=>some (.inl (prefix741,decide (0≤b5),(a2+1)))))) (some (.inr (prefix714,clash715)))
def zct.k31 (a2:Nat) (prefix693:Bool) (clash694:Bool):Option (Nat⊕(Unit⊕Int)):=cond (prefix693) (some (.inr (.inr 7))) (cond (clash694) (some (.inr (.inr 13))) (some (.inl (a2+1))))
def zct.s32 (o_:zad) (a2:Nat):Option (Nat⊕(Unit⊕Int)):=cond (decide ((↑a2:Int)<(↑o_.Traces.length:Int))) ((iter (fun (s:Bool×Bool×Nat)=>zct.s30 o_ a2 s.1 s.2.1 s.2.2) fuel (false,false,(a2+1))).bind (fun s=>zct.k31 a2 s.1 s.2)) (some (.inr (.inl ())))
def zct (o_:zad):Option Int:=(iter (fun (s:Nat)=>zct.s32 o_ s) fuel 0).bind (Sum.elim (fun _=>some 0) some)
def zgs.s2 (o_:zad) (a2:Nat):Option (Nat⊕(Unit⊕Int)):=cond (decide ((↑a2:Int)<(↑o_.Traces.length:Int))) (idxn o_.Traces a2 fun a6=>(ze3 a6.In o_.Inputs).bind fun a7=>cond (decide (a7≠0)) (some (.inr (.inr a7))) (cond (decide ((↑a6.In.length:Int)=0)) (some (.inr (.inr 19))) ((zfs a6 o_.Inputs).bind fun a8=>cond (decide (a8≠0)) (some (.inr (.inr a8))) ((cond (decide (0<(↑a2:Int))) (idx o_.Traces ((↑a2:Int)-1) fun b2=>(zjp b2.In a6.In).bind fun b3=>some (decide (0≤b3))) (some false)).bind (fun b4=>cond (b4) (some (.inr (.inr 10))) (some (.inl (a2+1)))))))) (some (.inr (.inl ())))
def zgs (o_:zad):Option Int:=(cond (decide (o_.Inputs<1)) (some true) (some (decide (64<o_.Inputs)))).bind (fun a6=>cond (a6) (some 2) (cond (decide (10000<(↑o_.Traces.length:Int))) (some 11) ((iter (fun (s:Nat)=>zgs.s2 o_ s) fuel 0).bind (Sum.elim (fun _=>(zct o_).bind fun a2=>some a2) some))))
def zbo.s89 (m_:zab) (class_:List Int) (a6:Nat) (a7:Int) (same5139:Bool) (a2:Nat):Option ((Bool×Nat)⊕Bool):=(cond (decide ((↑a2:Int)<m_.Inputs)) (some same5139) (some false)).bind (fun a8=>cond (a8) (idxn m_.Out a6 fun b2=>idxn b2 a2 fun b3=>idx m_.Out a7 fun b4=>idxn b4 a2 fun b5=>cond (decide (b3=b5)) (idxn m_.Next a6 fun b6=>idxn b6 a2 fun b7=>idx class_ b7 fun b8=>idx m_.Next a7 fun b9=>idxn b9 a2 fun c0=>idx class_ c0 fun c6=>chk (inR ((↑a2:Int)+1)) (some (.inl (decide (b8=c6),(a2+1))))) (chk (inR ((↑a2:Int)+1)) (some (.inl (false,(a2+1)))))) (some (.inr same5139)))
def zbo.s90 (m_:zab) (class_:List Int) (a7:List Int) (a6:Nat) (found4903:Int) (a2:Int):Option ((Int×Int)⊕Int):=cond (decide (0≤a2)) (idxn class_ a6 fun a8=>idx class_ a2 fun b2=>(iter (fun (s:Bool×Nat)=>zbo.s89 m_ class_ a6 a2 s.1 s.2) fuel (decide (a8=b2),0)).bind (fun same5119=>cond (same5119) (idx a7 a2 fun b3=>chk (inR (a2-1)) (some (.inl (b3,(a2-1))))) (chk (inR (a2-1)) (some (.inl (found4903,(a2-1))))))) (some (.inr found4903))
def zbo.k91 (a2:List Int) (a6:Nat) (count5200:Nat) (found5201:Int):Option ((List Int×Nat×Nat)⊕List Int):=chk (za7 (List.length a2+1) 8) (some (.inl ((a2++[found5201]),count5200,(a6+1))))
def zbo.s92 (m_:zab) (class_:List Int) (a6:List Int) (count3444:Nat) (a2:Nat):Option ((List Int×Nat×Nat)⊕List Int):=cond (decide ((↑a2:Int)<(↑class_.length:Int))) ((iter (fun (s:Int×Int)=>zbo.s90 m_ class_ a6 a2 s.1 s.2) fuel ((-1:Int),((↑a2:Int)-1))).bind (fun found4761=>(cond (decide (found4761<0)) (chk (inR ((↑count3444:Int)+1)) (some ((count3444+1),(↑count3444:Int)))) (some (count3444,found4761)):Option (Nat×Int)).bind (fun s=>zbo.k91 a6 a2 s.1 s.2))) (some (.inr a6))
def zbo (m_:zab) (class_:List Int):Option (List Int):=(iter (fun (s:List Int×Nat×Nat)=>zbo.s92 m_ class_ s.1 s.2.1 s.2.2) fuel ([],0,0)).bind (fun a2=>some a2)
def zc4.s2 (m_:zab) (k_:Int) (class94:List Int) (a2:Nat):Option ((List Int×Nat)⊕List Int):=(cond (decide ((↑a2:Int)<k_)) (some (decide ((↑a2:Int)<(↑m_.Next.length:Int)))) (some false)).bind (fun a6=>cond (a6) ((zbo m_ class94).bind fun a7=>chk (inR ((↑a2:Int)+1)) (some (.inl (a7,(a2+1))))) (some (.inr class94)))
def zc4 (m_:zab) (k_:Int):Option (List Int×Int):=(zbx m_).bind fun a2=>cond (decide (a2≠0)) (some ([],a2)) (chk ((0:Int)≤(↑m_.Next.length:Int)∧(↑m_.Next.length:Int)≤(↑m_.Next.length:Int)∧za7 (Int.toNat (↑m_.Next.length:Int)) 8) ((iter (fun (s:List Int×Nat)=>zc4.s2 m_ k_ s.1 s.2) fuel ((List.replicate m_.Next.length (0:Int)),0)).bind (fun class85=>some (class85,0))))
def zjt (m_:zab):Option (List Int×Int):=(zc4 m_ (↑m_.Next.length:Int)).bind fun a2=>some (a2.1,a2.2)
def zb2.s2 (a2:List Int) (a6:Nat):Option ((List Int×Nat)⊕List Int):=cond (decide ((↑a6:Int)<(↑a2.length:Int))) (idxn a2 a6 fun a7=>some (.inl ((List.set a2 a6 (-1:Int)),(a6+1)))) (some (.inr a2))
def zb2.k55 (m_:zab) (c0:List Int×Int) (b3:Nat) (a6:List Int) (a7:List Int) (a2:Nat) (b4:Int) (a8:List Int) (b2:List Int):Option ((List Int×List Int×List Int×List Int×Nat)⊕(List Int×List Int×List Int×List Int)):=idx c0.1 b4 fun b5=>idx b2 b5 fun b6=>chk (za7 (List.length a6+1) 8) (idxn a8 b3 fun b7=>idx m_.Out b7 fun b8=>idxn b8 a2 fun b9=>chk (za7 (List.length a7+1) 8) (chk (inR ((↑a2:Int)+1)) (some (.inl (a8,b2,(a6++[b6]),(a7++[b9]),(a2+1))))))
def zb2.s56 (m_:zab) (c0:List Int×Int) (b2:Nat) (a2:List Int) (a6:List Int) (b3:List Int) (b4:List Int) (a8:Nat):Option ((List Int×List Int×List Int×List Int×Nat)⊕(List Int×List Int×List Int×List Int)):=cond (decide ((↑a8:Int)<m_.Inputs)) (idxn a2 b2 fun b6=>idx m_.Next b6 fun b7=>idxn b7 a8 fun a7=>(idx c0.1 a7 fun b8=>idx a6 b8 fun b9=>cond (decide (b9<0)) (idx c0.1 a7 fun b5=>idx a6 b5 fun c6=>chk (za7 (List.length a2+1) 8) (some ((a2++[a7]),(List.set a6 b5.toNat (↑a2.length:Int))))) (some (a2,a6)):Option (List Int×List Int)).bind (fun s=>zb2.k55 m_ c0 b2 b3 b4 a8 a7 s.1 s.2)) (some (.inr (a2,a6,b3,b4)))
def zb2.k57 (a2:List (List Int)) (a6:List (List Int)) (a7:Nat) (a8:List Int) (b2:List Int) (b3:List Int) (b4:List Int):Option ((List Int×List Int×List (List Int)×List (List Int)×Nat)⊕(List (List Int)×List (List Int))):=chk (za7 (List.length a2+1) 24) (chk (za7 (List.length a6+1) 24) (some (.inl (a8,b2,(a2++[b3]),(a6++[b4]),(a7+1)))))
def zb2.s58 (m_:zab) (b3:List Int×Int) (a6:List Int) (b2:List Int) (a7:List (List Int)) (a8:List (List Int)) (a2:Nat):Option ((List Int×List Int×List (List Int)×List (List Int)×Nat)⊕(List (List Int)×List (List Int))):=cond (decide ((↑a2:Int)<(↑a6.length:Int))) ((iter (fun (s:List Int×List Int×List Int×List Int×Nat)=>zb2.s56 m_ b3 a2 s.1 s.2.1 s.2.2.1 s.2.2.2.1 s.2.2.2.2) fuel (a6,b2,[],[],0)).bind (fun s=>zb2.k57 a7 a8 a2 s.1 s.2.1 s.2.2.1 s.2.2.2)) (some (.inr (a7,a8)))
def zb2.k59 (m_:zab) (a2:List (List Int)) (a6:List (List Int)):Option (zab×Int):=some ((⟨m_.Inputs,0,a2,a6⟩:zab),0)
def zb2 (m_:zab):Option (zab×Int):=(zjt m_).bind fun a2=>cond (decide (a2.2≠0)) (some ((⟨0,0,[],[]⟩:zab),a2.2)) (chk ((0:Int)≤(↑m_.Next.length:Int)∧(↑m_.Next.length:Int)≤(↑m_.Next.length:Int)∧za7 (Int.toNat (↑m_.Next.length:Int)) 8) ((iter (fun (s:List Int×Nat)=>zb2.s2 s.1 s.2) fuel ((List.replicate m_.Next.length (0:Int)),0)).bind (fun a6=>idx a2.1 m_.Start fun a7=>idx a6 a7 fun a8=>(iter (fun (s:List Int×List Int×List (List Int)×List (List Int)×Nat)=>zb2.s58 m_ a2 s.1 s.2.1 s.2.2.1 s.2.2.2.1 s.2.2.2.2) fuel ([m_.Start],(List.set a6 a7.toNat 0),[],[],0)).bind (fun s=>zb2.k59 m_ s.1 s.2))))
def zgy.s2 (l_:List Int) (n_:Int) (a2:Nat):Option (Nat⊕(Unit⊕Int)):=cond (decide ((↑a2:Int)<(↑l_.length:Int))) (idxn l_ a2 fun a6=>cond (decide (a6=n_)) (some (.inr (.inr (↑a2:Int)))) (some (.inl (a2+1)))) (some (.inr (.inl ())))
def zgy (l_:List Int) (n_:Int):Option Int:=(iter (fun (s:Nat)=>zgy.s2 l_ n_ s) fuel 0).bind (Sum.elim (fun _=>some 0) some)
def zkn.s2 (l_:List Int) (n_:Int) (a2:Nat):Option (Nat⊕(Unit⊕Bool)):=cond (decide ((↑a2:Int)<(↑l_.length:Int))) (idxn l_ a2 fun a6=>cond (decide (a6=n_)) (some (.inr (.inr true))) (some (.inl (a2+1)))) (some (.inr (.inl ())))
def zkn (l_:List Int) (n_:Int):Option Bool:=(iter (fun (s:Nat)=>zkn.s2 l_ n_ s) fuel 0).bind (Sum.elim (fun _=>some false) some)
def zde.s13 (m_:zab) (a7:Nat) (a2:List Int) (a6:Nat):Option ((List Int×Nat)⊕List Int):=cond (decide ((↑a6:Int)<m_.Inputs)) (idxn a2 a7 fun a8=>idx m_.Next a8 fun b2=>idxn b2 a6 fun b3=>(zkn a2 b3).bind fun b4=>cond ((!b4)) (idxn a2 a7 fun b5=>idx m_.Next b5 fun b6=>idxn b6 a6 fun b7=>chk (za7 (List.length a2+1) 8) (chk (inR ((↑a6:Int)+1)) (some (.inl ((a2++[b7]),(a6+1)))))) (chk (inR ((↑a6:Int)+1)) (some (.inl (a2,(a6+1)))))) (some (.inr a2))
def zde.s14 (m_:zab) (a2:List Int) (a6:Nat):Option ((List Int×Nat)⊕List Int):=cond (decide ((↑a6:Int)<(↑a2.length:Int))) ((iter (fun (s:List Int×Nat)=>zde.s13 m_ a6 s.1 s.2) fuel (a2,0)).bind (fun a7=>some (.inl (a7,(a6+1))))) (some (.inr a2))
def zde (m_:zab):Option (List Int):=(zbx m_).bind fun a6=>cond (decide (a6≠0)) (some []) ((iter (fun (s:List Int×Nat)=>zde.s14 m_ s.1 s.2) fuel ([m_.Start],0)).bind (fun a2=>some a2))
def zb8.s18 (m_:zab) (b2:List Int) (a8:Nat) (a6:List Int) (a7:List Int) (a2:Nat):Option ((List Int×List Int×Nat)⊕(List Int×List Int)):=cond (decide ((↑a2:Int)<m_.Inputs)) (idxn b2 a8 fun b3=>idx m_.Next b3 fun b4=>idxn b4 a2 fun b5=>(zgy b2 b5).bind fun b6=>chk (za7 (List.length a6+1) 8) (idxn b2 a8 fun b7=>idx m_.Out b7 fun b8=>idxn b8 a2 fun b9=>chk (za7 (List.length a7+1) 8) (chk (inR ((↑a2:Int)+1)) (some (.inl ((a6++[b6]),(a7++[b9]),(a2+1))))))) (some (.inr (a6,a7)))
def zb8.k19 (a2:List (List Int)) (a6:List (List Int)) (a7:Nat) (a8:List Int) (b2:List Int):Option ((List (List Int)×List (List Int)×Nat)⊕(List (List Int)×List (List Int))):=chk (za7 (List.length a2+1) 24) (chk (za7 (List.length a6+1) 24) (some (.inl ((a2++[a8]),(a6++[b2]),(a7+1)))))
def zb8.s20 (m_:zab) (a8:List Int) (a6:List (List Int)) (a7:List (List Int)) (a2:Nat):Option ((List (List Int)×List (List Int)×Nat)⊕(List (List Int)×List (List Int))):=cond (decide ((↑a2:Int)<(↑a8.length:Int))) ((iter (fun (s:List Int×List Int×Nat)=>zb8.s18 m_ a8 a2 s.1 s.2.1 s.2.2) fuel ([],[],0)).bind (fun s=>zb8.k19 a6 a7 a2 s.1 s.2)) (some (.inr (a6,a7)))
def zb8.k21 (m_:zab) (a2:List (List Int)) (a6:List (List Int)):Option (zab×Int):=some ((⟨m_.Inputs,0,a2,a6⟩:zab),0)
def zb8 (m_:zab):Option (zab×Int):=(zbx m_).bind fun a2=>cond (decide (a2≠0)) (some ((⟨0,0,[],[]⟩:zab),a2)) ((zde m_).bind fun a6=>(iter (fun (s:List (List Int)×List (List Int)×Nat)=>zb8.s20 m_ a6 s.1 s.2.1 s.2.2) fuel ([],[],0)).bind (fun s=>zb8.k21 m_ s.1 s.2))
def zhb.s2 (a_:List Int) (b_:List Int) (a2:Nat):Option (Nat⊕(Unit⊕Bool)):=cond (decide ((↑a2:Int)<(↑a_.length:Int))) (idxn a_ a2 fun a6=>idxn b_ a2 fun a7=>cond (decide (a6≠a7)) (some (.inr (.inr false))) (some (.inl (a2+1)))) (some (.inr (.inl ())))
def zhb (a_:List Int) (b_:List Int):Option Bool:=cond (decide ((↑a_.length:Int)≠(↑b_.length:Int))) (some false) ((iter (fun (s:Nat)=>zhb.s2 a_ b_ s) fuel 0).bind (Sum.elim (fun _=>some true) some))
def zf7.s2 (a_:List (List Int)) (b_:List (List Int)) (a2:Nat):Option (Nat⊕(Unit⊕Bool)):=cond (decide ((↑a2:Int)<(↑a_.length:Int))) (idxn a_ a2 fun a6=>idxn b_ a2 fun a7=>(zhb a6 a7).bind fun a8=>cond ((!a8)) (some (.inr (.inr false))) (some (.inl (a2+1)))) (some (.inr (.inl ())))
def zf7 (a_:List (List Int)) (b_:List (List Int)):Option Bool:=cond (decide ((↑a_.length:Int)≠(↑b_.length:Int))) (some false) ((iter (fun (s:Nat)=>zf7.s2 a_ b_ s) fuel 0).bind (Sum.elim (fun _=>some true) some))
def zqc (a_:zab) (b_:zab):Option Bool:=(cond (decide (a_.Inputs=b_.Inputs)) (cond (decide (a_.Start=b_.Start)) ((zf7 a_.Next b_.Next).bind fun a2=>cond (a2) ((zf7 a_.Out b_.Out).bind fun a6=>some a6) (some false)) (some false)) (some false)).bind (fun a7=>some a7)
def zng (h_:zab) (m_:zab):Option Bool:=(zb2 m_).bind fun a2=>(zb8 h_).bind fun a6=>(cond (decide (a2.2=0)) (cond (decide (a6.2=0)) (cond (decide ((↑h_.Next.length:Int)=(↑a2.1.Next.length:Int))) ((zqc a6.1 a2.1).bind fun a7=>some a7) (some false)) (some false)) (some false)).bind (fun a8=>some a8)
def zc5.s2 (m_:zab) (o_:zad) (a2:Nat):Option (Nat⊕(Unit⊕Bool)):=cond (decide ((↑a2:Int)<(↑o_.Traces.length:Int))) (idxn o_.Traces a2 fun a6=>(zds m_ m_.Start a6.In).bind fun a7=>idxn o_.Traces a2 fun a8=>(zhb a7.1 a8.Out).bind fun b2=>cond ((!b2)) (some (.inr (.inr false))) (some (.inl (a2+1)))) (some (.inr (.inl ())))
def zc5 (m_:zab) (o_:zad):Option Bool:=(iter (fun (s:Nat)=>zc5.s2 m_ o_ s) fuel 0).bind (Sum.elim (fun _=>some true) some)
def zf6 (m_:zab) (prefixes_:Bool):Option Bool:=((zms m_).bind fun b4=>cond ((!b4)) (some true) ((zmg m_).bind fun b5=>cond (b5) (some true) ((zbx m_).bind fun b6=>some (decide (b6≠0))))).bind (fun b7=>cond (b7) ((zmt).bind fun b8=>some b8) ((cond (prefixes_) (some 0) (some 1):Option Nat).bind (fun mode69=>(zby m_ (↑mode69:Int)).bind fun a2=>(cond (decide (a2.2.2.2≠0)) (some true) ((zf4 a2.1).bind fun b9=>cond (decide (b9≠0)) (some true) ((zgs a2.2.1).bind fun c0=>some (decide (c0≠0))))).bind (fun c6=>cond (c6) (some false) (((zng a2.1.M m_).bind fun a6=>cond (a6) (cond (decide (a2.2.1.Inputs=m_.Inputs)) ((zc5 m_ a2.2.1).bind fun a7=>cond (a7) ((zc5 a2.1.M a2.2.1).bind fun a8=>cond (a8) (cond (decide (1≤a2.2.2.1)) (cond (decide (a2.2.2.1≤(↑a2.1.M.Next.length:Int))) ((zmt).bind fun b2=>some b2) (some false)) (some false)) (some false)) (some false)) (some false)) (some false)).bind (fun b3=>some b3))))))
section
section
variable {S R A B α β:Type}
theorem zd9 {step:S→Option (S⊕R)} (I:S→Prop) (m:S→Nat) (Q:R→Prop) (h:∀ s,I s→(∃ s',step s=some (.inl s')∧I s'∧m s'<m s)∨∃ r,step s=some (.inr r)∧Q r) :
  ∀ (n:Nat) (s:S),I s→m s<n→∃ r,iter step n s=some r∧Q r
 | 0,_,_,hm=>absurd hm (Nat.not_lt_zero _)
 | n+1,s,hi,hm=>by
  unfold iter;rcases h s hi with ⟨s',e,hi',hm'⟩ | ⟨r,e,hq⟩
  ·rw [e];exact zd9 I m Q h n s' hi' (by omega)
  ·rw [e];exact ⟨r,rfl,hq⟩
theorem zcw {step:S→Option (S⊕R)} {r:R} (I:S→Prop) (m:S→Nat) (h:∀ s,I s→(∃ s',step s=some (.inl s')∧I s'∧m s'<m s)∨step s=some (.inr r)) {n:Nat} {s:S} (hi:I s) (hm:m s<n:=by have:=zdn;(try simp only);omega):iter step n s=some r:=by
 obtain ⟨r',e,rfl⟩:=zd9 I m (fun r'=>r'=r) (fun s hs=>(h s hs).imp id fun e=>⟨r,e,rfl⟩) n s hi hm;exact e
def walk (g:A→Nat→α→Option (A⊕R)) (fin:A→Option R):A→Nat→List α→Option R
 | a,_,[]=>fin a
 | a,i,x::l=>(g a i x).bind (Sum.elim (fun a'=>walk g fin a' (i+1) l) some)
theorem zaq {l:List α} {i:Nat} {x:α} {k:α→Option β} (h:l[i]?=some x):idxn l i k=k x:=by unfold idxn;rw [h]
theorem zbd {l:List α} {n:Int} {i:Nat} {x:α} {k:α→Option β} (hn:n=(i:Int)) (h:l[i]?=some x):idx l n k=k x:=by
 subst hn;unfold idx;rw [if_pos (by omega),Int.toNat_natCast,h]
theorem zar {c:Prop} [Decidable c] {k:Option α} (h:c):chk c k=k:=by unfold chk;rw [if_pos h]
theorem zap {a:α} {f:α→Option β}:(some a).bind f=f a:=(Option.bind_some a f).trans (Eq.trans rfl rfl)
theorem zdn:100000000000000<fuel:=by unfold fuel;omega
theorem zf5 {S R:Type} {step:S→Option (S⊕R)} (I:S→Prop) (m:S→Nat) (Q:R→Prop) (h:∀ s,I s→(∃ s',step s=some (.inl s')∧I s'∧m s'<m s)∨∃ r,step s=some (.inr r)∧Q r) (s:S) (hi:I s) (hm:m s<fuel:=by have:=zdn;(try simp only);omega):∃ r,iter step fuel s=some r∧Q r:=zd9 I m Q h fuel s hi hm
theorem zcb {l:List α} {i:Nat} {x:α} (h:l[i]?=some x):decide ((↑i:Int)<(↑l.length:Int))=true:=by
 have:=(zkI.1 h).1;simpa using this
theorem zes (l:List α):decide ((↑l.length:Int)<(↑l.length:Int))=false:=by simp
def scan (g:Nat→α→Option R):Nat→List α→Option R
 | _,[]=>none
 | i,x::l=>match g i x with | some r=>some r | none=>scan g (i+1) l
theorem zcd {g:Nat→α→Option R}:∀ {l:List α} {j:Nat},scan g j l=none↔∀ i x,l[i]?=some x→g (j+i) x=none
 | [],j=>by simp [scan]
 | y::l,j=>by
  constructor
  ·intro h i x hx;unfold scan at h;cases e:g j y with
   | some r=>rw [e] at h;cases h
   | none =>
    rw [e] at h
    match i,hx with
    | 0,hx =>
     simp at hx;subst hx;exact e
    | i+1,hx =>
     have:=(zcd (g:=g) (l:=l) (j:=j+1)).1 h i x (by simpa using hx)
     rwa [show j+1+i=j+(i+1) by omega] at this
  ·intro h;unfold scan;have h0:=h 0 y rfl;rw [Nat.add_zero] at h0;rw [h0]
   exact (zcd (g:=g) (l:=l) (j:=j+1)).2 fun i x hx=>by
    have:=h (i+1) x (by simpa using hx)
    rwa [show j+(i+1)=j+1+i by omega] at this
theorem zcs {step:Nat→Option (Nat⊕(Unit⊕R))} {l:List α} (g:Nat→α→Option R) (h1:∀ i x,l[i]?=some x→step i=some (match g i x with | some r=>.inr (.inr r) | none=>.inl (i+1))) (h2:step l.length=some (.inr (.inl ()))) (hl:l.length≤100000000000000) :
  iter step fuel 0=some (match scan g 0 l with | some r=>.inr r | none=>.inl ()):=by
 have key:∀ (n i:Nat),i≤l.length→l.length-i<n→iter step n i=some (match scan g i (l.drop i) with | some r=>.inr r | none=>.inl ()):=by
  intro n
  induction n with
  | zero=>intro i _ h;omega
  | succ n ih =>
   intro i hi hn;rcases Nat.lt_or_ge i l.length with h | h
   ·rw [List.drop_eq_getElem_cons h];unfold iter scan;rw [h1 i _ (zkM h)];cases g i l[i] with
    | some r=>rfl
    | none=>exact ih (i+1) h (by omega)
   ·have e:i=l.length:=by omega
    subst e;rw [List.drop_length];unfold iter scan;rw [h2]
 exact key fuel 0 (Nat.zero_le _) (by have:=zdn;omega)
def foldi (f:A→Nat→α→A):A→Nat→List α→A
 | a,_,[]=>a
 | a,i,x::l=>foldi f (f a i x) (i+1) l
theorem iter_fold {step:A×Nat→Option ((A×Nat)⊕R)} {l:List α} (f:A→Nat→α→A) (fin:A→R) (Inv:A→Nat→Prop) (h1:∀ a i x,Inv a i→l[i]?=some x→step (a,i)=some (.inl (f a i x,i+1))∧Inv (f a i x) (i+1))
  (h2:∀ a,Inv a l.length→step (a,l.length)=some (.inr (fin a))) (hl:l.length≤100000000000000) {a0:A} (h0:Inv a0 0):iter step fuel (a0,0)=some (fin (foldi f a0 0 l))∧Inv (foldi f a0 0 l) l.length:=by
 have key:∀ (n i:Nat) (a:A),Inv a i→i≤l.length→l.length-i<n→iter step n (a,i)=some (fin (foldi f a i (l.drop i)))∧Inv (foldi f a i (l.drop i)) l.length:=by
  intro n
  induction n with
  | zero=>intro i _ _ _ h;omega
  | succ n ih =>
   intro i a hv hi hn;rcases Nat.lt_or_ge i l.length with h | h
   ·rw [List.drop_eq_getElem_cons h];unfold iter foldi;obtain ⟨e,hv'⟩:=h1 a i _ hv (zkM h);rw [e];exact ih (i+1) _ hv' h (by omega)
   ·have e:i=l.length:=by omega
    subst e;rw [List.drop_length];unfold iter foldi;rw [h2 a hv];exact ⟨rfl,hv⟩
 exact key fuel 0 a0 h0 (Nat.zero_le _) (by have:=zdn;omega)
theorem foldi_eq {f:A→α→A}:∀ (l:List α) (a:A) (i:Nat),foldi (fun a _ x=>f a x) a i l=l.foldl f a
 | [],_,_=>rfl
 | x::l,a,i=>by unfold foldi;exact foldi_eq l (f a x) (i+1)
end
end
theorem zj5 (x y:Int):cmp_Compare_int x y=some (cmpI x y):=by
 unfold cmp_Compare_int cmp_isNaN_int cmpI;by_cases h1:x<y
 ·simp [h1]
 ·by_cases h2:y<x<;>simp [h1,h2]
theorem zku (s t:List Int) (hs:s.length≤100000000000000):zbg s t=some (lexI s t):=by
 have key:=zd9 (step:=fun k=>zbg.s2 s t k) (fun k=>k≤s.length∧k≤t.length∧lexI s t=lexI (s.drop k) (t.drop k)) (fun k=>s.length-k)
  (fun r=>Sum.elim (fun (_:Unit)=>cond (decide ((↑s.length:Int)<(↑t.length:Int))) (some (-1:Int)) (some 0)) some r=some (lexI s t)) (fun k ⟨h1,h2,h3⟩=>by
   unfold zbg.s2
   rcases Nat.lt_or_ge k s.length with h | h
   ·have hx:=zkM h
    rw [zcb hx,zkD,zaq hx]
    by_cases h4:t.length≤k
    ·right
     refine ⟨.inr 1,by simp [h4],?_⟩
     rw [h3,lexI_long h h4]
     rfl
    ·have hy:=zkM (show k<t.length by omega)
     have hst:=lexI_step hx hy
     have d4:decide ((↑t.length:Int)≤(↑k:Int))=false:=by simp;omega
     rw [d4,zkC,zaq hy,zj5]
     by_cases h5:cmpI s[k] t[k]=0
     ·left
      rw [if_pos h5] at hst
      exact ⟨k+1,by simp [h5],⟨by omega,by omega,by rw [h3,hst]⟩,by omega⟩
     ·right
      rw [if_neg h5] at hst
      exact ⟨.inr (cmpI s[k] t[k]),by simp [h5],by rw [h3,hst];rfl⟩
   ·right
    have e:k=s.length:=by omega
    subst e
    rw [zes,zkC]
    refine ⟨.inl (),rfl,?_⟩
    rw [h3,lexI_end (Nat.le_refl _)]
    by_cases h4:s.length<t.length<;>simp [h4]) fuel 0 ⟨Nat.zero_le _,Nat.zero_le _,rfl⟩ (by have:=zdn;simp only [Nat.sub_zero];omega)
 obtain ⟨r,e,hq⟩:=key;unfold zbg;rw [e];exact hq
theorem cmp_Or_two (x y:Int):zeh [x,y]=some (if x≠0 then x else y):=by
 unfold zeh;have e:fuel=(fuel-3)+1+1+1:=by unfold fuel;omega
 rw [e];by_cases h1:x=0
 ·by_cases h2:y=0
  ·simp [iter,zeh.s2,idxn,h1,h2]
  ·simp [iter,zeh.s2,idxn,h1,h2]
 ·simp [iter,zeh.s2,idxn,h1]
theorem zjm (s t:List Int) (hs:s.length≤100000000000000):zh9 s t=some (lexI s t):=by
 unfold zh9;rw [zku s t hs];rfl
theorem zhl (s t:List Int) (hs:s.length≤100000000000000):zd3 s t=some (cmpW s t):=by
 unfold zd3;rw [zku s t hs,zj5];show (zeh [cmpI s.length t.length,lexI s t]).bind some=_;rw [cmp_Or_two];show some _=some _;congr 1;unfold cmpI cmpW;by_cases h1:s.length<t.length
 ·simp [h1]
 ·by_cases h2:t.length<s.length
  ·simp [h1,h2]
  ·simp [h1,h2]
theorem cmpE_word_Lex:CmpE Tryz.prog 93 (fun x=>nL cI x) (fun x y=>zh9 x y) :=
 ⟨fun args w=>ze2 rfl rfl rfl args w,cmpG_lex fun x y r hx h=>by rw [zjm x y (by omega)] at h;injection h with h;exact h.symm⟩
theorem zq3:CmpE Tryz.prog 78 (fun x=>nL cI x) (fun x y=>zd3 x y) :=
 ⟨fun args w=>ze2 rfl rfl rfl args w,cmpG_compare fun x y r hx h=>by rw [zhl x y (by omega)] at h;injection h with h;exact h.symm⟩
theorem zrg:CmpE Tryz.prog 92 (fun x=>.agg (zae x)) (fun x y=>zbs x y) :=
 ⟨fun args w=>ze2 rfl rfl rfl args w,cmpG_find1 (T:=zaa) (i:=fun x=>x.In) (o:=fun x=>x.Out) (f:=fun x y=>zbs x y) (fun _=>rfl) fun x y r hx h=>by
  simp only [zbs] at h
  rw [zjm _ _ (by omega)] at h
  injection h with h
  exact h.symm⟩
section
section
variable {α β R:Type}
theorem get_at {l:List α} {i:Nat} (h:i<l.length):l[i]?=some l[i]:=zkM h
theorem ztd [DecidableEq α] {a b:List α} {step:Nat→Option (Nat⊕(Unit⊕Bool))} (hlen:a.length=b.length) (h1:∀ i x y,a[i]?=some x→b[i]?=some y→step i=some (if x=y then .inl (i+1) else .inr (.inr false)))
  (h2:step a.length=some (.inr (.inl ()))) (hl:a.length≤100000000000000):(iter step fuel 0).bind (Sum.elim (fun _=>some true) some)=some (decide (a=b)):=by
 rw [zcs (l:=a) (fun i x=>if b[i]?=some x then none else some false) (fun i x hx=>?_) h2 hl]
 ·cases e:scan (fun i x=>if b[i]?=some x then none else some false) 0 a with
  | none =>
   have:=zcd.1 e
   have hab:a=b:=by
    apply List.ext_getElem?;intro i;rcases Nat.lt_or_ge i a.length with h | h
    ·have h3:=this i _ (get_at h);rw [Nat.zero_add] at h3;split at h3
     ·rename_i h4;rw [get_at h,h4]
     ·cases h3
    ·rw [List.getElem?_eq_none h,List.getElem?_eq_none (by omega)]
   simp [hab]
  | some r =>
   have hne:a≠b:=fun hab=>by
    subst hab;have:scan (fun i x=>if a[i]?=some x then none else some false) 0 a=none:=zcd.2 fun i x hx=>by rw [Nat.zero_add,if_pos hx]
    rw [this] at e;cases e
   have hr:r=false:=by
    have key:∀ (l:List α) (j:Nat),scan (fun i x=>if b[i]?=some x then none else some false) j l=some r→r=false:=by
     intro l
     induction l with
     | nil=>intro j h;cases h
     | cons x l ih =>
      intro j h;unfold scan at h;split at h
      ·rename_i r' h3;injection h with h
       subst h;split at h3
       ·cases h3
       ·injection h3 with h3
        exact h3.symm
      ·exact ih _ h
    exact key a 0 e
   subst hr;simp [hne]
 ·have hi:=(zkI.1 hx).1;have hy:=get_at (l:=b) (i:=i) (by omega);rw [h1 i x _ hx hy];by_cases h:x=b[i]'(by omega)
  ·rw [if_pos h,hy,if_pos (by rw [h])]
  ·rw [if_neg h,hy,if_neg (fun h3=>h (by injection h3 with h3;exact h3.symm))]
end
theorem zu4 (a b:List Int) (hl:a.length≤100000000000000):zhb a b=some (decide (a=b)):=by
 unfold zhb;by_cases hlen:a.length=b.length
 ·rw [show decide ((↑a.length:Int)≠(↑b.length:Int))=false by simp [hlen],zkC];refine ztd hlen (fun i x y hx hy=>?_) ?_ hl
  ·simp only [zhb.s2];rw [zcb hx,zkD,zaq hx,zaq hy];by_cases h:x=y<;>simp [h]
  ·simp only [zhb.s2];rw [zes];rfl
 ·rw [show decide ((↑a.length:Int)≠(↑b.length:Int))=true by simp;omega,zkD];have:a≠b:=fun h=>hlen (by rw [h]);simp [this]
theorem zr4 (a b:List (List Int)) (hl:a.length≤100000000000000) (hw:∀ x∈a,x.length≤100000000000000):zf7 a b=some (decide (a=b)):=by
 unfold zf7;by_cases hlen:a.length=b.length
 ·rw [show decide ((↑a.length:Int)≠(↑b.length:Int))=false by simp [hlen],zkC];refine ztd hlen (fun i x y hx hy=>?_) ?_ hl
  ·simp only [zf7.s2];rw [zcb hx,zkD,zaq hx,zaq hy,zu4 x y (hw x (zkH hx))];by_cases h:x=y<;>simp [h]
  ·simp only [zf7.s2];rw [zes];rfl
 ·rw [show decide ((↑a.length:Int)≠(↑b.length:Int))=true by simp;omega,zkD];have:a≠b:=fun h=>hlen (by rw [h]);simp [this]
def SmW (x:List Int):Prop:=x.length≤2000000
def SmL (l:List (List Int)):Prop:=l.length≤2000000∧∀ x∈l,SmW x
theorem R01_Size_eq (n:Int):zpz n=some (decide (1≤n∧n≤1024)):=by
 unfold zpz;by_cases h1:1≤n<;>by_cases h2:n≤1024<;>simp [h1,h2]
theorem zqq (n:Int):zgp n=some (decide (1≤n∧n≤1024)):=by
 unfold zgp;by_cases h1:1≤n<;>by_cases h2:n≤1024<;>simp [h1,h2]
theorem scan_all {α R:Type} {p:α→Bool} {r:R}:∀ (l:List α) (j:Nat),scan (fun _ x=>if p x=true then none else some r) j l=if l.all p=true then none else some r
 | [],_=>rfl
 | x::l,j=>by
  unfold scan;by_cases h:p x=true
  ·simp only [h,if_true,List.all_cons,Bool.true_and];exact scan_all l (j+1)
  ·simp [h]
theorem zm0 (w:List Int) (n:Int) (hl:SmW w):ze3 w n=some (zbl w n):=by
 unfold ze3 zbl;rw [R01_Size_eq];by_cases h1:1≤n∧n≤1024
 ·rw [if_pos h1];simp only [Option.bind_some,h1,and_self,decide_true,Bool.not_true,zkC];by_cases h2:1024<w.length
  ·rw [if_pos h2,show decide ((1024:Int)<(↑w.length:Int))=true from zkB (by omega),zkD]
  ·rw [if_neg h2,show decide ((1024:Int)<(↑w.length:Int))=false from zkA (by omega),zkC]
   have key:=zcs (step:=fun s=>ze3.s2 w n s) (l:=w) (fun _ x=>if decide (0≤x∧x<n)=true then none else some (1:Int)) (fun i x hx=>by
    simp only [ze3.s2]
    rw [zcb hx,zkD,zaq hx,zaq hx]
    by_cases a1:x<0
    ·simp [a1,show ¬ (0≤x) by omega]
    ·by_cases a2:n≤x
     ·simp [a1,a2,show ¬ (x<n) by omega]
     ·simp [a1,a2,show 0≤x by omega,show x<n by omega]) (by
    simp only [ze3.s2]
    rw [zes]
    rfl) (by unfold SmW at hl;omega)
   rw [key,scan_all (p:=fun x=>decide (0≤x∧x<n))];by_cases h:(w.all fun x=>decide (0≤x∧x<n))=true
   ·rw [if_pos h,if_pos h];rfl
   ·rw [if_neg h,if_neg h];rfl
 ·rw [if_neg h1];simp [h1]
theorem zfe (w:List Int) (n:Int) (hl:SmW w):ze6 w n=some (zbl w n):=by
 unfold ze6 zbl zcl za5;rw [zqq];by_cases h1:1≤n∧n≤1024
 ·rw [if_pos h1];simp only [Option.bind_some,h1,and_self,decide_true,Bool.not_true,zkC];by_cases h2:1024<w.length
  ·rw [if_pos h2,show decide ((1024:Int)<(↑w.length:Int))=true from zkB (by omega),zkD]
  ·rw [if_neg h2,show decide ((1024:Int)<(↑w.length:Int))=false from zkA (by omega),zkC]
   have key:=zcs (step:=fun s=>za5.s2 w (fun u0=>zg7 u0 n) s) (l:=w) (fun i x=>if decide (0≤x∧x<n)=true then none else some (i:Int)) (fun i x hx=>by
    simp only [za5.s2,zg7]
    rw [zcb hx,zkD,zaq hx]
    by_cases a1:x<0
    ·simp [a1,show ¬ (0≤x) by omega]
    ·by_cases a2:n≤x
     ·simp [a1,a2,show ¬ (x<n) by omega]
     ·simp [a1,a2,show 0≤x by omega,show x<n by omega]) (by
    simp only [za5.s2]
    rw [zes]
    rfl) (by unfold SmW at hl;omega)
   rw [key];cases e:scan (fun i x=>if decide (0≤x∧x<n)=true then none else some (i:Int)) 0 w with
   | none =>
    have h3:=zcd.1 e
    have h:(w.all fun x=>decide (0≤x∧x<n))=true:=List.all_eq_true.2 fun x hx=>by
     obtain ⟨i,hi,rfl⟩:=List.mem_iff_getElem.1 hx;have:=h3 i _ (get_at hi);split at this
     ·assumption
     ·cases this
    rw [if_pos h];simp
   | some r =>
    have h:¬ (w.all fun x=>decide (0≤x∧x<n))=true:=fun h=>by
     have:scan (fun i x=>if decide (0≤x∧x<n)=true then none else some (i:Int)) 0 w=none:=zcd.2 fun i x hx=>if_pos (List.all_eq_true.1 h x (zkH hx));rw [this] at e;cases e
    have hr:0≤r:=by
     have key:∀ (l:List Int) (j:Nat),scan (fun i x=>if decide (0≤x∧x<n)=true then none else some (i:Int)) j l=some r→0≤r:=by
      intro l
      induction l with
      | nil=>intro j h;cases h
      | cons x l ih =>
       intro j h;unfold scan at h;split at h
       ·rename_i r' h3;injection h with h
        subst h;split at h3
        ·cases h3
        ·injection h3 with h3
         omega
       ·exact ih _ h
     exact key w 0 e
    rw [if_neg h];simp [hr]
 ·rw [if_neg h1];simp [h1]
theorem zlj (a b:List Int) (ha:SmW a):zei a b=some (za3 a b:Int):=by
 unfold zei;rw [zcw (r:=za3 a b) (fun k=>k≤a.length∧za3 a b=za3 (a.drop k) (b.drop k)+k) (fun k=>a.length-k) (fun k ⟨h1,h2⟩=>?_) ⟨Nat.zero_le _,by simp⟩ (by have:=zdn;unfold SmW at ha;omega)]
 ·rfl
 ·simp only [zei.s2];rcases Nat.lt_or_ge k a.length with h | h
  ·have hx:=get_at h;rcases Nat.lt_or_ge k b.length with h' | h'
   ·have hy:=get_at h';rw [zcb hx,zcb hy,zkD,zkD,zaq hx,zaq hy];rw [List.drop_eq_getElem_cons h,List.drop_eq_getElem_cons h'] at h2;by_cases e:a[k]=b[k]
    ·left;unfold SmW at ha;refine ⟨k+1,?_,⟨h,?_⟩,by omega⟩
     ·rw [zar (by unfold inR;omega)];simp [e]
     ·rw [h2,e];simp [za3];omega
    ·right;simp only [za3,e,if_false,Nat.zero_add] at h2;simp [e,h2]
   ·right;rw [zcb hx,zkD,show decide ((↑k:Int)<(↑b.length:Int))=false by simp;omega];rw [zqo (Or.inr h'),Nat.zero_add] at h2;simp [h2]
  ·right;rw [show decide ((↑k:Int)<(↑a.length:Int))=false by simp;omega];rw [zqo (Or.inl h),Nat.zero_add] at h2;simp [h2]
theorem R01_Lex_eq (a b:List Int) (ha:SmW a):zuf a b=some (lexI a b):=by
 unfold zuf;rw [zlj a b ha];have hle:=zlf a b;have hlc:=zu8 a b;rw [hlc];simp only [Option.bind_some];by_cases h1:za3 a b=a.length
 ·rw [show decide ((↑(za3 a b):Int)=↑a.length)=true from zkB (by omega),zkD,zkD];by_cases h2:za3 a b=b.length
  ·rw [show decide ((↑(za3 a b):Int)=↑b.length)=true from zkB (by omega),if_pos ⟨h1,h2⟩];rfl
  ·rw [show decide ((↑(za3 a b):Int)=↑b.length)=false from zkA (by omega),if_neg (fun h=>h2 h.2),if_pos (Or.inl h1)];rfl
 ·rw [show decide ((↑(za3 a b):Int)=↑a.length)=false from zkA (by omega),zkC,zkC,if_neg (fun h=>h1 h.1)];by_cases h2:za3 a b=b.length
  ·rw [show decide ((↑(za3 a b):Int)<(↑b.length:Int))=false from zkA (by omega),if_neg (fun h=>by omega)];rfl
  ·have hx:=get_at (l:=a) (i:=za3 a b) (by omega);have hy:=get_at (l:=b) (i:=za3 a b) (by omega);rw [show decide ((↑(za3 a b):Int)<(↑b.length:Int))=true from zkB (by omega),zkD,zbd rfl hx,zbd rfl hy];rw [List.getD_eq_getElem?_getD,List.getD_eq_getElem?_getD,hx,hy];by_cases h3:a[za3 a b]'(by omega)<b[za3 a b]'(by omega)
   ·rw [if_pos (Or.inr ⟨by omega,h3⟩)];simp [h3]
   ·rw [if_neg (fun h=>by
     rcases h with h | ⟨_,h⟩
     ·omega
     ·exact h3 h)]
    simp [h3]
theorem zvo (a b:List Int) (ha:SmW a):zjp a b=some (cmpW a b):=by
 unfold zjp cmpW;rw [R01_Lex_eq a b ha];by_cases h1:a.length<b.length
 ·rw [show decide ((↑a.length:Int)<(↑b.length:Int))=true from zkB (by omega),if_pos h1];rfl
 ·rw [show decide ((↑a.length:Int)<(↑b.length:Int))=false from zkA (by omega),if_neg h1,zkC];by_cases h2:b.length<a.length
  ·rw [show decide ((↑b.length:Int)<(↑a.length:Int))=true from zkB (by omega),if_pos h2];rfl
  ·rw [show decide ((↑b.length:Int)<(↑a.length:Int))=false from zkA (by omega),if_neg h2];rfl
end
end Go.Proofs.YtbcommjbpmhdbaaGreatDoor.Sym
namespace Go.Proofs.YtbcommjbpmhdbaaGreatDoor
def M64:Nat:=18446744073709551616
def gold:Nat:=11400714819323198485
def mulA:Nat:=13787848793156543929
def mulB:Nat:=10723151780598845931
def mix (y:Nat):Nat :=
 let z:=(y ^^^ (y >>> 30))*mulA%M64
 let u:=(z ^^^ (z >>> 27))*mulB%M64
 u ^^^ (u >>> 31)
theorem few:∀ (k a:Nat) (l:List Nat),l.Nodup→(∀ x∈l,a≤x∧x<a+k)→l.length≤k
 | 0,a,l,_,h=>by
  cases l with
  | nil=>simp
  | cons x l=>have:=h x (by simp);omega
 | k+1,a,l,hn,h=>by
  have h1:=few k a (l.erase (a+k)) (hn.erase _) fun x hx=>by
   have h2:=(hn.mem_erase_iff).1 hx;have h3:=h x h2.2;have h4:=h2.1;omega
  by_cases hm:a+k∈l
  ·have:=List.length_erase_of_mem hm;omega
  ·rw [List.erase_of_not_mem hm] at h1;omega
def drawF:Nat→Nat→Nat×Nat
 | 0,s=>(0,s)
 | f+1,s=>if mix ((s+gold)%M64)<M64-1616 then (mix ((s+gold)%M64)%10000,(s+gold)%M64) else drawF f ((s+gold)%M64)
def draw (s:Nat):Nat×Nat:=drawF 1617 s
end Go.Proofs.YtbcommjbpmhdbaaGreatDoor
namespace Go.Proofs.YtbcommjbpmhdbaaGreatDoor.Sym
def steps (nx:Nat→Nat):Nat→Nat→Nat
 | 0,s=>s
 | j+1,s=>steps nx j (nx s)
def nxt (s:Nat):Nat:=(s+gold)%M64
section
section
variable {κ ν:Type} [BEq κ]
theorem zkh {k:κ} {v:ν} (hb:∀ a b:κ,(a==b)=true↔a=b):∀ m:List (κ×ν),mget k (mset k v m)=some v
 | []=>by
  unfold mset mget;rw [(hb k k).2 rfl]
 | p::m=>by
  unfold mset;cases h:k==p.1 with
  | true =>
   show mget k ((k,v)::m)=_;unfold mget;rw [(hb k k).2 rfl]
  | false =>
   show mget k (p::mset k v m)=_;unfold mget;rw [h];exact zkh hb m
theorem zm9 {k k':κ} {v:ν} (hb:∀ a b:κ,(a==b)=true↔a=b) (hne:¬ k'=k):∀ m:List (κ×ν),mget k' (mset k v m)=mget k' m
 | []=>by
  have e:(k'==k)=false:=by
   cases e:k'==k with
   | true=>exact absurd ((hb _ _).1 e) hne
   | false=>rfl
  unfold mset mget;simp only [e];rfl
 | p::m=>by
  unfold mset;cases h:k==p.1 with
  | true =>
   have e1:k=p.1:=(hb _ _).1 h;show mget k' ((k,v)::m)=mget k' (p::m)
   have e:(k'==k)=false:=by
    cases e:k'==k with
    | true=>exact absurd ((hb _ _).1 e) hne
    | false=>rfl
   unfold mget;rw [← e1];simp only [e]
  | false =>
   show mget k' (p::mset k v m)=mget k' (p::m);unfold mget;rw [zm9 hb hne m]
end
theorem ba_beq (a b:ByteArray):(a==b)=true↔a=b:=by
 cases a;cases b;show ByteArray.beq _ _=true↔_;unfold ByteArray.beq;simp
def zhg (l:List (List Int)) (i:Nat) (w:List Int):Bool:=match i with
 | 0=>true
 | i+1=>match l[i]? with | some p=>decide (cmpW p w<0) | none=>true
theorem ztt {l:List (List Int)} (h:∀ i w,l[i]?=some w→zhg l i w=true):Asc l:=by
 have one:∀ i p w,l[i]?=some p→l[i+1]?=some w→cmpW p w=-1:=fun i p w hp hw=>by
  have h1:=h (i+1) w hw;unfold zhg at h1;simp only [hp] at h1;have h1:=of_decide_eq_true h1;have:=zjd p w;omega
 have key:∀ (d i:Nat) p w,l[i]?=some p→l[i+d+1]?=some w→cmpW p w=-1:=by
  intro d
  induction d with
  | zero=>exact one
  | succ d ih =>
   intro i p w hp hw;have hj:=(zkI.1 hw).1;have hm:=get_at (l:=l) (i:=i+d+1) (by omega);exact zhy _ _ _ (ih i p _ hp hm) (one _ _ _ hm (by rw [show i+d+1+1=i+(d+1)+1 by omega];exact hw))
 rw [Asc,List.pairwise_iff_getElem];intro i j hi hj hij;exact key (j-i-1) i _ _ (get_at hi) (by rw [show i+(j-i-1)+1=j by omega];exact get_at hj)
theorem zly (l:List (List Int)) (hl:SmL l) {i:Nat} {w:List Int} (h:l[i]?=some w):zfc l (↑i:Int)=some (zhg l i w):=by
 have hi:=(zkI.1 h).1;have hl1:l.length≤2000000:=hl.1;unfold zfc zhg;cases i with
 | zero=>rfl
 | succ i =>
  have hp:=get_at (show i<l.length by omega)
  rw [show decide ((↑(i+1):Int)=0)=false from zkA (by omega),zkC,zar (by unfold inR;omega),zbd (i:=i) (by omega) hp,zbd rfl h,
   zhl _ _ (by have:SmW (l[i]'(by omega)):=hl.2 _ (zkH hp);unfold SmW at this;omega)]
  simp only [hp];rfl
def preG (t:zac) (known:List Int→Bool) (i:Nat) (w:List Int):Option Int :=
 if zbl w t.Inputs≠0 then some (zbl w t.Inputs) else if (i=0∧0<w.length)∨zhg t.Prefixes i w=false then some 10 else if 0<w.length∧known (w.take (w.length-1))=false then some 1 else none
def sufG (t:zac) (i:Nat) (w:List Int):Option Int :=
 if zbl w t.Inputs≠0 then some (zbl w t.Inputs) else if w.length=0 then some 19 else if zhg t.Suffixes i w=false then some 10 else none
def zdf (t:zac):Int :=
 if t.Inputs<1∨64<t.Inputs then 2 else if t.Prefixes.length=0 then 19 else if 10000<t.Prefixes.length∨10000<t.Suffixes.length∨160000<(↑t.Prefixes.length:Int)*(t.Inputs+1)*↑t.Suffixes.length then 11 else
 match scan (preG t fun w=>decide (w∈t.Prefixes)) 0 t.Prefixes with
 | some e=>e
 | none=>match scan (sufG t) 0 t.Suffixes with
  | some e=>e
  | none=>if ∀ a∈List.range t.Inputs.toNat,[(↑a:Int)]∈t.Suffixes then (if 1023<zie t.Prefixes+zie t.Suffixes then 3 else 0) else 1
theorem keys_mget (l:List (List Int)) (w:List Int):∀ (m:List (ByteArray×Bool)),((mget (⟨(keyL w).toArray⟩:ByteArray) (l.foldl (fun m x=>mset ⟨(keyL x).toArray⟩ true m) m)).getD false)=(decide (w∈l)||(mget (⟨(keyL w).toArray⟩:ByteArray) m).getD false):=by
 induction l with
 | nil=>intro m;simp
 | cons x l ih =>
  intro m;rw [List.foldl_cons,ih];by_cases h:w=x
  ·subst h;rw [zkh ba_beq];simp
  ·have:¬ ((⟨(keyL w).toArray⟩:ByteArray)=⟨(keyL x).toArray⟩):=fun e=>h (keyL_inj (by
    injection e with e
    injection e))
   rw [zm9 ba_beq this];simp [h]
theorem longest_fold (l:List (List Int)):∀ n:Nat,l.foldl (fun (n:Int) w=>max n (↑w.length:Int)) (↑n:Int)=↑(l.foldl (fun n w=>max n w.length) n):=by
 induction l with
 | nil=>intro n;rfl
 | cons x l ih =>
  intro n;rw [List.foldl_cons,List.foldl_cons,show max (↑n:Int) (↑x.length:Int)=((max n x.length:Nat):Int) by omega,ih]
theorem zl2 (l:List (List Int)) (hl:SmL l):zcn l=some (↑(zie l):Int):=by
 unfold zcn
 have h:=iter_fold (step:=fun (s:Int×Nat)=>zcn.s2 l s.1 s.2) (l:=l) (fun a _ x=>max a (↑x.length:Int)) (fun a=>a) (fun _ _=>True) (fun a i x _ hx=>by
  refine ⟨?_,trivial⟩
  simp only [zcn.s2]
  rw [zcb hx,zkD,zaq hx]) (fun a _=>by
  simp only [zcn.s2]
  rw [zes]
  rfl) (by have:=hl.1;omega) (a0:=0) trivial
 rw [h.1,foldi_eq];have:=longest_fold l 0;simp only [Int.natCast_zero] at this;show some _=some _;rw [this];rfl
theorem zuy {l:List (List Int)} (hl:SmL l):zie l≤2000000:=(zow l _).2 fun x hx=>hl.2 x hx
def SmT (t:zac):Prop:=inR t.Inputs∧SmL t.Prefixes∧SmL t.Suffixes∧∀ x∈t.Prefixes,∀ a∈x,inR a
theorem zna {w:List Int} (h:SmW w) (h2:∀ a∈w,inR a):zk2 w=some ⟨(keyL w).toArray⟩:=by
 unfold zk2;rw [zar h2,zar (show w.length≤2000000 from h)]
theorem prod_fit {p s:Nat} {n:Int} (hp:¬ 10000<p) (hs:¬ 10000<s) (hn1:¬ n<1) (hn2:¬ 64<n):inR (n+1)∧inR ((↑p:Int)*(n+1))∧inR ((↑p:Int)*(n+1)*↑s):=by
 have h1:0≤(↑p:Int)*(n+1):=Int.mul_nonneg (by omega) (by omega);have h2:(↑p:Int)*(n+1)≤10000*65:=Int.mul_le_mul (by omega) (by omega) (by omega) (by omega);have h3:0≤(↑p:Int)*(n+1)*↑s:=Int.mul_nonneg h1 (by omega);have h4:(↑p:Int)*(n+1)*↑s≤10000*65*10000:=Int.mul_le_mul h2 (by omega) (by omega) (by omega);unfold inR;omega
end

theorem znx {x y:Int}:cmpW [x] [y]=-1↔x<y:=by
 simp only [cmpW,lexI,zkL,List.length_nil];by_cases h:x<y
 ·simp [h]
 ·by_cases h2:y<x<;>simp [h,h2]
theorem zt1 {x y:List Int} (h:cmpW x y=-1):x.length≤y.length:=by
 unfold cmpW at h;split at h
 ·omega
 ·split at h
  ·cases h
  ·omega
theorem zdv {w:List Int} {n:Int} (h:zbl w n=0):∀ a∈w,0≤a∧a<n:=by
 unfold zbl at h;split at h
 ·split at h
  ·cases h
  ·split at h
   ·rename_i h3;intro a ha;exact of_decide_eq_true (List.all_eq_true.1 h3 a ha)
   ·cases h
 ·cases h
theorem one_of {w:List Int} (h0:w.length≠0) (h1:w.length≤1):∃ a,w=[a]:=by
 match w,h0,h1 with
 | [a],_,_=>exact ⟨a,rfl⟩
theorem singles_iff {l:List (List Int)} {n:Int} (hA:Asc l) (hc:∀ w∈l,zbl w n=0∧w.length≠0) (hn:1≤n):(∀ a∈List.range n.toNat,[(↑a:Int)]∈l)↔∃ w,l[n.toNat-1]?=some w∧w.length≤1:=by
 constructor
 ·intro h
  have key:∀ a,a<n.toNat→l[a]?=some [(↑a:Int)]:=by
   intro a
   induction a using Nat.strongRecOn with
   | _ a ih =>
    intro ha;obtain ⟨j,hj,e⟩:=List.mem_iff_getElem.1 (h a (List.mem_range.2 ha));have ej:l[j]?=some [(↑a:Int)]:=by rw [get_at hj,e]
    rcases Nat.lt_trichotomy j a with hlt | heq | hgt
    ·have:=ih j hlt (by omega);rw [ej] at this;injection this with this
     injection this with this
     omega
    ·rw [← heq,ej];rw [heq]
    ·have hx:=get_at (l:=l) (i:=a) (by omega);have hcmp:=hA.get hgt hx ej;have hxm:=zkH hx;obtain ⟨b,hb⟩:=one_of (hc _ hxm).2 (zt1 hcmp);rw [hb] at hcmp hx;have hlt:=znx.1 hcmp;have hr:=zdv (hc _ hxm).1 b (by rw [hb];simp);have hbb:=ih b.toNat (by omega) (by omega);rw [show ((b.toNat:Nat):Int)=b by omega] at hbb;have:=hA.get (show b.toNat<a by omega) hbb hx;rw [zeu] at this;cases this
  exact ⟨_,key (n.toNat-1) (by omega),by simp⟩
 ·rintro ⟨w,hw,hw1⟩
  have one:∀ i,i<n.toNat→∃ b:Int,l[i]?=some [b]∧0≤b∧b<n:=fun i hi=>by
   have hlen:=(zkI.1 hw).1;have hx:=get_at (l:=l) (i:=i) (by omega)
   have hl1:(l[i]'(by omega)).length≤1:=by
    rcases Nat.lt_or_ge i (n.toNat-1) with h | h
    ·have:=zt1 (hA.get h hx hw);omega
    ·have e:i=n.toNat-1:=by omega
     subst e;rw [hx] at hw;injection hw with hw
     rw [hw];exact hw1
   have hxm:=zkH hx;obtain ⟨b,hb⟩:=one_of (hc _ hxm).2 hl1;rw [hb] at hx;exact ⟨b,hx,zdv (hc _ hxm).1 b (by rw [hb];simp)⟩
  have lo:∀ i (b:Int),i<n.toNat→l[i]?=some [b]→(↑i:Int)≤b:=by
   intro i
   induction i with
   | zero =>
    intro b hi hb;obtain ⟨b',e,h1,_⟩:=one 0 hi;rw [hb] at e;injection e with e
    injection e with e
    omega
   | succ i ih =>
    intro b hi hb;obtain ⟨b',e,h1,_⟩:=one i (by omega);have:=ih b' (by omega) e;have:=znx.1 (hA.get (Nat.lt_succ_self i) e hb);omega
  have hi':∀ d i (b:Int),i+d+1=n.toNat→l[i]?=some [b]→b+↑d<n:=by
   intro d
   induction d with
   | zero =>
    intro i b hi hb;obtain ⟨b',e,_,h2⟩:=one i (by omega);rw [hb] at e;injection e with e
    injection e with e
    omega
   | succ d ih =>
    intro i b hi hb;obtain ⟨b',e,_,_⟩:=one (i+1) (by omega);have:=ih (i+1) b' (by omega) e;have:=znx.1 (hA.get (Nat.lt_succ_self i) hb e);omega
  intro a ha;have ha:=List.mem_range.1 ha;obtain ⟨b,e,_,_⟩:=one a ha;have h1:=lo a b ha e;have h2:=hi' (n.toNat-1-a) a b (by omega) e;have:b=(↑a:Int):=by omega
  subst this;exact zkH e
theorem ztu {t:zac} (h:scan (sufG t) 0 t.Suffixes=none):Asc t.Suffixes∧∀ w∈t.Suffixes,zbl w t.Inputs=0∧w.length≠0:=by
 have h0:=zcd.1 h
 have key:∀ i w,t.Suffixes[i]?=some w→zbl w t.Inputs=0∧w.length≠0∧zhg t.Suffixes i w=true:=fun i w hw=>by
  have:=h0 i w hw;rw [Nat.zero_add] at this;unfold sufG at this;split at this
  ·cases this
  ·rename_i h1;split at this
   ·cases this
   ·rename_i h2;split at this
    ·cases this
    ·rename_i h3;refine ⟨by simpa using h1,h2,?_⟩;cases hp:zhg t.Suffixes i w with
     | true=>rfl
     | false=>exact absurd hp h3
 refine ⟨ztt fun i w hw=>(key i w hw).2.2,fun w hw=>?_⟩;obtain ⟨i,hi,rfl⟩:=List.mem_iff_getElem.1 hw;exact ⟨(key i _ (get_at hi)).1,(key i _ (get_at hi)).2.1⟩
theorem zfq (t:zac) (ht:SmT t):zbc t=some (zdf t):=by
 unfold zbc zdf;by_cases h1:t.Inputs<1
 ·simp [h1]
 by_cases h2:64<t.Inputs
 ·simp [h1,h2]
 rw [if_neg (by omega),zkA h1,zkC,zkA h2];simp only [Option.bind_some,zkC];by_cases h3:t.Prefixes.length=0
 ·rw [show decide ((↑t.Prefixes.length:Int)=0)=true from zkB (by omega),zkD,if_pos h3]
 rw [show decide ((↑t.Prefixes.length:Int)=0)=false from zkA (by omega),zkC,if_neg h3];by_cases h4:10000<t.Prefixes.length
 ·rw [show decide (10000<(↑t.Prefixes.length:Int))=true from zkB (by omega),if_pos (Or.inl h4)];rfl
 rw [show decide (10000<(↑t.Prefixes.length:Int))=false from zkA (by omega),zkC];by_cases h5:10000<t.Suffixes.length
 ·rw [show decide (10000<(↑t.Suffixes.length:Int))=true from zkB (by omega),if_pos (Or.inr (Or.inl h5))];rfl
 rw [show decide (10000<(↑t.Suffixes.length:Int))=false from zkA (by omega),zkC];obtain ⟨f1,f2,f3⟩:=prod_fit h4 h5 h1 h2;rw [zar f1,zar f2,zar f3];simp only [Option.bind_some];by_cases h6:160000<(↑t.Prefixes.length:Int)*(t.Inputs+1)*↑t.Suffixes.length
 ·rw [zkB h6,zkD,if_pos (Or.inr (Or.inr h6))]
 rw [zkA h6,zkC,if_neg (fun h=>by rcases h with h | h | h<;>contradiction)]
 obtain ⟨_,hp,hs,hr⟩:=ht
 have hk:=iter_fold (step:=fun (s:(List (ByteArray×Bool))×Nat)=>zbc.s2 t s.1 s.2) (l:=t.Prefixes) (fun m _ x=>mset ⟨(keyL x).toArray⟩ true m) (fun m=>m) (fun _ _=>True) (fun m i x _ hx=>by
  have hxm:=zkH hx
  refine ⟨?_,trivial⟩
  simp only [zbc.s2]
  rw [zcb hx,zkD,zaq hx,zna (hp.2 x hxm) (hr x hxm)]
  rfl) (fun m _=>by
  simp only [zbc.s2]
  rw [zes]
  rfl) (by omega) (a0:=[]) trivial
 rw [hk.1,foldi_eq];simp only [Option.bind_some]
 have key:=zcs (step:=fun s=>zbc.s4 t (t.Prefixes.foldl (fun m x=>mset ⟨(keyL x).toArray⟩ true m) []) s) (l:=t.Prefixes) (preG t fun w=>decide (w∈t.Prefixes)) (fun i w hw=>by
  have hwm:=zkH hw
  have hws:SmW w:=hp.2 w hwm
  have hwl:w.length≤2000000:=hws
  simp only [zbc.s4]
  rw [zcb hw,zkD,zaq hw,zfe w _ hws,zly _ hp hw]
  simp only [Option.bind_some,preG]
  by_cases g1:zbl w t.Inputs=0
  ·rw [show decide (zbl w t.Inputs≠0)=false from zkA (by simpa using g1),zkC,if_neg (by simpa using g1)]
   have hc:(cond (decide ((↑i:Int)=0)) (cond (decide (0<(↑w.length:Int))) (some true) (some (!zhg t.Prefixes i w))) (some (!zhg t.Prefixes i w)):Option Bool)=some (decide ((i=0∧0<w.length)∨zhg t.Prefixes i w=false)):=by
    by_cases g2:i=0
    ·rw [show decide ((↑i:Int)=0)=true from zkB (by omega),zkD]
     by_cases g3:0<w.length
     ·rw [show decide (0<(↑w.length:Int))=true from zkB (by omega),zkD,zkB (Or.inl ⟨g2,g3⟩)]
     ·rw [show decide (0<(↑w.length:Int))=false from zkA (by omega),zkC]
      cases zhg t.Prefixes i w<;>simp [g3]
    ·rw [show decide ((↑i:Int)=0)=false from zkA (by omega),zkC]
     cases zhg t.Prefixes i w<;>simp [g2]
   rw [hc]
   simp only [Option.bind_some]
   by_cases g2:(i=0∧0<w.length)∨zhg t.Prefixes i w=false
   ·rw [zkB g2,zkD,if_pos g2]
   ·rw [zkA g2,zkC,if_neg g2]
    by_cases g3:0<w.length
    ·have hts:SmW (w.take (w.length-1)):=by
      show (w.take (w.length-1)).length≤2000000
      rw [List.length_take]
      omega
     rw [show decide (0<(↑w.length:Int))=true from zkB (by omega),zkD,zar (by omega),show Int.toNat ((↑w.length:Int)-1)=w.length-1 by omega,zna hts (fun a ha=>hr w hwm a (List.mem_of_mem_take ha))]
     simp only [Option.bind_some]
     rw [keys_mget]
     by_cases g4:w.take (w.length-1)∈t.Prefixes<;>simp [g3,g4,mget]
    ·rw [show decide (0<(↑w.length:Int))=false from zkA (by omega),zkC]
     simp [g3]
  ·rw [show decide (zbl w t.Inputs≠0)=true from zkB g1,zkD,if_pos g1]) (by
  simp only [zbc.s4]
  rw [zes]
  rfl) (by omega)
 rw [key];cases e1:scan (preG t fun w=>decide (w∈t.Prefixes)) 0 t.Prefixes with
 | some e=>rfl
 | none =>
  show (iter (fun (s:Nat)=>zbc.s6 t s) fuel 0:Option (Unit⊕Int)).bind _=_
  have key2:=zcs (step:=fun s=>zbc.s6 t s) (l:=t.Suffixes) (sufG t) (fun i w hw=>by
   have hwm:=zkH hw
   have hws:SmW w:=hs.2 w hwm
   simp only [zbc.s6]
   rw [zcb hw,zkD,zaq hw,zfe w _ hws,zly _ hs hw]
   simp only [Option.bind_some,sufG]
   by_cases g1:zbl w t.Inputs=0
   ·rw [show decide (zbl w t.Inputs≠0)=false from zkA (by simpa using g1),zkC,if_neg (by simpa using g1)]
    by_cases g2:w.length=0
    ·rw [show decide ((↑w.length:Int)=0)=true from zkB (by omega),zkD,if_pos g2]
    ·rw [show decide ((↑w.length:Int)=0)=false from zkA (by omega),zkC,if_neg g2]
     cases zhg t.Suffixes i w<;>rfl
   ·rw [show decide (zbl w t.Inputs≠0)=true from zkB g1,zkD,if_pos g1]) (by
   simp only [zbc.s6]
   rw [zes]
   rfl) (by omega)
  rw [key2];cases e2:scan (sufG t) 0 t.Suffixes with
  | some e=>rfl
  | none =>
   obtain ⟨hA,hcs⟩:=ztu e2;have hiff:=singles_iff hA hcs (show 1≤t.Inputs by omega);have l1:=zuy hp;have l2:=zuy hs;simp only [Option.bind_some,Sum.elim_inl];rw [zl2 _ hp,zl2 _ hs];simp only [Option.bind_some];rw [zar (show inR ((↑(zie t.Prefixes):Int)+↑(zie t.Suffixes)) by unfold inR;omega)];by_cases g1:(↑t.Suffixes.length:Int)<t.Inputs
   ·have hno:¬ ∀ a∈List.range t.Inputs.toNat,[(↑a:Int)]∈t.Suffixes:=fun h=>by
     obtain ⟨w,hw,_⟩:=hiff.1 h;have:=(zkI.1 hw).1;omega
    rw [zkB g1,zkD,if_neg hno];rfl
   ·have hx:=get_at (l:=t.Suffixes) (i:=t.Inputs.toNat-1) (by omega);rw [zkA g1,zkC,zar (by unfold inR;omega),zbd (i:=t.Inputs.toNat-1) (by omega) hx];by_cases g2:1<(t.Suffixes[t.Inputs.toNat-1]'(by omega)).length
    ·have hno:¬ ∀ a∈List.range t.Inputs.toNat,[(↑a:Int)]∈t.Suffixes:=fun h=>by
      obtain ⟨w,hw,hw1⟩:=hiff.1 h;rw [hx] at hw;injection hw with hw
      rw [hw] at g2;omega
     rw [if_neg hno,zkB (by omega)];rfl
    ·have hyes:∀ a∈List.range t.Inputs.toNat,[(↑a:Int)]∈t.Suffixes:=hiff.2 ⟨_,hx,by omega⟩;rw [if_pos hyes,zkA (by omega)];simp only [Option.bind_some,zkC];by_cases h8:1023<zie t.Prefixes+zie t.Suffixes
     ·rw [if_pos h8,zkB (by omega)];rfl
     ·rw [if_neg h8,zkA (by omega)];rfl
def ze5 (n:Nat):List (List Int):=(List.range n).map fun (a:Nat)=>[(↑a:Int)]
def newT (n:Int):zac×Int:=if n<1∨64<n then (⟨0,[],[]⟩,2) else (⟨n,[[]],ze5 n.toNat⟩,0)
theorem singles_step (n:Nat):ze5 (n+1)=ze5 n++[[(↑n:Int)]]:=by simp [ze5,List.range_succ]
theorem zib (n:Nat):(ze5 n).length=n:=by simp [ze5]
theorem table_New_eq (n:Int):zgz n=some (newT n):=by
 unfold zgz newT;by_cases h1:n<1
 ·simp [h1]
 ·by_cases h2:64<n
  ·simp [h1,h2]
  ·rw [zcw (r:=ze5 n.toNat) (fun s=>s.2≤n.toNat∧s.1=ze5 s.2) (fun s=>n.toNat-s.2) (fun s ⟨h1,h2⟩=>by
    simp only [zgz.s2]
    by_cases h3:s.2<n.toNat
    ·left
     refine ⟨(ze5 (s.2+1),s.2+1),?_,⟨by omega,rfl⟩,by simp only;omega⟩
     rw [zkB (by omega),zkD,h2,singles_step,zar (by rw [zib];unfold za7;omega),zar (by unfold inR;omega)]
    ·right
     rw [zkA (by omega),zkC,h2,show s.2=n.toNat by omega]) (s:=([],0)) ⟨Nat.zero_le _,rfl⟩]
   simp [h1,h2]
end Go.Proofs.YtbcommjbpmhdbaaGreatDoor.Sym
namespace Go.Proofs.YtbcommjbpmhdbaaGreatDoor
structure znk (cf:List Int→List Int→Int):Prop where
 range:∀ a b,cf a b=-1∨cf a b=0∨cf a b=1
 zero:∀ a b,cf a b=0↔a=b
 swap:∀ a b,cf b a=- cf a b
 trans:∀ a b c,cf a b=-1→cf b c=-1→cf a c=-1
theorem cmpW_total:znk cmpW:=⟨zjd,zmp,zle,zhy⟩
theorem lexI_total:znk lexI:=⟨zgc,zjh,zil,zjb⟩
def zcr (l:List (List Int)):List (List Int):=l.foldl (fun acc x=>if acc.getLast?=some x then acc else acc++[x]) []
theorem ztw (l:List (List Int)) (x:List Int):zcr (l++[x])=if (zcr l).getLast?=some x then zcr l else zcr l++[x]:=by
 unfold zcr;rw [List.foldl_append];rfl
theorem zvc:∀ (l acc:List (List Int)),(l.foldl (fun acc x=>if acc.getLast?=some x then acc else acc++[x]) acc).getLast?=if l=[] then acc.getLast? else l.getLast?
 | [],acc=>by rw [if_pos rfl];rfl
 | x::l,acc=>by
  have hx:(if acc.getLast?=some x then acc else acc++[x]).getLast?=some x:=by
   split
   ·assumption
   ·simp
  rw [List.foldl_cons,zvc l,if_neg (show ¬ x::l=[] by simp)];cases l with
  | nil=>rw [if_pos rfl,hx];rfl
  | cons y l =>
   rw [if_neg (show ¬ y::l=[] by simp),List.getLast?_cons_cons]
theorem dedupA_last (l:List (List Int)):(zcr l).getLast?=l.getLast?:=by
 unfold zcr;rw [zvc];split
 ·rename_i h;rw [h]
 ·rfl
theorem ztv {l:List (List Int)} {k:Nat} {x y:List Int} (hy:l[k]?=some y) (hx:l[k+1]?=some x) :
  zcr (l.take (k+1+1))=if x=y then zcr (l.take (k+1)) else zcr (l.take (k+1))++[x]:=by
 rw [zbk hx,ztw,dedupA_last,zbk hy];simp only [List.getLast?_append,List.getLast?_singleton,Option.some_or];by_cases h:y=x
 ·subst h;simp
 ·have h':¬ x=y:=fun e=>h e.symm;simp [h,h']
theorem zro {l:List (List Int)} (h:l.length≤1):zcr l=l:=by
 match l,h with
 | [],_=>rfl
 | [x],_=>rfl
theorem dedup_asc {cf:List Int→List Int→Int} (T:znk cf):∀ {l:List (List Int)},l.Pairwise (fun a b=>0≤cf b a)→(zcr l).Pairwise (fun a b=>cf a b=-1)∧∀ x,x∈zcr l↔x∈l:=by
 intro l
 -- from the end of the list
 suffices H:∀ n (l:List (List Int)),l.length=n→l.Pairwise (fun a b=>0≤cf b a)→(zcr l).Pairwise (fun a b=>cf a b=-1)∧∀ x,x∈zcr l↔x∈l from H _ l rfl
 intro n
 induction n with
 | zero =>
  intro l hl _;have:l=[]:=List.eq_nil_of_length_eq_zero hl;subst this;exact ⟨List.Pairwise.nil,fun x=>Iff.rfl⟩
 | succ n ih =>
  intro l hl hp
  obtain ⟨m,x,rfl⟩:∃ m x,l=m++[x]:=by
   have hne:l≠[]:=by intro e;rw [e] at hl;simp at hl
   exact ⟨l.dropLast,l.getLast hne,(List.dropLast_concat_getLast hne).symm⟩
  have hml:m.length=n:=by simpa using hl
  rw [List.pairwise_append] at hp;obtain ⟨hp1,_,hp3⟩:=hp;obtain ⟨h1,h2⟩:=ih m hml hp1;rw [ztw];by_cases h:(zcr m).getLast?=some x
  ·rw [if_pos h];refine ⟨h1,fun y=>?_⟩;have hx:x∈m:=(h2 x).1 (List.mem_of_getLast? h);rw [h2,List.mem_append,List.mem_singleton];constructor
   ·exact Or.inl
   ·rintro (h' | rfl)
    ·exact h'
    ·exact hx
  ·rw [if_neg h];refine ⟨?_,fun y=>by rw [List.mem_append,List.mem_append,h2]⟩;rw [List.pairwise_append];refine ⟨h1,by simp,fun a ha b hb=>?_⟩;rw [List.mem_singleton] at hb;subst hb;have ha':a∈m:=(h2 a).1 ha;have hle:0≤cf b a:=hp3 a ha' b (by simp);have hr:=T.range b a;have hsw:=T.swap b a;by_cases e:cf b a=0
   ·-- a would be the last one
    exfalso;have hab:b=a:=(T.zero _ _).1 e;subst hab
    -- the last of m is the greatest, and b is in m and not less than it
    have hne:zcr m≠[]:=fun e=>by rw [e] at ha;cases ha
    have hl2:=List.getLast?_eq_some_getLast hne;have hlast:(zcr m).getLast hne∈m:=(h2 _).1 (List.getLast_mem hne);have h3:0≤cf b ((zcr m).getLast hne):=hp3 _ hlast b (by simp);have hsplit:zcr m=(zcr m).dropLast++[(zcr m).getLast hne]:=(List.dropLast_concat_getLast hne).symm
    have h4:b=(zcr m).getLast hne∨cf b ((zcr m).getLast hne)=-1:=by
     rw [hsplit] at ha h1;rw [List.pairwise_append] at h1;rcases List.mem_append.1 ha with h5 | h5
     ·exact Or.inr (h1.2.2 b h5 _ (by simp))
     ·exact Or.inl (List.mem_singleton.1 h5)
    rcases h4 with h4 | h4
    ·exact h (by rw [hl2,← h4])
    ·omega
   ·omega
theorem dedupA_length (l:List (List Int)):(zcr l).length≤l.length:=by
 suffices H:∀ (l acc:List (List Int)),(l.foldl (fun acc x=>if acc.getLast?=some x then acc else acc++[x]) acc).length≤acc.length+l.length by
  simpa [zcr] using H l []
 intro l
 induction l with
 | nil=>intro acc;simp
 | cons x l ih =>
  intro acc;rw [List.foldl_cons];refine Nat.le_trans (ih _) ?_;split
  ·simp
  ·simp;omega
end Go.Proofs.YtbcommjbpmhdbaaGreatDoor

/- Parts of the proof. -/
import Derived.WalkKit
import Derived.Deep.AppendLies
import Derived.Deep.Draws
import Derived.Maps.AppendAt
import Derived.Deep.QuietTactic
import Derived.BigQuiet
import Derived.WalkSpells
import Derived.Outline
import Derived.Laws.OwnMore
import Derived.Test.YtjmcbfbjajlbhaaGreatDoorProg
import Derived.IntWalk
import Derived.Laws.Cells
import Derived.ArgAppend
set_option linter.all false
set_option maxRecDepth 100000
set_option maxHeartbeats 4000000
open Go.RowKit
namespace Go.Proofs.YtjmcbfbjajlbhaaGreatDoor.Sym
section
abbrev A3:=List (List Int)
abbrev A2:=List Int
abbrev E7:=List (Nat×Nat)
abbrev D8:=@List.mem_map
abbrev H6:=@List.length_take
abbrev H9:=@List.getElem_mem
abbrev K3:=@List.mem_cons_of_mem
abbrev F8:=@Nat.zero_le
abbrev K2:=@List.mem_singleton
abbrev I2:=@List.mem_cons
abbrev H4:=@Nat.le_refl
abbrev M2:=@List.mem_append_right
abbrev K5:=@List.getElem?_map
abbrev M1:=@List.mem_append_left
abbrev K0:=@List.mem_append
abbrev Q5:=@Classical.byContradiction
abbrev S9:=@List.eq_nil_of_length_eq_zero
abbrev L6:=@List.mem_flatMap
abbrev L5:=@Option.map_some
abbrev J9:=@Nat.zero_add
abbrev L0:=@List.map_cons
abbrev M4:=@List.take_length
abbrev M7:=@Bool.and_eq_true
abbrev Q1:=@List.mem_of_mem_take
abbrev Q4:=@List.mem_iff_getElem
abbrev S2:=@Nat.eq_of_beq_eq_true
abbrev N9:=@Option.bind_some
abbrev O0:=@List.all_eq_true
abbrev S6:=@List.length_singleton
abbrev P0:=@Int.toNat_natCast
abbrev N3:=@List.map_append
abbrev P1:=@List.flatMap_cons
abbrev O5:=@List.length_drop
abbrev L8:=@Nat.lt_or_ge
abbrev M8:=@List.mem_range
abbrev V8:=@List.pairwise_iff_getElem
abbrev R3:=@List.getElem?_take
abbrev T7:=@Array.getElem?_toList
abbrev N2:=@Bool.not_true
abbrev Q3:=@Option.getD_some
abbrev T8:=@List.getElem?_append
abbrev X6:=@List.take_of_length_le
abbrev V7:=@List.mem_of_mem_drop
abbrev S5:=@List.append_nil
abbrev U8:=@List.append_assoc
abbrev W6:=@List.getElem?_drop
abbrev W5:=@Bool.false_ne_true
abbrev V6:=@List.flatten_cons
abbrev cR:=@List.drop_eq_getElem_cons
abbrev S1:=@Nat.le_trans
abbrev dE:=@List.mem_of_find?_eq_some
abbrev V5:=@List.length_nil
abbrev bD:=@Nat.mul_le_mul_right
abbrev gS:=@List.take_append_of_le_length
abbrev aP:=@List.mem_cons_self
abbrev aF:=@List.nodup_append
abbrev aE:=@List.length_range
abbrev fL:=@List.getD_eq_getElem?_getD
abbrev U7:=@Nat.add_assoc
abbrev bT:=@List.getElem?_range
abbrev Y9:=@List.nil_append
abbrev dG:=@List.length_replicate
abbrev fN:=@List.eq_of_mem_replicate
abbrev eG:=@Option.map_eq_some_iff
abbrev aG:=@Bool.not_false
abbrev W7:=@Nat.add_zero
abbrev jI:=@List.getElem?_append_left
abbrev fM:=@List.getElem?_eq_none
abbrev dF:=@List.pairwise_cons
abbrev eF:=@List.flatMap_append
abbrev lB:=@List.getElem?_append_right
abbrev jG:=@List.drop_of_length_le
abbrev eE:=@Nat.lt_trichotomy
abbrev mH:=@Array.getElem?_eq_some_iff
abbrev aO:=@Sum.elim_inl
abbrev eD:=@List.cons_append
abbrev eC:=@List.prefix_refl
abbrev gR:=@Nat.eq_zero_or_pos
abbrev eB:=@List.length_set
abbrev dZ:=@List.nodup_cons
abbrev cQ:=@Bool.false_or
abbrev fK:=@List.mem_filter
abbrev cP:=@Nat.add_comm
abbrev gQ:=@List.any_eq_true
abbrev jF:=@Classical.not_not
abbrev kZ:=@List.mem_filterMap
abbrev kY:=@Nat.lt_of_lt_of_le
abbrev mG:=@Array.length_toList
abbrev kX:=@List.size_toArray
abbrev gP:=@List.nodup_nil
abbrev nR:=@List.length_filter_le
abbrev jE:=@List.range_succ
abbrev pZ:=@Int.eq_ofNat_of_zero_le
abbrev kW:=@Array.toList_map
abbrev nQ:=@Array.toArray_toList
abbrev kV:=@List.drop_length
abbrev pY:=@List.getElem?_set_self
abbrev jH:=@Nat.mul_le_mul
abbrev nV:=@List.map_congr_left
abbrev nU:=@List.flatten_append
abbrev sZ:=@List.mem_or_eq_of_mem_set
abbrev xL:=@List.eq_nil_iff_forall_not_mem
abbrev xK:=@List.drop_append_of_le_length
abbrev nT:=@Bool.false_eq_true
abbrev qB:=@List.getElem?_of_mem
abbrev lA:=@List.take_take
abbrev qA:=@List.getElem?_set_ne
abbrev nP:=@List.ext_getElem?
abbrev mF:=@Nat.min_eq_left
abbrev mE:=@List.find?_some
abbrev nO:=@List.mem_flatten
abbrev nN:=@List.filter_cons
abbrev sX:=@List.take_append_drop
abbrev pX:=@List.find?_eq_none
abbrev pW:=@List.filter_append
abbrev sW:=@List.mem_iff_getElem?
abbrev xD:=@Array.getElem?_eq_getElem
abbrev xC:=@Nat.add_sub_cancel_left
abbrev xB:=@List.filter_cons_of_pos
abbrev sV:=@List.length_pos_iff
abbrev xA:=@List.find?_cons_of_neg
abbrev CG:=@Array.getD_eq_getD_getElem?
abbrev mD:=@List.map_nil
abbrev mC:=@Nat.succ_mul
abbrev pV:=@Bool.or_eq_true
abbrev sU:=@Bool.not_eq_true'
abbrev sS:=@List.pairwise_map
abbrev sR:=@List.any_eq_false
abbrev CF:=@List.sublist_append_right
abbrev mB:=@Nat.mul_one
abbrev sQ:=@List.flatMap_nil
abbrev sP:=@Nat.le_add_right
abbrev wZ:=@List.take_succ_cons
abbrev xJ:=@List.filter_sublist
abbrev xI:=@List.filter_eq_self
abbrev xH:=@List.getElem_of_mem
abbrev CJ:=@List.getElem?_replicate
abbrev CI:=@List.filter_cons_of_neg
abbrev xG:=@Nat.add_sub_cancel
abbrev sY:=@Option.map_none
abbrev xF:=@Option.isSome_none
abbrev xE:=@Option.isSome_some
abbrev CH:=@List.drop_eq_nil_of_le
abbrev BW:=@List.find?_cons_of_pos
abbrev wY:=@List.find?_append
abbrev BV:=@Array.getElem?_modify
abbrev pU:=@Nat.zero_mul
abbrev pT:=@Nat.le_of_eq
abbrev BU:=@List.eq_nil_or_concat
abbrev wX:=@Nat.lt_succ_self
abbrev wW:=@Int.natCast_zero
abbrev BS:=@Nat.div_le_div_right
abbrev BR:=@Array.toList_append
abbrev BQ:=@List.toList_toArray
abbrev wV:=@List.foldl_cons
abbrev sO:=@Nat.sub_self
abbrev sN:=@Nat.sub_zero
abbrev sL:=@Nat.mul_comm
abbrev BP:=@Option.isNone_none
abbrev wU:=@List.drop_drop
abbrev HK:=@List.pairwise_lt_range
abbrev HJ:=@Array.getElem?_eq_none
abbrev HI:=@List.length_pos_of_mem
abbrev wT:=@List.map_take
abbrev BO:=@List.take_append
abbrev BN:=@List.flatMap_def
abbrev HA:=@List.concat_eq_append
abbrev GZ:=@List.singleton_append
abbrev MN:=@List.prefix_or_prefix_of_prefix
abbrev CE:=@Nat.div_add_mod
abbrev HQ:=@List.range_eq_range'
abbrev CC:=@Nat.not_lt_zero
abbrev CB:=@List.any_append
abbrev BZ:=@Nat.testBit_or
abbrev HP:=@List.prefix_append
abbrev BY:=@Bool.or_false
abbrev BX:=@Int.lt_irrefl
abbrev HM:=@Array.size_append
abbrev GY:=@List.getElem?_set
abbrev wR:=@Nat.mod_lt
abbrev MM:=@List.exists_mem_of_ne_nil
abbrev GX:=@List.drop_append
abbrev ML:=@Option.isSome_iff_exists
abbrev BM:=@Bool.or_true
abbrev BL:=@List.map_set
abbrev GW:=@List.flatten_nil
abbrev MK:=@List.length_erase_of_mem
abbrev BK:=@Sum.elim_inr
abbrev GV:=@List.getElem_map
abbrev MJ:=@List.getElem?_cons_zero
abbrev MI:=@List.pairwise_filterMap
abbrev MH:=@List.pairwise_singleton
abbrev GU:=@Int.natCast_mul
abbrev BJ:=@Nat.one_mul
abbrev BI:=@Nat.min_def
abbrev GT:=@Option.map_map
abbrev GR:=@List.take_left
abbrev GQ:=@List.take_zero
abbrev GP:=@List.drop_zero
abbrev GO:=@Int.ofNat_zero
end
def E2{p:Prop}[Decidable p](h:¬p):decide p=false:=decide_eq_false h
def D3{p:Prop}[Decidable p](h:p):decide p=true:=decide_eq_true h
def D6{V:Sort _}(a b:V):cond false a b=b:=rfl
def D2{V:Sort _}(a b:V):cond true a b=a:=rfl
def B5 {V:Sort _} {p:Prop} [Decidable p] {a b:V} (h:¬p:=by omega):cond (decide p) a b=b:=by rw[decide_eq_false h];rfl
def C9 {V:Sort _} {p:Prop} [Decidable p] {a b:V} (h:p:=by omega):cond (decide p) a b=a:=by rw[decide_eq_true h];rfl
def AS{n m:Nat}(h:Nat.ble n m=true):n<=m:=Nat.le_of_ble_eq_true h
def D4{V:Type _}(a b:V):(some a=some b)=(a=b):=Option.some.injEq a b
def G0{V G:Type _}(a:V)(b:G)(c:V)(d:G):((a,b)=(c,d))=(a=c/\b=d):=Prod.mk.injEq a b c d
def H8{V:Type _}{l:List V}{i:Nat}{a:V}(h:l[i]?=some a):a∈l:=List.mem_of_getElem? h
def G4{V:Type _}{l:List V}{i:Nat}{a:V}:l[i]?=some a↔∃h:i<l.length,l[i]=a:=List.getElem?_eq_some_iff
def D7{V:Type _}{a b:List V}:(a++b).length=a.length+b.length:=List.length_append
def E1{V G:Type _}{l:List V}(f:V->G):(l.map f).length=l.length:=List.length_map f
def H7{V:Type _}{a:V}{l:List V}:(a::l).length=l.length+1:=List.length_cons
def L4{V:Type _}{l:List V}{i:Nat}(h:i<l.length):l[i]?=some l[i]:=List.getElem?_eq_getElem h
def grown_none{w w':World}(h:Below w.heap.size w w'):w.grownBy w' none:=⟨h.os,h.tape,h.output,h.size,λk hk _=>h.block k hk⟩
def zV{V:Type}{l:List V}{k:Nat}{x d:V}(h:l[k]?=some x):l.getD k d=x:=by simp[fL,h]
def addr_add(b o j:Nat):(⟨b,o,none⟩:Addr).add j=⟨b,o+j,none⟩:=by
 unfold Addr.add;split
 ·rename_i h;subst h;rfl
 ·rfl
section
inductive IV where
 |val (v:Value)
 |ex (v:Value)
 |any
 |sl (es:List (List IV))
 |agg (cs:List IV)
 |ref (cs:List IV)
 |fn (f:FuncId) (caps:List IV)
 |nsl (es:List (List IV))
inductive AV where
 |im (x:IV)
 |own (o g i:Nat)
 |osl (o g:Nat)
 |elt (o g k i j:Nat)
 |sub (o g i:Nat)
 |elt2 (o g i k j c:Nat)
 |osv (o g k m:Nat)
 |full (es:List (List IV))
 |fn (f:FuncId) (caps:List AV)
 |agg (cs:List AV)
 |tup (cs:List AV)
inductive Kd where
 |dead
 |box (t:TypeId) (m:Nat)
 |row (e:TypeId) (k:Nat) (es:List (List IV))
 |grid (e e':TypeId) (k:Nat) (gs:List (List IV)) (hole:Option Nat)
 |map (l:List (Value×Value))
 |bag (t e:TypeId) (k:Nat) (l:List (Nat×List IV×List (List IV))) (hole:Option Nat)
 |mapI (left:List IV) (cur:Option IV)
 |que (e:TypeId) (k:Nat) (es:List (List IV))
def esOf:Kd->Option (List (List IV))
 | .row _ _ es=>some es
 | .que _ _ es=>some es
 |_=>none
def isQue:Kd->Bool
 | .que _ _ _=>true
 |_=>false
inductive Loc where
 |tmp (t:Nat)
 |gen (o:Nat)
 |ign (o:Nat)
 |knd (o:Nat)
 |cel (o i:Nat)
 deriving DecidableEq
def Loc.eqb:Loc->Loc->Bool
 | .tmp a,.tmp b=>Nat.beq a b
 | .gen a,.gen b=>Nat.beq a b
 | .ign a,.ign b=>Nat.beq a b
 | .knd a,.knd b=>Nat.beq a b
 | .cel a i,.cel b j=>Nat.beq a b&&Nat.beq i j
 |_,_=>false
def Loc.eqb_iff(a b:Loc):a.eqb b=true↔a=b:=by
 cases a<;>cases b<;>simp[Loc.eqb]
def Loc.code:Loc->Nat
 | .tmp t=>Nat.mul 5 t
 | .gen t=>Nat.succ (Nat.mul 5 t)
 | .knd t=>Nat.add (Nat.mul 5 t) 2
 | .cel t j=>Nat.add (Nat.mul 5 (Nat.add (Nat.mul 16 t) j)) 3
 | .ign t=>Nat.add (Nat.mul 5 t) 4
inductive Ct where
 |av (a:AV)
 |n (g:Nat)
 |kd (k:Kd)
def St:Type:=Loc->Ct
def upd(X:St)(l:Loc)(c:Ct):St:=λl'=>match l'.eqb l with|true=>c|false=>X l'
def R8(X:St)(l:Loc)(c:Ct)(l':Loc):upd X l c l'=if l'=l then c else X l':=by
 unfold upd;by_cases h:l'=l
 ·rw[if_pos h,(Loc.eqb_iff l' l).2 h]
 ·rw[if_neg h];cases e:l'.eqb l with
  |true=>exact absurd ((Loc.eqb_iff l' l).1 e) h
  |false=>rfl
def app(X:St):List (Loc×Ct)->St
 |[]=>X
 |(l,c)::wr=>app (upd X l c) wr
def St.av(X:St)(t:Nat):AV:=match X (.tmp t) with|.av a=>a|_=>.im .any
def St.gn(X:St)(o:Nat):Nat:=match X (.gen o) with|.n g=>g|_=>0
def St.ig(X:St)(o:Nat):Nat:=match X (.ign o) with|.n g=>g|_=>0
def St.kd(X:St)(o:Nat):Kd:=match X (.knd o) with|.kd k=>k|_=>.dead
def St.ce(X:St)(o i:Nat):AV:=match X (.cel o i) with|.av a=>a|_=>.im .any
section
variable (X:St)
def iA:app X []=X:=rfl
def V2(p:Loc×Ct)(wr:List (Loc×Ct)):app X (p::wr)=app (upd X p.1 p.2) wr:=rfl
def av_tmp(d t:Nat)(v:AV):(upd X (.tmp d) (.av v)).av t=if t=d then v else X.av t:=by
 unfold St.av;rw[R8];by_cases h:t=d
 ·subst h;simp
 ·simp[h]
def av_gen(o t:Nat)(c:Ct):(upd X (.gen o) c).av t=X.av t:=by simp[St.av,R8]
def av_ign(o t:Nat)(c:Ct):(upd X (.ign o) c).av t=X.av t:=by simp[St.av,R8]
def ig_ign(o t g:Nat):(upd X (.ign o) (.n g)).ig t=if t=o then g else X.ig t:=by
 unfold St.ig;rw[R8];by_cases h:t=o
 ·subst h;simp
 ·simp[h]
def ig_tmp(d t:Nat)(c:Ct):(upd X (.tmp d) c).ig t=X.ig t:=by simp[St.ig,R8]
def ig_gen(d t:Nat)(c:Ct):(upd X (.gen d) c).ig t=X.ig t:=by simp[St.ig,R8]
def fT(d t:Nat)(c:Ct):(upd X (.knd d) c).ig t=X.ig t:=by simp[St.ig,R8]
def ig_cel(d i t:Nat)(c:Ct):(upd X (.cel d i) c).ig t=X.ig t:=by simp[St.ig,R8]
def gn_ign(d t:Nat)(c:Ct):(upd X (.ign d) c).gn t=X.gn t:=by simp[St.gn,R8]
def kd_ign(d t:Nat)(c:Ct):(upd X (.ign d) c).kd t=X.kd t:=by simp[St.kd,R8]
def ce_ign(d p j:Nat)(c:Ct):(upd X (.ign d) c).ce p j=X.ce p j:=by simp[St.ce,R8]
def dO(o t:Nat)(c:Ct):(upd X (.knd o) c).av t=X.av t:=by simp[St.av,R8]
def av_cel(o i t:Nat)(c:Ct):(upd X (.cel o i) c).av t=X.av t:=by simp[St.av,R8]
def gn_gen(o t g:Nat):(upd X (.gen o) (.n g)).gn t=if t=o then g else X.gn t:=by
 unfold St.gn;rw[R8];by_cases h:t=o
 ·subst h;simp
 ·simp[h]
def gn_tmp(d t:Nat)(c:Ct):(upd X (.tmp d) c).gn t=X.gn t:=by simp[St.gn,R8]
def aT(d t:Nat)(c:Ct):(upd X (.knd d) c).gn t=X.gn t:=by simp[St.gn,R8]
def gn_cel(d i t:Nat)(c:Ct):(upd X (.cel d i) c).gn t=X.gn t:=by simp[St.gn,R8]
def W0(o t:Nat)(k:Kd):(upd X (.knd o) (.kd k)).kd t=if t=o then k else X.kd t:=by
 unfold St.kd;rw[R8];by_cases h:t=o
 ·subst h;simp
 ·simp[h]
def kd_tmp(d t:Nat)(c:Ct):(upd X (.tmp d) c).kd t=X.kd t:=by simp[St.kd,R8]
def kd_gen(d t:Nat)(c:Ct):(upd X (.gen d) c).kd t=X.kd t:=by simp[St.kd,R8]
def kd_cel(d i t:Nat)(c:Ct):(upd X (.cel d i) c).kd t=X.kd t:=by simp[St.kd,R8]
def ce_cel(o i p j:Nat)(v:AV):(upd X (.cel o i) (.av v)).ce p j=if p=o/\j=i then v else X.ce p j:=by
 unfold St.ce;rw[R8];by_cases h:p=o/\j=i
 ·obtain⟨rfl,rfl⟩:=h;simp
 ·simp[h]
def ce_tmp(d p j:Nat)(c:Ct):(upd X (.tmp d) c).ce p j=X.ce p j:=by simp[St.ce,R8]
def ce_gen(d p j:Nat)(c:Ct):(upd X (.gen d) c).ce p j=X.ce p j:=by simp[St.ce,R8]
def fU(d p j:Nat)(c:Ct):(upd X (.knd d) c).ce p j=X.ce p j:=by simp[St.ce,R8]
end
inductive RepI(w:World)(S:Nat->Prop):Value->IV->Prop
 |val (v:Value):RepI w S v (.val v)
 |ex (v:Value) (h1:v.oneCell'=true):RepI w S v (.ex v)
 |any (v:Value):RepI w S v .any
 |emp (A:Option Addr) (c:Nat):RepI w S (.slice A 0 c) (.sl [])
 |sl (b o c k n:Nat) (es:List (List IV)) (us:List Value) (hn:es.length=n) (hk:∀e∈es,e.length=k) (hc:n<=c) (hs:n<=17592186044416) (hS:S b)
   (hl:us.length=es.flatten.length) (h1:∀u∈us,u.oneCell'=true) (hu:∀(i:Nat) u,us[i]?=some u->w.cell? ⟨b,o+i,none⟩=some u)
   (hr:∀(i:Nat) u x,us[i]?=some u->es.flatten[i]?=some x->RepI w S u x):RepI w S (.slice (some ⟨b,o,none⟩) n c) (.sl es)
 |agg (us:List Value) (cs:List IV) (hl:us.length=cs.length) (h1:∀u∈us,u.oneCell'=true) (hr:∀(i:Nat) u x,us[i]?=some u->cs[i]?=some x->RepI w S u x):RepI w S (.agg us.toArray) (.agg cs)
 |ref (b o:Nat) (us:List Value) (cs:List IV) (hS:S b) (hl:us.length=cs.length) (h1:∀u∈us,u.oneCell'=true) (hu:∀(i:Nat) u,us[i]?=some u->w.cell? ⟨b,o+i,none⟩=some u)
   (hr:∀(i:Nat) u x,us[i]?=some u->cs[i]?=some x->RepI w S u x):RepI w S (.pointer (some ⟨b,o,none⟩)) (.ref cs)
 |fn (f:FuncId) (us:List Value) (cs:List IV) (hl:us.length=cs.length) (hr:∀(i:Nat) u x,us[i]?=some u->cs[i]?=some x->RepI w S u x):RepI w S (.func (.func f) #[] us.toArray) (.fn f cs)
 |nsl (a:Addr) (n c:Nat) (es:List (List IV)) (h:RepI w S (.slice (some a) n c) (.sl es)):RepI w S (.slice (some a) n c) (.nsl es)
structure Ly where
 root:Nat->Value
 inn:Nat->List Value
 ig:Nat->Nat
instance:CoeFun Ly (λ_=>Nat->Value):=⟨Ly.root⟩
inductive RepA(w:World)(S:Nat->Prop)(Y:Ly)(E:Nat->Nat):Value->AV->Prop
 |im (v:Value) (x:IV) (h:RepI w S v x):RepA w S Y E v (.im x)
 |own (v:Value) (o g i:Nat) (h1:v.oneCell'=true) (hg:g<=E o) (h:E o=g->∃b,Y o=.pointer (some ⟨b,0,none⟩)/\v=.pointer (some ⟨b,i,none⟩)):RepA w S Y E v (.own o g i)
 |osl (v:Value) (o g:Nat) (h1:v.oneCell'=true) (hg:g<=E o) (h:E o=g->v=Y o):RepA w S Y E v (.osl o g)
 |elt (v:Value) (o g k i j:Nat) (h1:v.oneCell'=true) (hg:g<=E o) (h:E o=g->∃b q n c,Y o=.slice (some ⟨b,q,none⟩) n c/\v=.pointer (some ⟨b,q+(i*k+j),none⟩)):RepA w S Y E v (.elt o g k i j)
 |sub (v:Value) (o g i:Nat) (h1:v.oneCell'=true) (hg:g<=Y.ig o) (h:Y.ig o=g->(Y.inn o)[i]?=some v):RepA w S Y E v (.sub o g i)
 |elt2 (v:Value) (o g i k j c:Nat) (h1:v.oneCell'=true) (hg:g<=Y.ig o) (h:Y.ig o=g->∃b n cp,(Y.inn o)[i]?=some (.slice (some ⟨b,0,none⟩) n cp)/\v=.pointer (some ⟨b,j*k+c,none⟩)):RepA w S Y E v (.elt2 o g i k j c)
 |osv (v:Value) (o g k m:Nat) (h1:v.oneCell'=true) (hg:g<=E o) (h:E o=g->∃b n c,Y o=.slice (some ⟨b,0,none⟩) n c/\k<=n/\v=.slice (if c=k then some ⟨b,0,none⟩ else some ⟨b,k*m,none⟩) (n-k) (c-k)):RepA w S Y E v (.osv o g k m)
 |full (A:Option Addr) (n:Nat) (es:List (List IV)) (h:RepI w S (.slice A n n) (.sl es)):RepA w S Y E (.slice A n n) (.full es)
 |fn (f:FuncId) (us:List Value) (cs:List AV) (hl:us.length=cs.length) (hr:∀(i:Nat) u x,us[i]?=some u->cs[i]?=some x->RepA w S Y E u x):RepA w S Y E (.func (.func f) #[] us.toArray) (.fn f cs)
 |agg (us:List Value) (cs:List AV) (hl:us.length=cs.length) (h1:∀u∈us,u.oneCell'=true) (hr:∀(i:Nat) u x,us[i]?=some u->cs[i]?=some x->RepA w S Y E u x):RepA w S Y E (.agg us.toArray) (.agg cs)
 |tup (us:List Value) (cs:List AV) (hl:us.length=cs.length) (hr:∀(i:Nat) u x,us[i]?=some u->cs[i]?=some x->RepA w S Y E u x):RepA w S Y E (.tuple us.toArray) (.tup cs)
structure Base where
 w0:World
 S0:Nat->Prop
 n:Nat
 G:Nat->Prop
 Z:Nat->Prop
 L:Nat->Option Value
 ds:List Deferred
def Mine(B:Base)(b:Nat):Prop:=B.w0.heap.size<=b\/B.G b
structure Belo(G:Nat->Prop)(n:Nat)(w w':World):Prop where
 os:w'.os=w.os
 tape:w'.tape=w.tape
 output:w'.output=w.output
 size:w.heap.size<=w'.heap.size
 block:∀k,k<n->¬G k->w'.heap[k]?=w.heap[k]?
def Belo.of{G:Nat->Prop}{n:Nat}{w w':World}(h:Below n w w'):Belo G n w w':=⟨h.os,h.tape,h.output,h.size,λk hk _=>h.block k hk⟩
def Belo.below{G:Nat->Prop}{n:Nat}{w w':World}(h:Belo G n w w')(hG:∀b,¬G b):Below n w w':=⟨h.os,h.tape,h.output,h.size,λk hk=>h.block k hk (hG k)⟩
def Belo.refl(G:Nat->Prop)(n:Nat)(w:World):Belo G n w w:=.of (Below.refl n w)
def Belo.trans{G:Nat->Prop}{n:Nat}{a b c:World}(h:Belo G n a b)(k:Belo G n b c):Belo G n a c :=
 ⟨k.os.trans h.os,k.tape.trans h.tape,k.output.trans h.output,S1 h.size k.size,λi hi hg=>(k.block i hi hg).trans (h.block i hi hg)⟩
def G3:Value->Option Nat
 | .pointer (some a)=>some a.block
 | .slice (some a) _ _=>some a.block
 | .map (some b)=>some b
 |_=>none
def live(X:St)(o:Nat):Prop:=X.kd o≠.dead
def fpv(v:Value)(inn:List Value):List Nat:=(v::inn).filterMap G3
def fpk(v:Value)(inn:List Value):Kd->List Nat
 | .dead=>[]
 | .grid _ _ _ _ _=>fpv v inn
 | .bag _ _ _ _ _=>fpv v inn
 | .mapI _ _=>fpv v inn
 |_=>(G3 v).toList
def Owns(X:St)(Y:Ly)(o b:Nat):Prop:=b∈fpk (Y o) (Y.inn o) (X.kd o)
def Imm(B:Base)(X:St)(Y:Ly)(w:World)(b:Nat):Prop :=
 (B.S0 b\/Mine B b)/\b<w.heap.size/\(∀o,¬Owns X Y o b)/\¬B.Z b
def Z6(w:World)(S:Nat->Prop)(v:Value)(e:TypeId)(k:Nat)(es:List (List IV)):Prop :=
 ∃us:List Value,0<k/\(∀x∈es,x.length=k)/\es.length<=17592186044416/\w.ownsRow 0 e k v es.length us/\us.length=es.flatten.length/\(∀u∈us,u.oneCell'=true) /\
  ∀(i:Nat) u x,us[i]?=some u->es.flatten[i]?=some x->RepI w S u x
def QueOk(w:World)(S:Nat->Prop)(v:Value)(e:TypeId)(k:Nat)(es:List (List IV)):Prop :=
 ∃us:List Value,0<k/\(∀x∈es,x.length=k)/\es.length<=17592186044416/\us.length=es.flatten.length/\(∀u∈us,u.oneCell'=true) /\
  (∀(i:Nat) u x,us[i]?=some u->es.flatten[i]?=some x->RepI w S u x) /\
  ((v=.slice none 0 0/\es=[])\/∃(q off cap:Nat) (cur:Array Value),v=.slice (some ⟨q,off,none⟩) es.length cap/\w.heap[q]?=some (.cells cur e (0,0))/\es.length<=cap/\cap<=maxLen/\off+cap*k<=cur.size/\∀(j:Nat) u,us[j]?=some u->cur[off+j]?=some u)
def fS(w:World)(S:Nat->Prop)(v:Value)(inn:List Value)(e e':TypeId)(k:Nat)(gs:List (List IV))(hole:Option Nat):Prop :=
 (fpv v inn).Nodup/\inn.length=gs.length/\∃us:List Value,gs.length<=17592186044416/\w.ownsRow 0 e 1 v gs.length us/\(∀u∈us,u.oneCell'=true) /\
  ∀(i:Nat) u,inn[i]?=some u->(hole=some i/\u=undef)\/(us[i]?=some u/\∃es,gs[i]?=some [.sl es]/\Z6 w S u e' k es)
def MapSt(es:Array MapEntry)(clock:Nat):Prop:=(∀x∈es.toList,x.born<clock)/\(es.toList.map (·.born)).Nodup
def P4(w:World)(S:Nat->Prop)(v:Value)(inn:List Value):Kd->Prop
 | .row e k es=>Z6 w S v e k es
 | .que e k es=>QueOk w S v e k es
 | .grid e e' k gs hole=>fS w S v inn e e' k gs hole
 | .map l=>∃(b clock:Nat) (es:Array MapEntry),v=.map (some b)/\w.heap[b]?=some (.map es clock)/\es.toList.map (λe=>(e.key,e.val))=l/\MapSt es clock
 |_=>False
abbrev pv(b:Nat):Value:=.pointer (some ⟨b,0,none⟩)
def EntOk(w:World)(S:Nat->Prop)(t e:TypeId)(k:Nat)(g:Nat×List IV×List (List IV))(row:Value):Prop :=
 ∃us:List Value,w.heap[g.1]?=some (.cells (us++[row]).toArray t (0,0))/\us.length=g.2.1.length/\(∀u∈us,u.oneCell'=true) /\
  (∀(i:Nat) u x,us[i]?=some u->g.2.1[i]?=some x->RepI w S u x)/\Z6 w S row e k g.2.2
def fP(w:World)(S:Nat->Prop)(v:Value)(inn:List Value)(t e:TypeId)(k:Nat)(l:List (Nat×List IV×List (List IV))):Prop :=
 G3 v=none/\(fpv v inn).Nodup/\∃rows:List Value,rows.length=l.length/\inn=(l.map λg=>pv g.1)++rows/\∀(i:Nat) g row,l[i]?=some g->rows[i]?=some row->EntOk w S t e k g row
def GoOk(w:World)(S:Nat->Prop)(v:Value)(inn:List Value)(left:List IV)(cur:Option IV):Prop :=
 ∃(b r clock since c0:Nat) (es:Array MapEntry) (seen:Array Nat) (rd:MapEntry->IV),v=.map (some b)/\inn=[.pointer (some ⟨r,0,none⟩)]/\r≠b/\w.heap[b]?=some (.map es clock)/\w.heap[r]?=some (.mapIter (some b) since seen c0) /\
  (∀x∈es.toList,x.born<since)/\since<=c0/\since<=clock/\(es.toList.map (·.born)).Nodup/\(∀x∈es.toList,RepI w S x.val (rd x))/\left=(es.toList.filter λx=>!seen.contains x.born).map rd /\
  ∀y,cur=some y->c0=clock/\∃(s0:Array Nat) (e:MapEntry),seen=s0.push e.born/\e∈es.toList/\rd e=y
def aR(B:Base)(X:St)(Y:Ly)(w:World)(o:Nat):Kd->Prop
 | .dead=>True
 | .box t m=>∃(b:Nat) (us:List Value),Y o=.pointer (some ⟨b,0,none⟩)/\w.heap[b]?=some (.cells us.toArray t (0,0))/\us.length=m/\(∀u∈us,u.oneCell'=true) /\
   ∀(i:Nat) u,us[i]?=some u->RepA w (Imm B X Y w) Y X.gn u (X.ce o i)
 | .bag t e k l hole=>fP w (Imm B X Y w) (Y o) (Y.inn o) t e k l/\∀p,hole=some p->RepA w (Imm B X Y w) Y X.gn (pv p) (X.ce o 0)
 | .mapI left cur=>GoOk w (Imm B X Y w) (Y o) (Y.inn o) left cur
 |k=>P4 w (Imm B X Y w) (Y o) (Y.inn o) k
structure SatR(B:Base)(X:St)(a:Act)(w:World)(Y:Ly):Prop where
 bel:Belo B.G B.w0.heap.size B.w0 w
 obs:∀o,aR B X Y w o (X.kd o)
 own:∀o b,Owns X Y o b->Mine B b/\b<w.heap.size
 dis:∀o p b,Owns X Y o b->Owns X Y p b->o=p
 tms:∀t,RepA w (Imm B X Y w) Y X.gn (a.tmps.getD t undef) (X.av t)
 igs:∀o,Y.ig o=X.ig o
 res:∀b,B.Z b->(Mine B b/\b<w.heap.size)/\∀o,¬Owns X Y o b
 rt:∀o v,B.L o=some v->X.gn o=0->Y o=v
 siz:a.tmps.size=B.n
 dfr:a.defers=B.ds
def Sat(B:Base)(X:St)(a:Act)(w:World):Prop:=∃Y,SatR B X a w Y
def Ent(X X':St):Prop:=∀B a w,Sat B X a w->Sat B X' a w
def Holds(X:St)(J:Prop):Prop:=∀B a w,Sat B X a w->J
def eM(body:(Exit->St->Prop)->St->Prop)(K:Exit->St->Prop)(X:St):Prop :=
 ∃(I:Nat->St->Prop) (m:Nat),I m X/\∀m X,I m X->∃X1 J,Ent X X1/\Holds X1 J/\(J->body (λe X'=>match e with|.normal=>∃m',m'<m/\I m' X'|e=>K e X') X1)
structure Fx where
 rd:List Loc
 wr:List (Loc×Ct)
abbrev vI(n:Int):AV:=.im (.val (.int .i64 n))
abbrev vB(b:Bool):AV:=.im (.val (.bool b))
def splice{V:Type}(e:List V)(j:Nat)(xs:List V):List V:=e.take j++xs++e.drop (j+xs.length)
def Side(A B:Prop):Prop:=A/\B
def Both(b:Bool)(A B:Prop):Prop:=(b=true->A)/\(b=false->B)
def Chk(b:Bool)(A:Prop):Prop:=match b with|true=>A|false=>False
def Nf{V:Type}(a:V)(F:V->Prop):Prop:=∃b,b=a/\F b
def Cut(body:(St->Prop)->Prop)(rest:St->Prop):Prop:=∃Post:St->Prop,body (λX'=>∃X1,Ent X' X1/\Post X1)/\∀X,Post X->∃J,Holds X J/\(J->rest X)
def Nf.mk{V:Type}{a:V}{F:V->Prop}(b:V)(h:b=a)(k:F b):Nf a F:=⟨b,h,k⟩
def Side.mk{A B:Prop}(a:A)(b:B):Side A B:=⟨a,b⟩
def Both.mk{b:Bool}{A B:Prop}(h:b=true->A)(k:b=false->B):Both b A B:=⟨h,k⟩
def Both.yes{b:Bool}{A B:Prop}(e:b=true)(h:A):Both b A B:=⟨λ_=>h,λe'=>absurd (e.symm.trans e') (by decide)⟩
def Both.no{b:Bool}{A B:Prop}(e:b=false)(h:B):Both b A B:=⟨λe'=>absurd (e.symm.trans e') (by decide),λ_=>h⟩
def Chk.ok{b:Bool}{A:Prop}(h:Chk b A):b=true/\A:=by
 cases b with
 |true=>exact⟨rfl,h⟩
 |false=>exact False.elim h
def opd:Operand->List Loc
 | .tmp t=>[.tmp t]
 |_=>[]
def evA(X:St):Operand->AV
 | .tmp t=>X.av t
 | .const v=>.im (.val v)
 | .func f=>.im (.fn f [])
 | .global _=>.im .any
def wrT:Option Tmp->AV->List (Loc×Ct)
 |some d,v=>[(.tmp d,.av v)]
 |none,_=>[]
def toIVs:List AV->Option (List IV)
 |[]=>some []
 | .im x::l=>(toIVs l).map (x::·)
 |_::_=>none
def aggA(cs:List AV):AV:=match toIVs cs with|some l=>.im (.agg l)|none=>.agg cs
def jJ:AV->Option (List AV)
 | .im (.agg cs)=>some (cs.map .im)
 | .im (.val v)=>if v.cells.toList.all (·.oneCell')=true then some (v.cells.toList.map λu=>.im (.val u)) else none
 | .agg cs=>some cs
 | .im .any=>none
 | .tup _=>none
 |v=>some [v]
def aggCs:AV->Option (List AV)
 | .im (.agg cs)=>some (cs.map .im)
 | .im (.val (.agg vs))=>if vs.toList.all (·.oneCell')=true then some (vs.toList.map λu=>.im (.val u)) else none
 | .agg cs=>some cs
 |_=>none
def szOf(P:Program)(t:TypeId):Option Nat:=(P.info? t).map (·.size)
def fO(P:Program)(t:TypeId):Option Bool:=(P.underlying t).map λd=>match d with|.struct _|.array ..=>true|_=>false
def fldOf(P:Program)(t:TypeId)(f:Nat):Option (Nat×TypeId):=match P.underlying t with|some (.struct fs)=>(fs[f]?).map λx=>(x.offset,x.type)|_=>none
def V9(P:Program)(t:TypeId):Option TypeId:=match P.underlying t with|some (.slice e)=>some e|_=>none
def zeroOf(P:Program)(t:TypeId):Option (List Value):=match P.info? t with|some i=>i.zero.map λz=>z.cells.toList|_=>none
def arrOf(P:Program)(t:TypeId):Option (Nat×TypeId):=match P.underlying t with|some (.array n e)=>some (n,e)|_=>none
def mapTy(P:Program)(t:TypeId):Option (TypeId×TypeId):=match P.underlying t with
 |some (.map k e)=>some (k,e)
 |_=>none
def intArr(P:Program)(t:TypeId):Option Nat:=match arrOf P t with
 |some (n,e)=>match P.underlying e,szOf P e with
  |some (.int .i64),some 1=>some n
  |_,_=>none
 |none=>none
def byteOf(P:Program)(t:TypeId):Option Nat:=(P.info? t).map (·.bytes)
def inR(n:Int):Prop:=-9223372036854775808<=n/\n<=9223372036854775807
inductive Oc where
 |im (x:IV)
 |ow (k:Kd)
inductive Arg where
 |im (x:IV)
 |ow (k:Kd)
 |box (t:TypeId) (cs:List Oc)
 |lent (k:Kd)
instance:Coe IV Arg:=⟨.im⟩
@[match_pattern] abbrev Arg.row(e:TypeId)(k:Nat)(es:List (List IV)):Arg:=.ow (.row e k es)
inductive Rs where
 |mk (tp:Bool) (l:List Oc) (ys:List Arg)
abbrev Rs.im(x:IV):Rs:=.mk false [.im x] []
abbrev Rs.row(e:TypeId)(k:Nat)(es:List (List IV)):Rs:=.mk false [.ow (.row e k es)] []
abbrev Rs.tup(l:List IV):Rs:=.mk true (l.map .im) []
def flatOc:Oc->Prop
 | .im x=>(∃v,x=.val v)\/∃cs,x=.agg cs/\∀c∈cs,∃v,c=.val v
 | .ow (.row _ _ es)=>∀e∈es,∀x∈e,∃v,x=.val v
 | .ow (.map _)=>True
 |_=>False
def flatArg:Arg->Prop
 | .box _ cs=>∀c∈cs,flatOc c
 | .lent k=>flatOc (.ow k)
 |_=>False
def flatRs:Rs->Prop
 | .mk _ l ys=>(∀c∈l,flatOc c)/\∀y∈ys,flatArg y
def M9(X:St)(o:Nat)(k:Kd):List (Loc×Ct):=[(.gen o,.n (X.gn o+1)),(.knd o,.kd k)]
def X4(X:St)(o:Nat)(k:Kd):List (Loc×Ct):=match k with
 | .grid _ _ _ _ _=>(.ign o,.n (X.ig o+1))::M9 X o k
 |_=>M9 X o k
def nmB(i j:Nat):Nat:=Nat.add (Nat.add 2000 (Nat.mul 64 i)) j
def nmC(i j:Nat):Nat:=Nat.add (Nat.add 5000 (Nat.mul 64 i)) j
def nmR(d i:Nat):Nat:=Nat.add (Nat.add 3100 (Nat.mul 4 d)) i
def ocPl(X:St)(nm:Nat):Oc->AV×List (Nat×Kd)
 | .im x=>(.im x,[])
 | .ow k=>(.osl nm (X.gn nm+1),[(nm,k)])
def I5(X:St)(f:Nat->Nat):Nat->List Oc->List AV×List (Nat×Kd)
 |_,[]=>([],[])
 |i,c::l=>match ocPl X (f i) c,I5 X f (i+1) l with|(a,s),(al,ss)=>(a::al,s++ss)
def K9(X:St):List (Nat×Kd)->List (Loc×Ct)
 |[]=>[]
 |p::l=>X4 X p.1 p.2++K9 X l
def gU:List (Nat×Kd)->List Loc
 |[]=>[]
 |p::l=>.gen p.1::.ign p.1::gU l
def nz1:IV->IV
 | .val (.slice none 0 0)=>.sl []
 | .val (.map none)=>.any
 | .nsl es=>.sl es
 |x=>x
def nz:IV->IV
 | .agg cs=>.agg (cs.map nz1)
 | .val (.agg vs)=>if vs.toList.all (·.oneCell')=true then .agg (vs.toList.map λv=>nz1 (.val v)) else .any
 |x=>nz1 x
def mkZ(own:List Nat)(d:Nat)(v:Value):IV:=match own.contains (9700000+d) with
 |true=>.val v
 |false=>nz1 (.val v)
def rowAt(gs:List (List IV))(i:Nat):List (List IV):=match gs[i]? with
 |some [.sl es]=>es
 |_=>[]
def fz1(X:St):AV->Option (IV×E7)
 | .im x=>some (nz1 x,[])
 | .osl b g=>match X.kd b with|.row _ _ es=>some (.sl es,[(b,g)])|.grid _ _ _ gs none=>some (.sl gs,[(b,g)])|.map _=>some (.any,[(b,g)])|_=>none
 | .sub b g i=>match X.kd b,Nat.beq (X.ig b) g with
  | .grid _ _ _ gs none,true=>some (.sl (rowAt gs i),[(b,X.gn b)])
  |_,_=>none
 |_=>none
def fzL(X:St):List AV->Option (List IV×E7)
 |[]=>some ([],[])
 |a::l=>match fz1 X a,fzL X l with|some (x,b),some (xs,bs)=>some (x::xs,b++bs)|_,_=>none
def dM(X:St)(b:Nat):Nat:=match X.kd b with|.box _ m=>m|_=>0
def eJ(X:St)(b:Nat):List AV:=(List.range (dM X b)).map λi=>X.ce b i
def fz2(X:St):AV->Option (IV×E7)
 | .im x=>some (nz x,[])
 | .agg cs=>(fzL X cs).map λp=>(.agg p.1,p.2)
 | .own b g i=>match X.kd b with|.box _ _=>(fzL X (eJ X b)).map λp=>(.ref (p.1.drop i),(b,g)::p.2)|_=>none
 |a=>fz1 X a
def fzM(X:St):List AV->Option (List IV×E7)
 |[]=>some ([],[])
 |a::l=>match fz2 X a,fzM X l with|some (x,b),some (xs,bs)=>some (x::xs,b++bs)|_,_=>none
def fz(X:St):AV->Option (IV×E7)
 | .fn f caps=>(fzM X caps).map λp=>(.fn f p.1,p.2)
 |a=>fz2 X a
def boxRd(X:St)(b:Nat):List Loc:=(List.range (dM X b)).map λi=>.cel b i
def frd(X:St)(bs:E7):List Loc:=bs.flatMap λb=>.gen b.1::.knd b.1::.ign b.1::boxRd X b.1
def fwr(bs:E7):List (Loc×Ct):=bs.map λb=>(.knd b.1,.kd .dead)
def gok(X:St):E7->Prop
 |[]=>True
 |(b,g)::bs=>X.gn b=g/\gok X bs
def fR(X:St)(bs:E7)(A:Prop):Prop:=match bs with|[]=>A|_::_=>Side (gok X bs) A
def asInt:AV->Option (IntKind×Int)
 | .im (.val (.int k n))=>some (k,n)
 |_=>none
def asBool:AV->Option Bool
 | .im (.val (.bool b))=>some b
 |_=>none
def asStr:AV->Option ByteArray
 | .im (.val (.string s))=>some s
 |_=>none
def rng:IntKind->Int->Prop
 | .i64,n=>inR n
 | .u8,n=>0<=n/\n<=255
 | .u64,n=>0<=n/\n<=18446744073709551615
 |_,_=>False
def dI(k:IntKind)(n:Int)(F:Int->Prop):Prop:=(rng k n/\F n)\/F (k.wrap n)
def dI.mk{k:IntKind}{n:Int}{F:Int->Prop}(h:rng k n)(f:F n):dI k n F:=.inl ⟨h,f⟩
def xorK(k:IntKind)(a b:Int):Int:=k.wrap (BitVec.ofInt k.bits a ^^^ BitVec.ofInt k.bits b).toNat
def E5(n bytes:Nat):Prop:=n*bytes<=140737488355328/\n<=17592186044416
section
variable (P:Program)(own:List Nat)(o:Oper)(X:St)(K:Fx->Prop)
def aPick(c a b:Operand):Prop :=
 match asBool (evA X c) with
 |some t=>Both t (K ⟨opd c++opd a++opd b,wrT o.dst (evA X a)⟩) (K ⟨opd c++opd a++opd b,wrT o.dst (evA X b)⟩)
 |none=>False
def aLoad(t:TypeId)(p:Operand):Prop :=
 match fO P t with
 |some false=>match evA X p with
  | .im (.ref (c::_))=>K ⟨opd p,wrT o.dst (.im c)⟩
  | .own b g i=>Chk (Nat.blt i (dM X b)) (Side (X.gn b=g) (K ⟨opd p++[.gen b,.knd b,.cel b i],wrT o.dst (X.ce b i)⟩))
  | .elt b g k i j=>match esOf (X.kd b) with
   |some es=>∃e c,(X.gn b=g/\es[i]?=some e/\e[j]?=some c/\e.length=k)/\K ⟨opd p++[.gen b,.knd b],wrT o.dst (.im c)⟩
   |_=>False
  |_=>False
 |some true=>match szOf P t with
  |some m=>match evA X p with
   | .im (.ref cs)=>Chk (Nat.ble m cs.length) (K ⟨opd p,wrT o.dst (.im (.agg (cs.take m)))⟩)
   | .own b g i=>Chk (Nat.blt 0 m&&Nat.ble (i+m) (dM X b)) (Side (X.gn b=g) (K ⟨opd p++[.gen b,.knd b]++(List.range m).map (λj=>.cel b (i+j)),wrT o.dst (aggA ((List.range m).map λj=>X.ce b (i+j)))⟩))
   | .elt b g k i j=>match esOf (X.kd b) with
    |some es=>∃e,(X.gn b=g/\es[i]?=some e/\j+m<=e.length/\e.length=k)/\K ⟨opd p++[.gen b,.knd b],wrT o.dst (.im (.agg ((e.drop j).take m)))⟩
    |_=>False
   |_=>False
  |none=>False
 |none=>False
def P8(b:Nat):Nat->List AV->List (Loc×Ct)
 |_,[]=>[]
 |i,c::cs=>(.cel b i,.av c)::P8 b (i+1) cs
def aStore(t:TypeId)(p x:Operand):Prop :=
 match szOf P t,jJ (evA X x) with
 |some m,some cs=>Chk (Nat.beq cs.length m) (match evA X p with
  | .own b g i=>Chk (Nat.blt 0 m&&Nat.ble (i+m) (dM X b)) (Side (X.gn b=g) (K ⟨opd p++opd x++[.gen b,.knd b],P8 b i cs++wrT o.dst (.im (.val undef))⟩))
  |_=>False)
 |_,_=>False
def aBox(t:TypeId)(x:Operand):Prop :=
 match o.dst,jJ (evA X x) with
 |some d,some cs=>match own.contains (700000+d) with
  |true=>match fzL X cs with
   |some (xs,bs)=>fR X bs (K ⟨opd x++frd X bs,fwr bs++[(.tmp d,.av (.im (.ref xs)))]⟩)
   |none=>False
  |false=>K ⟨opd x++[.gen d],M9 X d (.box t cs.length)++P8 d 0 cs++[(.tmp d,.av (.own d (X.gn d+1) 0))]⟩
 |_,_=>False
def aAlloc(t:TypeId):Prop :=
 match o.dst,zeroOf P t with
 |some d,some cs=>Chk (cs.all (·.oneCell')) (K ⟨[.gen d],M9 X d (.box t cs.length)++P8 d 0 (cs.map λv=>.im (.val v))++[(.tmp d,.av (.own d (X.gn d+1) 0))]⟩)
 |_,_=>False
def aAllocA(t:TypeId):Prop :=
 match o.dst,zeroOf P t with
 |some d,some cs=>Chk (cs.all (·.oneCell')&&Nat.blt 0 cs.length&&Nat.ble cs.length 17592186044416)
   (Nf (cs.map λv=>[nz1 (.val v)]) λr=>K ⟨[.gen d],M9 X d (.row t 1 r)++[(.tmp d,.av (.elt d (X.gn d+1) 1 0 0))]⟩)
 |_,_=>False
def aAllocs(t:TypeId):Prop:=match intArr P t with
 |some n=>match Nat.ble n 4 with
  |true=>aAlloc P o X K t
  |false=>aAllocA P o X K t
 |none=>aAlloc P o X K t
def DN(t:TypeId)(p:Operand)(f:Nat):Prop :=
 match fldOf P t f with
 |some (off,ft)=>match szOf P ft with
  |some m=>Chk (Nat.blt 0 m) (match evA X p with
   | .im (.ref cs)=>K ⟨opd p,wrT o.dst (.im (.ref (cs.drop off)))⟩
   | .own b g i=>Side (X.gn b=g) (K ⟨opd p++[.gen b],wrT o.dst (.own b g (i+off))⟩)
   | .elt b g k i j=>Side (X.gn b=g) (K ⟨opd p++[.gen b],wrT o.dst (.elt b g k i (j+off))⟩)
   |_=>False)
  |none=>False
 |none=>False
def aField(t:TypeId)(x:Operand)(f:Nat):Prop:=let _:=(P,o,X,K);False
def yY(t:TypeId)(x i:Operand):Prop :=
 match asInt (evA X i),V9 P t with
 |some (_,n),some et=>match evA X x with
  | .im (.sl es)=>∃e,(0<=n/\es[n.toNat]?=some e/\szOf P et=some e.length)/\K ⟨opd x++opd i,wrT o.dst (.im (.ref e))⟩
  | .osl b g=>match esOf (X.kd b) with
   |some es=>match szOf P et with
    |some k=>Side (0<=n/\X.gn b=g/\n.toNat<es.length) (K ⟨opd x++opd i++[.gen b,.knd b],wrT o.dst (.elt b g k n.toNat 0)⟩)
    |none=>False
   |_=>False
  |_=>False
 |_,_=>False
def optI(X:St)(d:Int):Option Operand->Option Int
 |none=>some d
 |some x=>(asInt (evA X x)).map (·.2)
def aSlice(t:TypeId)(x:Operand)(lo hi:Option Operand):Prop :=
 match V9 P t with
 |some et=>match szOf P et with
  |some k=>match nz (match evA X x with|.im y=>y|_=>.any) with
   | .sl es=>match optI X 0 lo,optI X es.length hi with
    |some l,some h=>Side (0<=l/\l<=h/\h<=es.length/\∀e∈es,e.length=k) (Nf ((es.take h.toNat).drop l.toNat) λr=>K ⟨opd x++(lo.map opd).getD []++(hi.map opd).getD [],wrT o.dst (.im (.sl r))⟩)
    |_,_=>False
   |_=>False
  |none=>False
 |none=>False
def aSlice3(t:TypeId)(x:Operand)(lo hi:Option Operand)(mx:Operand):Prop :=
 match lo,hi,V9 P t with
 |none,some hi,some et=>match szOf P et,nz (match evA X x with|.im y=>y|_=>.any),asInt (evA X hi),asInt (evA X mx) with
  |some k,.sl es,some (_,h),some (_,m)=>Side (0<=h/\h<=es.length/\m=h/\∀e∈es,e.length=k) (Nf (es.take h.toNat) λr=>K ⟨opd x++opd hi++opd mx,wrT o.dst (.full r)⟩)
  |_,_,_,_=>False
 |_,_,_=>False
def aSliceV(t:TypeId)(x:Operand)(b g:Nat)(lo:Operand):Prop :=
 match V9 P t,asInt (evA X lo),X.kd b with
 |some et,some (_,l),.row _ k es=>match szOf P et with
  |some k'=>Chk (Nat.beq k k') (Side (X.gn b=g/\0<=l/\l.toNat<=es.length/\0<es.length) (K ⟨opd x++opd lo++[.gen b,.knd b],wrT o.dst (.osv b g l.toNat k)⟩))
  |none=>False
 |_,_,_=>False
def aSliceT(t:TypeId)(x:Operand)(b g:Nat)(hi:Operand):Prop :=
 match V9 P t,asInt (evA X hi),X.kd b,o.dst with
 |some et,some (_,l),.row et' k es,some d=>match szOf P et with
  |some k'=>Chk (Nat.beq k k') (Side (X.gn b=g/\0<=l/\l.toNat<=es.length/\0<es.length)
   (Nf (es.take l.toNat) λr=>K ⟨opd x++opd hi++[.gen b,.knd b],(.knd b,.kd .dead)::(M9 X b (.row et' k r)++[(.tmp d,.av (.osl b (X.gn b+1)))])⟩))
  |none=>False
 |_,_,_,_=>False
def aLenV(x:Operand)(b g k:Nat):Prop :=
 match X.kd b with
 | .row _ _ es=>Side (X.gn b=g) (Nf (es.length-k) λn=>K ⟨opd x++[.gen b,.knd b],wrT o.dst (vI n)⟩)
 |_=>False
def aIndexV(t:TypeId)(x i:Operand)(b g k m:Nat):Prop :=
 match asInt (evA X i),V9 P t,X.kd b with
 |some (_,n),some et,.row _ _ es=>match szOf P et with
  |some m'=>Chk (Nat.beq m m') (Side (0<=n/\X.gn b=g/\k+n.toNat<es.length) (Nf (k+n.toNat) λj=>K ⟨opd x++opd i++[.gen b,.knd b],wrT o.dst (.elt b g m j 0)⟩))
  |none=>False
 |_,_,_=>False
def aClear(t:TypeId)(x:Operand):Prop :=
 match V9 P t,evA X x with
 |some et,.osv b g k m=>match X.kd b,szOf P et,zeroOf P et with
  | .row et' k' es,some m',some z=>Chk (Nat.beq m m'&&Nat.beq k' m'&&Nat.blt 0 m'&&Nat.beq z.length m'&&z.all (·.oneCell')) (Side (X.gn b=g/\k<=es.length)
   (Nf (es.take k++List.replicate (es.length-k) (z.map λv=>nz1 (.val v))) λr=>K ⟨opd x++[.gen b,.knd b],(.knd b,.kd (.row et' k' r))::wrT o.dst (.im .any)⟩))
  |_,_,_=>False
 |_,_=>False
def aCopy(t:TypeId)(x y:Operand):Prop:=let _:=(P,o,X,K);False
def aIndexG(t:TypeId)(x i:Operand)(b g:Nat):Prop :=
 match asInt (evA X i),V9 P t,X.kd b with
 |some (_,n),some et,.grid _ _ _ gs _=>match szOf P et with
  |some k=>Chk (Nat.beq k 1) (Side (0<=n/\X.gn b=g/\n.toNat<gs.length) (K ⟨opd x++opd i++[.gen b,.knd b],wrT o.dst (.elt b g 1 n.toNat 0)⟩))
  |none=>False
 |_,_,_=>False
def aIndexS(t:TypeId)(x i:Operand)(b g j:Nat):Prop :=
 match asInt (evA X i),V9 P t,X.kd b with
 |some (_,n),some et,.grid _ _ k gs none=>match szOf P et with
  |some k'=>Chk (Nat.beq k' k) (∃es,(0<=n/\X.ig b=g/\gs[j]?=some [.sl es]/\n.toNat<es.length)/\K ⟨opd x++opd i++[.ign b,.knd b],wrT o.dst (.elt2 b g j k n.toNat 0)⟩)
  |none=>False
 |_,_,_=>False
def aLoadG(t:TypeId)(p:Operand)(b g k i j:Nat):Prop :=
 match fO P t,X.kd b with
 |some false,.grid _ _ _ gs none=>Chk (Nat.beq k 1&&Nat.beq j 0) (Side (X.gn b=g/\i<gs.length) (K ⟨opd p++[.gen b,.knd b]++[.ign b],wrT o.dst (.sub b (X.ig b) i)⟩))
 |_,_=>False
def aLoadS(t:TypeId)(p:Operand)(b g i k j c:Nat):Prop :=
 match fO P t,X.kd b with
 |some false,.grid _ _ k' gs none=>Chk (Nat.beq k' k) (∃es e x,(X.ig b=g/\gs[i]?=some [.sl es]/\es[j]?=some e/\e[c]?=some x)/\K ⟨opd p++[.ign b,.knd b],wrT o.dst (.im x)⟩)
 |_,_=>False
def aStoreS(t:TypeId)(p x:Operand)(b g i k j c:Nat):Prop :=
 match szOf P t,jJ (evA X x),X.kd b with
 |some m,some cs,.grid e e' k' gs none=>match fzL X cs with
  |some (xs,[])=>Chk (Nat.beq cs.length m&&Nat.blt 0 m&&Nat.ble (c+m) k&&Nat.beq k' k) (∃es el,(X.ig b=g/\gs[i]?=some [.sl es]/\es[j]?=some el)/\Nf (gs.set i [.sl (es.set j (splice el c xs))]) λr=>K ⟨opd p++opd x++[.ign b,.knd b],(.knd b,.kd (.grid e e' k' r none))::wrT o.dst (.im (.val undef))⟩)
  |_=>False
 |_,_,_=>False
def holeOk(hole:Option Nat)(i:Nat):Prop:=match hole with|none=>True|some h=>h=i
def aStoreG(t:TypeId)(p x:Operand)(b g k i j:Nat):Prop :=
 match szOf P t,evA X x,X.kd b with
 |some m,.osl r gr,.grid e e' k' gs hole=>match X.kd r with
  | .row e2 k2 es=>Chk (Nat.beq m 1&&Nat.beq k 1&&Nat.beq j 0&&Nat.beq e2 e'&&Nat.beq k2 k'&&!Nat.beq r b) (Side (X.gn b=g/\X.gn r=gr/\i<gs.length/\holeOk hole i)
    (Nf (gs.set i [.sl es]) λrr=>K ⟨opd p++opd x++[.gen b,.knd b]++[.ign b,.gen r,.knd r],(.knd r,.kd .dead)::(.ign b,.n (X.ig b+1))::(.knd b,.kd (.grid e e' k' rr none))::wrT o.dst (.im (.val undef))⟩))
  |_=>False
 |_,_,_=>False
def aLenG(x:Operand)(b g:Nat):Prop :=
 match X.kd b with
 | .grid _ _ _ gs none=>Side (X.gn b=g) (Nf gs.length λn=>K ⟨opd x++[.gen b,.knd b],wrT o.dst (vI n)⟩)
 |_=>False
def aLenS(x:Operand)(b g i:Nat):Prop :=
 match X.kd b with
 | .grid _ _ _ gs none=>∃es,(X.ig b=g/\gs[i]?=some [.sl es])/\Nf es.length λn=>K ⟨opd x++[.ign b,.knd b],wrT o.dst (vI n)⟩
 |_=>False
def aIndexA(n:Nat)(et:TypeId)(x i:Operand):Prop :=
 match asInt (evA X i),szOf P et with
 |some (_,j),some m=>match evA X x with
  | .elt b g k p q=>match Nat.beq k 1&&Nat.beq p 0&&Nat.beq q 0&&Nat.beq m 1 with
   |true=>Side (0<=j/\j<n/\X.gn b=g) (K ⟨opd x++opd i++[.gen b],wrT o.dst (.elt b g 1 j.toNat 0)⟩)
   |false=>Side (0<=j/\j<n/\X.gn b=g) (K ⟨opd x++opd i++[.gen b],wrT o.dst (.elt b g k p (q+j.toNat*m))⟩)
  | .im (.ref cs)=>Side (0<=j/\j<n) (K ⟨opd x++opd i,wrT o.dst (.im (.ref (cs.drop (j.toNat*m))))⟩)
  | .own b g p=>Side (0<=j/\j<n/\X.gn b=g) (K ⟨opd x++opd i++[.gen b],wrT o.dst (.own b g (p+j.toNat*m))⟩)
  |_=>False
 |_,_=>False
def aLoadA(t:TypeId)(p:Operand)(b g k i j:Nat):Prop :=
 match X.kd b,szOf P t with
 | .row _ k' es,some m=>Chk (Nat.beq k' 1&&Nat.beq k 1&&Nat.beq i 0&&Nat.beq j 0) (Side (X.gn b=g/\es.length=m) (Nf es.flatten λr=>K ⟨opd p++[.gen b,.knd b],wrT o.dst (.im (.agg r))⟩))
 |_,_=>False
def wholeA(P:Program)(t:TypeId)(k:Nat):Bool:=match intArr P t with
 |some n=>Nat.beq k 1&&Nat.blt 1 n
 |none=>false
def aLenM(x:Operand)(b g:Nat)(l:List (Value×Value)):Prop:=let _:=(o,X,K);False
def mM:Kd->Bool
 | .grid _ _ _ _ _=>true
 |_=>false
def aSliceQ(t:TypeId)(x:Operand)(b g:Nat)(lo:Operand):Prop:=let _:=(P,o,X,K);False
def aSlices(t:TypeId)(x:Operand)(lo hi:Option Operand):Prop :=
 match evA X x with
 | .osl b g=>match lo,hi with
  |some l,none=>match isQue (X.kd b) with
   |true=>aSliceQ P o X K t x b g l
   |false=>aSliceV P o X K t x b g l
  |none,some h=>aSliceT P o X K t x b g h
  |_,_=>False
 |_=>aSlice P o X K t x lo hi
def aIndexes(t:TypeId)(x i:Operand):Prop :=
 match evA X x with
 | .osv b g k m=>aIndexV P o X K t x i b g k m
 | .sub b g j=>aIndexS P o X K t x i b g j
 | .osl b g=>match mM (X.kd b) with
  |true=>aIndexG P o X K t x i b g
  |false=>yY P o X K t x i
 |_=>match arrOf P t with
  |some (n,et)=>aIndexA P o X K n et x i
  |none=>yY P o X K t x i
def aLoads(t:TypeId)(p:Operand):Prop :=
 match evA X p with
 | .elt2 b g i k j c=>aLoadS P o X K t p b g i k j c
 | .elt b g k i j=>match mM (X.kd b) with
  |true=>aLoadG P o X K t p b g k i j
  |false=>match wholeA P t k with
   |true=>aLoadA P o X K t p b g k i j
   |false=>aLoad P o X K t p
 |_=>aLoad P o X K t p
def isStr(P:Program)(t:TypeId):Bool:=match P.underlying t with|some .string=>true|_=>false
def aLen(t:TypeId)(x:Operand):Prop :=
 match V9 P t with
 |some _=>match evA X x with
  | .im (.sl es)=>Nf es.length λn=>K ⟨opd x,wrT o.dst (vI n)⟩
  | .im (.val (.slice _ n _))=>K ⟨opd x,wrT o.dst (vI n)⟩
  | .osl b g=>match esOf (X.kd b) with
   |some es=>Side (X.gn b=g) (Nf es.length λn=>K ⟨opd x++[.gen b,.knd b],wrT o.dst (vI n)⟩)
   |_=>False
  |_=>False
 |none=>match asStr (evA X x) with
  |some s=>Chk (isStr P t) (K ⟨opd x,wrT o.dst (vI s.size)⟩)
  |none=>False
def aLens(t:TypeId)(x:Operand):Prop :=
 match evA X x with
 | .osv b g k _=>match V9 P t with
  |some _=>aLenV o X K x b g k
  |none=>False
 | .sub b g i=>match V9 P t with
  |some _=>aLenS o X K x b g i
  |none=>False
 | .osl b g=>match mM (X.kd b) with
  |true=>match V9 P t with
   |some _=>aLenG o X K x b g
   |none=>False
  |false=>match mapTy P t,X.kd b with
   |some _,.map l=>aLenM o X K x b g l
   |_,_=>aLen P o X K t x
 |_=>aLen P o X K t x
def nM(P:Program)(t:TypeId)(k:Nat):Bool:=match zeroOf P t with|some z=>Nat.beq z.length k|none=>false
def aAppend(t:TypeId)(x y:Operand):Prop :=
 match o.dst,V9 P t with
 |some d,some et=>match szOf P et,byteOf P et,fz X (evA X y) with
  |some k,some by_,some (.sl new,[])=>match evA X x with
   | .im (.val (.slice none 0 0))=>Chk (Nat.blt 0 k&&nM P et k) (Side ((∀e∈new,e.length=k)/\E5 new.length by_)
     (Nf new λr=>K ⟨opd x++opd y++[.gen d],M9 X d (.row et k r)++[(.tmp d,.av (.osl d (X.gn d+1)))]⟩))
   | .osl b g=>match X.kd b with
    | .row et' k' es=>Chk (Nat.blt 0 k&&Nat.beq et' et&&Nat.beq k' k&&nM P et k) (Side (X.gn b=g/\(∀e∈new,e.length=k)/\E5 (es.length+new.length) by_)
      (Nf (es++new) λr=>K ⟨opd x++opd y++[.gen b,.knd b],(.knd b,.kd .dead)::(M9 X b (.row et k r)++[(.tmp d,.av (.osl b (X.gn b+1)))])⟩))
    |_=>False
   | .full es=>Chk (Nat.blt 0 k&&nM P et k) (Side (0<new.length/\(∀e∈es,e.length=k)/\(∀e∈new,e.length=k)/\E5 (es.length+new.length) by_)
     (Nf (es++new) λr=>K ⟨opd x++opd y++[.gen d],M9 X d (.row et k r)++[(.tmp d,.av (.osl d (X.gn d+1)))]⟩))
   |_=>False
  |_,_,_=>False
 |_,_=>False
def aAppendS(t:TypeId)(x y:Operand)(b g i:Nat):Prop:=let _:=(P,o,X,K);False
def aAppendT(t:TypeId)(x y:Operand)(b g i b' g' j:Nat):Prop:=let _:=(P,o,X,K);False
def X3:IV->List IV
 | .agg cs=>cs
 | .any=>[]
 | .val v=>if v.oneCell'=true then [.val v] else []
 |x=>[x]
def partsAt(X:St):Nat->List (Nat×Operand)->Option (List IV×E7)
 |_,[]=>some ([],[])
 |i,(j,x)::l=>if i=j then match fz X (evA X x),partsAt X (i+1) l with|some (v,b),some (vs,bs)=>some (v::vs,b++bs)|_,_=>none else none
def opdL(l:List Operand):List Loc:=l.flatMap opd
def zT(t:TypeId)(len:Nat)(parts:Array (Nat×Operand)):Prop :=
 match o.dst,V9 P t with
 |some d,some et=>match szOf P et,partsAt X 0 parts.toList with
  |some k,some (vs,bs)=>Chk (Nat.beq vs.length len&&Nat.ble (len*k) 65536&&Nat.blt 0 k&&nM P et k&&vs.all λv=>Nat.beq (X3 v).length k)
   (fR X bs (if own.contains d=true then K ⟨opdL (parts.toList.map (·.2))++frd X bs++[.gen d],fwr bs++(M9 X d (.row et k (vs.map X3))++[(.tmp d,.av (.osl d (X.gn d+1)))])⟩
   else if own.contains (9500000+d)=true then K ⟨opdL (parts.toList.map (·.2))++frd X bs,fwr bs++[(.tmp d,.av (.im (.nsl (vs.map X3))))]⟩
   else K ⟨opdL (parts.toList.map (·.2))++frd X bs,fwr bs++[(.tmp d,.av (.im (.sl (vs.map X3))))]⟩))
  |_,_=>False
 |_,_=>False
def aBuildG(t:TypeId)(len:Nat)(parts:Array (Nat×Operand)):Prop:=let _:=(P,o,X,K);False
def aBuildG2(t:TypeId)(len:Nat)(parts:Array (Nat×Operand)):Prop:=let _:=(P,o,X,K);False
def aAppendG(t:TypeId)(x y:Operand)(c gc:Nat):Prop:=let _:=(P,o,X,K);False
def eP{V:Type}(cs:List V):Nat->List V->List V
 |_,[]=>cs
 |i,c::r=>eP (cs.set i c) (i+1) r
def buildA(P:Program)(t:TypeId)(X:St):List (Nat×Operand)->List AV->Option (List AV)
 |[],cs=>some cs
 |(i,x)::l,cs=>match fldOf P t i,jJ (evA X x) with
  |some (off,ft),some vs=>match szOf P ft with|some m=>if(Nat.beq m vs.length&&Nat.ble (off+vs.length) cs.length)=true then buildA P t X l (eP cs off vs) else none|none=>none
  |_,_=>none
def plcOf(P:Program)(t:TypeId):Option (E7):=match P.underlying t with|some (.struct fs)=>fs.toList.mapM (λf=>(P.info? f.type).map λi=>(f.offset,i.size))|_=>none
def aBuild(t:TypeId)(parts:Array (Nat×Operand)):Prop :=
 match zeroOf P t with
 |some z=>match buildA P t X parts.toList (z.map λv=>.im (.val v)) with
  |some cs=>Chk ((plcOf P t).isSome&&z.all (·.oneCell')) (K ⟨opdL (parts.toList.map (·.2)),wrT o.dst (aggA cs)⟩)
  |none=>False
 |none=>False
def buildG(pl:Nat->Option (Nat×Nat))(X:St):List (Nat×Operand)->List AV->Option (List AV)
 |[],cs=>some cs
 |(i,x)::l,cs=>match pl i,jJ (evA X x) with
  |some (off,m),some vs=>if(Nat.beq m vs.length&&Nat.ble (off+vs.length) cs.length)=true then buildG pl X l (eP cs off vs) else none
  |_,_=>none
def aBuildR(t et:TypeId)(parts:Array (Nat×Operand)):Prop :=
 match zeroOf P t,szOf P et with
 |some z,some m=>match buildG (λi=>some (i*m,m)) X parts.toList (z.map λv=>.im (.val v)) with
  |some cs=>Chk (z.all (·.oneCell')) (K ⟨opdL (parts.toList.map (·.2)),wrT o.dst (aggA cs)⟩)
  |none=>False
 |_,_=>False
def aBuilds(t:TypeId)(parts:Array (Nat×Operand)):Prop :=
 match arrOf P t with
 |some (_,et)=>aBuildR P o X K t et parts
 |none=>aBuild P o X K t parts
def aIndexX(t:TypeId)(x i:Operand):Prop :=
 match arrOf P t,aggCs (evA X x),asInt (evA X i) with
 |some (n,et),some cs,some (_,j)=>match fO P et,szOf P et with
  |some true,some m=>Chk (Nat.beq n 2&&Nat.ble (m+m) cs.length) (Both (decide (j=0)) (K ⟨opd x++opd i,wrT o.dst (aggA (cs.take m))⟩) (Side (j=1) (K ⟨opd x++opd i,wrT o.dst (aggA ((cs.drop m).take m))⟩)))
  |_,_=>False
 |_,_,_=>False
def aExtract(x:Operand)(i:Nat):Prop :=
 match evA X x with
 | .tup l=>match l[i]? with
  |some v=>K ⟨opd x,wrT o.dst v⟩
  |none=>False
 |_=>False
def isBl(P:Program)(t:TypeId):Bool:=match P.underlying t with|some .bool=>true|_=>false
def isShr:BinOp->Bool
 | .shr=>true
 |_=>false
def isAdd:BinOp->Bool
 | .add=>true
 |_=>false
def aBin(op:BinOp)(t:TypeId)(x y:Operand):Prop :=
 match isShr op with
 |true=>match asInt (evA X x),asInt (evA X y),P.underlying t with
  |some (k,a),some (_,b),some (.int k')=>Chk (decide (k=k')&&decide (k=.u64)) (Side (rng k (a / 2^b.toNat)/\0<=a/\0<=b/\b<=62) (K ⟨opd x++opd y,wrT o.dst (.im (.val (.int k (a / 2^b.toNat))))⟩))
  |_,_,_=>False
 |false=>match asStr (evA X x),asStr (evA X y) with
 |some a,some b=>Chk (isStr P t&&isAdd op) (Side (a.size+b.size<=9223372036854775807) (K ⟨opd x++opd y,wrT o.dst (.im (.val (.string (a++b))))⟩))
 |_,_=>match asInt (evA X x),asInt (evA X y) with
 |some (k,a),some (k',b)=>Chk (decide (k=k')) (match op with
  | .add=>dI k (a+b) λn=>K ⟨opd x++opd y,wrT o.dst (.im (.val (.int k n)))⟩
  | .sub=>dI k (a-b) λn=>K ⟨opd x++opd y,wrT o.dst (.im (.val (.int k n)))⟩
  | .mul=>dI k (a*b) λn=>K ⟨opd x++opd y,wrT o.dst (.im (.val (.int k n)))⟩
  | .quo=>Side (rng k (a / b)/\0<=a/\1<=b) (K ⟨opd x++opd y,wrT o.dst (.im (.val (.int k (a / b))))⟩)
  | .rem=>Side (rng k (a%b)/\0<=a/\1<=b) (K ⟨opd x++opd y,wrT o.dst (.im (.val (.int k (a%b))))⟩)
  | .xor=>K ⟨opd x++opd y,wrT o.dst (.im (.val (.int k (xorK k a b))))⟩
  | .eql=>K ⟨opd x++opd y,wrT o.dst (vB (decide (a=b)))⟩
  | .neq=>K ⟨opd x++opd y,wrT o.dst (vB (decide (a≠b)))⟩
  | .lss=>K ⟨opd x++opd y,wrT o.dst (vB (decide (a<b)))⟩
  | .leq=>K ⟨opd x++opd y,wrT o.dst (vB (decide (a<=b)))⟩
  | .gtr=>K ⟨opd x++opd y,wrT o.dst (vB (decide (b<a)))⟩
  | .geq=>K ⟨opd x++opd y,wrT o.dst (vB (decide (b<=a)))⟩
  |_=>False)
 |_,_=>match asBool (evA X x),asBool (evA X y) with
  |some a,some b=>match op with
   | .eql=>Chk (isBl P t) (K ⟨opd x++opd y,wrT o.dst (vB (a==b))⟩)
   | .neq=>Chk (isBl P t) (K ⟨opd x++opd y,wrT o.dst (vB (!(a==b)))⟩)
   |_=>False
  |_,_=>False
def eqCs:List AV->List AV->Option Bool
 |[],[]=>some true
 |x::xs,y::ys=>match asInt x,asInt y,eqCs xs ys with
  |some (k,a),some (k',b),some r=>match decide (k=k') with
   |true=>some (decide (a=b)&&r)
   |false=>none
  |_,_,_=>none
 |_,_=>none
def intF(P:Program)(f:Field)(i:Nat):Bool:=decide (f.name≠"_")&&Nat.beq f.offset i&&(match P.underlying f.type with|some (.int _)=>true|_=>false)
def intFs(P:Program):Nat->List Field->Bool
 |_,[]=>true
 |i,f::fs=>intF P f i&&intFs P (i+1) fs
def eqT(P:Program)(t:TypeId)(n:Nat):Bool:=match P.underlying t with
 |some (.struct fs)=>Nat.beq fs.toList.length n&&intFs P 0 fs.toList&&!P.stoodInHeld t&&!P.eqGuardType P.depth t
 |_=>false
def aBinS(op:BinOp)(t:TypeId)(x y:Operand):Prop :=
 match aggCs (evA X x),aggCs (evA X y) with
 |some xs,some ys=>match eqCs xs ys with
  |some r=>Side (eqT P t xs.length=true) (match op with
   | .eql=>Nf r λr=>K ⟨opd x++opd y,wrT o.dst (vB r)⟩
   | .neq=>Nf r λr=>K ⟨opd x++opd y,wrT o.dst (vB (!r))⟩
   |_=>False)
  |none=>False
 |_,_=>False
def isPt(P:Program)(t:TypeId):Bool:=match P.underlying t with|some (.pointer _)=>true|_=>false
def nilP:AV->Option Bool
 | .im (.val (.pointer none))=>some true
 | .im (.val (.pointer (some _)))=>some false
 | .im (.ref _)=>some false
 |_=>none
def aBinN(op:BinOp)(x y:Operand):Prop :=
 match nilP (evA X x),nilP (evA X y) with
 |some b,some true=>match op with
  | .eql=>K ⟨opd x++opd y,wrT o.dst (vB b)⟩
  | .neq=>K ⟨opd x++opd y,wrT o.dst (vB (!b))⟩
  |_=>False
 |_,_=>False
def isSl(P:Program)(t:TypeId):Bool:=match P.underlying t with|some (.slice _)=>true|_=>false
def nilS(x:AV)(b:Bool):Prop:=match x with
 | .im v=>(b=true/\v=.val (.slice none 0 0))\/(b=false/\∃es,v=.nsl es)
 |_=>False
def isNilC:AV->Bool
 | .im (.val (.slice none 0 0))=>true
 |_=>false
def aBinZ(op:BinOp)(x y:Operand):Prop :=
 match isNilC (evA X y) with
 |true=>∃b,nilS (evA X x) b/\(match op with
  | .eql=>K ⟨opd x++opd y,wrT o.dst (vB b)⟩
  | .neq=>K ⟨opd x++opd y,wrT o.dst (vB (!b))⟩
  |_=>False)
 |false=>False
def aBins(op:BinOp)(t:TypeId)(x y:Operand):Prop :=
 match fO P t with
 |some true=>aBinS P o X K op t x y
 |_=>match isPt P t with
  |true=>aBinN o X K op x y
  |false=>match isSl P t with
   |true=>aBinZ o X K op x y
   |false=>aBin P o X K op t x y
def aUn(op:UnOp)(x:Operand):Prop :=
 match op,asBool (evA X x) with
 | .not,some b=>K ⟨opd x,wrT o.dst (vB (!b))⟩
 | .neg,_=>match asInt (evA X x) with
  |some (k,n)=>dI k (0-n) λm=>K ⟨opd x,wrT o.dst (.im (.val (.int k m)))⟩
  |none=>False
 |_,_=>False
def aConvert(dst:TypeId)(x:Operand):Prop :=
 match asInt (evA X x),P.underlying dst with
 |some (_,n),some (.int k)=>Side (rng k n) (K ⟨opd x,wrT o.dst (.im (.val (.int k n)))⟩)
 |_,_=>False
def aMax(x y:Operand):Prop :=
 match asInt (evA X x),asInt (evA X y) with
 |some (k,a),some (k',b)=>Chk (decide (k=k')) (K ⟨opd x++opd y,wrT o.dst (.im (.val (.int k (max a b))))⟩)
 |_,_=>False
def aMin(x y:Operand):Prop :=
 match asInt (evA X x),asInt (evA X y) with
 |some (k,a),some (k',b)=>Chk (decide (k=k')) (K ⟨opd x++opd y,wrT o.dst (.im (.val (.int k (min a b))))⟩)
 |_,_=>False
def aMin3(x y z:Operand):Prop :=
 match asInt (evA X x),asInt (evA X y),asInt (evA X z) with
 |some (k,a),some (k',b),some (k'',c)=>Chk (decide (k=k')&&decide (k=k'')) (K ⟨opd x++opd y++opd z,wrT o.dst (.im (.val (.int k (min (min a b) c))))⟩)
 |_,_,_=>False
variable (C:FuncId->List Arg->Rs->Prop)
def ndB:List Nat->List Nat->Bool
 |[],_=>true
 |a::l,bs=>!(l.contains a)&&!(bs.contains a)&&ndB l bs
def fzS(X:St)(nn:Bool)(cs:List AV):Option (List IV×E7):=match nn with
 |false=>fzL X cs
 |true=>match cs with
  |[.im (.nsl ys)]=>some ([.nsl ys],[])
  |[.osl c g]=>match X.kd c with
   | .row _ _ ys=>some ([.nsl ys],[(c,g)])
   |_=>none
  |_=>none
def nslS(X:St)(nn:Bool)(cs:List AV)(A:Prop):Prop:=match nn with
 |false=>A
 |true=>match cs with
  |[.osl c _]=>match X.kd c with
   | .row _ _ ys=>Side (0<ys.length) A
   |_=>A
  |_=>A
def aStoreE(t:TypeId)(p x:Operand)(b g k i j:Nat):Prop :=
 match szOf P t,jJ (evA X x),X.kd b with
 |some m,some cs,.row et k' es=>match fzS X (own.contains (9600000+b)) cs with
  |some (xs,bs)=>Chk (Nat.beq cs.length m&&Nat.blt 0 m&&Nat.ble (j+m) k&&Nat.beq k' k&&ndB [b] (bs.map (·.1)))
   (fR X ((b,g)::bs) (∃e,es[i]?=some e/\nslS X (own.contains (9600000+b)) cs (Nf (es.set i (splice e j xs)) λr=>K ⟨opd p++opd x++frd X ((b,g)::bs),fwr bs++((.knd b,.kd (.row et k r))::wrT o.dst (.im (.val undef)))⟩)))
  |none=>False
 |_,_,_=>False
def nilF:List Nat->Nat->Option (Nat×Nat)
 |[],_=>none
 |x::l,key=>match Nat.beq (Nat.div x 1000000000) key with
  |true=>some (Nat.div (Nat.mod x 1000000000) 100,Nat.mod x 100)
  |false=>nilF l key
def nilH(own:List Nat)(d i j:Nat):Option (Nat×Nat):=nilF own (Nat.succ (Nat.add (Nat.mul (Nat.add (Nat.mul d 16) i) 64) j))
def nilRow(x:IV)(e k:Nat):Option Kd:=match x with
 | .val (.slice none 0 0)=>match k with
  |0=>none
  |k+1=>some (.row e (k+1) [])
 |_=>none
def objG(X:St)(p:Nat):Option Kd:=match X.kd p with
 | .dead=>none
 | .box _ _=>none
 | .bag _ _ _ _ _=>none
 | .mapI _ _=>none
 | .que _ _ _=>none
 |k=>some k
def cellG0(X:St)(own:List Nat)(d i j:Nat):AV->Option (Oc×E7)
 | .im x=>match nilH own d i j with
  |some (e,k)=>match nilRow x e k with
   |some q=>some (.ow q,[])
   |none=>none
  |none=>some (.im (nz1 x),[])
 | .osl p g=>match objG X p with
  |some k=>some (.ow k,[(p,g)])
  |none=>none
 |_=>none
def holeH(own:List Nat)(d i j:Nat):Bool:=own.contains (Nat.add 1000000000000000000 (Nat.add (Nat.mul (Nat.add (Nat.mul d 16) i) 64) j))
def cellG(X:St)(own:List Nat)(d i j:Nat)(a:AV):Option (Oc×E7):=match holeH own d i j with
 |true=>some (.im .any,[])
 |false=>cellG0 X own d i j a
def isAny:Oc->Bool
 | .im .any=>true
 |_=>false
def fillC(v:Value)(h:Bool)(c:Oc):Oc:=match h with
 |true=>match isAny c with
  |true=>.im (.ex v)
  |false=>c
 |false=>c
def fillCs(h:Nat->Bool)(V:Nat->Value):Nat->List Oc->List Oc
 |_,[]=>[]
 |j,c::l=>fillC (V j) (h j) c::fillCs h V (j+1) l
def fillA(own:List Nat)(d i:Nat)(V:Nat->Nat->Value):Arg->Arg
 | .box t cs=>.box t (fillCs (holeH own d i) (V i) 0 cs)
 |x=>x
def fillX(own:List Nat)(d:Nat)(V:Nat->Nat->Value):Nat->List Arg->List Arg
 |_,[]=>[]
 |i,x::l=>fillA own d i V x::fillX own d V (i+1) l
def fillY(own:List Nat)(d:Nat)(V:Nat->Nat->Value):E7->List Arg->List Arg
 |[],l=>l
 |_,[]=>[]
 |(_,i)::bx,x::l=>fillA own d i V x::fillY own d V bx l
def hlC(own:List Nat)(d i b:Nat):Nat->List Oc->E7
 |_,[]=>[]
 |j,c::l=>match holeH own d i j,isAny c with
  |true,true=>(b,j)::hlC own d i b (j+1) l
  |_,_=>hlC own d i b (j+1) l
def hlY(own:List Nat)(d:Nat):E7->List Arg->E7
 |(b,i)::bx,y::l=>match y with
  | .box _ cs=>hlC own d i b 0 cs++hlY own d bx l
  |_=>hlY own d bx l
 |_,_=>[]
def memB(b:Nat):List Nat->Bool
 |[]=>false
 |x::l=>match Nat.beq x b with
  |true=>true
  |false=>memB b l
def memC(b j:Nat):E7->Bool
 |[]=>false
 |x::l=>match Nat.beq x.1 b&&Nat.beq x.2 j with
  |true=>true
  |false=>memC b j l
def keepL(bs:List Nat)(hs:E7):Loc->Bool
 | .knd b=>!memB b bs
 | .cel b j=>!memC b j hs
 |_=>true
def mO(X:St)(own:List Nat)(d i:Nat):Nat->List AV->Option (List Oc×E7)
 |_,[]=>some ([],[])
 |j,c::l=>match cellG X own d i j c,mO X own d i (j+1) l with
  |some (x,gs),some (xs,gs')=>some (x::xs,gs++gs')
  |_,_=>none
def lentG(own:List Nat)(d i:Nat)(k:Kd):Arg:=match own.contains (2000000+(1000*(d+1)+i)) with
 |true=>.lent k
 |false=>.ow k
def argG(X:St)(own:List Nat)(d i:Nat)(a:AV):Option (Arg×E7×E7):=match own.contains (1000*(d+1)+i) with
 |true=>match a with
  | .osl b g=>match objG X b with
   |some k=>some (lentG own d i k,[],[(b,g)])
   |none=>none
  | .own b g 0=>match X.kd b with
   | .box t _=>match mO X own d i 0 (eJ X b) with
    |some (cs,gs)=>some (.box t cs,[],(b,g)::gs)
    |none=>none
   |_=>none
  | .im x=>match nilH own d i 63 with
   |some (e,k)=>match nilRow x e k with
    |some q=>some (.ow q,[],[])
    |none=>none
   |none=>none
  |_=>none
 |false=>match own.contains (4000000+(1000*(d+1)+i)) with
  |true=>match a with
   | .im x=>some (.im x,[],[])
   |_=>none
  |false=>match fz X a with
   |some (x,bs)=>some (.im x,bs,[])
   |none=>none
def aI(X:St)(own:List Nat)(d:Nat):Nat->List AV->Option (List Arg×E7×E7)
 |_,[]=>some ([],[],[])
 |i,a::l=>match argG X own d i a,aI X own d (i+1) l with
  |some (x,bs,gs),some (xs,bs',gs')=>some (x::xs,bs++bs',gs++gs')
  |_,_=>none
def bxG(own:List Nat)(d:Nat):Nat->List AV->E7
 |_,[]=>[]
 |i,a::l=>match own.contains (1000*(d+1)+i) with
  |true=>match a with
   | .own b _ _=>(b,i)::bxG own d (i+1) l
   | .osl b _=>match own.contains (2000000+(1000*(d+1)+i)) with
    |true=>(b,i)::bxG own d (i+1) l
    |false=>bxG own d (i+1) l
   |_=>bxG own d (i+1) l
  |false=>bxG own d (i+1) l
def cellNm(X:St)(b i j:Nat):Nat:=match X.ce b j with
 | .osl p _=>p
 |_=>nmC i j
inductive LK where
 |box (t:TypeId) (al:List AV)
 |obj (k:Kd)
def flatK:Kd->Bool
 | .row _ _ _=>true
 | .map _=>true
 |_=>false
def bxPl(X:St):E7->List Arg->Option (List (Nat×LK)×List (Nat×Kd))
 |[],[]=>some ([],[])
 |(b,i)::bx,.box t cs::ys=>match I5 X (cellNm X b i) 0 cs,bxPl X bx ys with
  |(al,ss),some (l,ss')=>some ((b,.box t al)::l,ss++ss')
  |_,none=>none
 |(b,_)::bx,.lent k::ys=>match flatK k,bxPl X bx ys with
  |true,some (l,ss')=>some ((b,.obj k)::l,ss')
  |_,_=>none
 |_,_=>none
def lkWr(b:Nat):LK->List (Loc×Ct)
 | .box t al=>(.knd b,.kd (.box t al.length))::P8 b 0 al
 | .obj k=>[(.knd b,.kd k)]
def bxWr:List (Nat×LK)->List (Loc×Ct)
 |[]=>[]
 |(b,x)::l=>lkWr b x++bxWr l
def resV(tp:Bool)(al:List AV):Option AV:=match tp with
 |true=>some (.tup al)
 |false=>match al with
  |[a]=>some a
  |_=>none
def Q6(tp:Bool)(d i:Nat):Nat:=match tp with
 |true=>nmR d i
 |false=>d
def aCall(f:Operand)(args:List Operand):Prop :=
 match o.dst,(match evA X f with|.im (.fn g caps)=>some (g,caps.map AV.im)|.fn g caps=>some (g,caps)|_=>none) with
 |some d,some (g,caps)=>match aI X own d 0 (args.map (evA X)++caps) with
  |some (xs,bs,gs)=>Chk (ndB (gs.map (·.1)) (bs.map (·.1))) (fR X (bs++gs) (∃r,C g xs r/\match r with
   | .mk tp l ys=>match I5 X (Q6 tp d) 0 l,bxPl X (bxG own d 0 (args.map (evA X)++caps)) ys with
    |(al,ss),some (bl,ss')=>match resV tp al with
     |some v=>Chk (ndB ((ss++ss').map (·.1)) (bl.map (·.1))) (match own.contains (500000+d) with
      |true=>Side (flatRs (.mk tp l ys)) (K ⟨opd f++opdL args++frd X (bs++gs)++gU (ss++ss'),fwr gs++(K9 X (ss++ss')++(bxWr bl++[(.tmp d,.av v)]))⟩)
      |false=>K ⟨opd f++opdL args++frd X (bs++gs)++gU (ss++ss'),fwr bs++(fwr gs++(K9 X (ss++ss')++(bxWr bl++[(.tmp d,.av v)])))⟩)
     |none=>False
    |_,none=>False))
  |none=>False
 |_,_=>False
def aCallA(f:Operand)(args:List Operand):Prop:=let _:=(own,o,X,K,C);False
def aCallR(f:Operand)(args:List Operand):Prop:=let _:=(own,o,X,K,C);False
def bxN:List (Nat×LK)->List Nat
 |[]=>[]
 |(b,.box _ _)::l=>b::bxN l
 |(_,.obj _)::l=>bxN l
def sameBx(X:St):List (Nat×LK)->Bool
 |[]=>true
 |(b,.box t al)::l=>(match X.kd b with|.box t' m=>Nat.beq t' t&&Nat.beq m al.length|_=>false)&&sameBx X l
 |(_,.obj _)::l=>sameBx X l
def keepW(bs:List Nat)(hs:E7):List (Loc×Ct)->List (Loc×Ct)
 |[]=>[]
 |p::l=>match keepL bs hs p.1 with
  |true=>p::keepW bs hs l
  |false=>keepW bs hs l
def aCallH(f:Operand)(args:List Operand):Prop :=
 match o.dst,(match evA X f with|.im (.fn g caps)=>some (g,caps.map AV.im)|.fn g caps=>some (g,caps)|_=>none) with
 |some d,some (g,caps)=>match aI X own d 0 (args.map (evA X)++caps) with
  |some (xs,bs,gs)=>Chk (ndB (gs.map (·.1)) (bs.map (·.1))) (fR X (bs++gs) (∃(tp:Bool) (l:List Oc) (ys:List Arg),(∀V:Nat->Nat->Value,C g (fillX own d V 0 xs) (.mk tp l (fillY own d V (bxG own d 0 (args.map (evA X)++caps)) ys))) /\
   match I5 X (Q6 tp d) 0 l,bxPl X (bxG own d 0 (args.map (evA X)++caps)) ys with
    |(al,ss),some (bl,ss')=>match resV tp al with
     |some v=>Chk (ndB ((ss++ss').map (·.1)) (bl.map (·.1))&&sameBx X bl) (K ⟨opd f++opdL args++frd X (bs++gs)++gU (ss++ss'),
       keepW (bxN bl) (hlY own d (bxG own d 0 (args.map (evA X)++caps)) ys) (fwr bs++(fwr gs++(K9 X (ss++ss')++bxWr bl)))++[(.tmp d,.av v)]⟩)
     |none=>False
    |_,none=>False))
  |none=>False
 |_,_=>False
def aNilCheck(x:Operand):Prop :=
 match evA X x with
 | .own b g i=>Side (X.gn b=g) (K ⟨opd x++[.gen b],wrT o.dst (.own b g i)⟩)
 | .im (.ref cs)=>K ⟨opd x,wrT o.dst (.im (.ref cs))⟩
 | .im (.fn f caps)=>K ⟨opd x,wrT o.dst (.im (.fn f caps))⟩
 | .fn f caps=>K ⟨opd x,wrT o.dst (.fn f caps)⟩
 |_=>False
def CV(t:TypeId)(len cap:Operand):Prop :=
 match o.dst,V9 P t with
 |some d,some et=>match asInt (evA X len),asInt (evA X cap),szOf P et,zeroOf P et,byteOf P et with
  |some (.i64,l),some (.i64,c),some k,some z,some by_=>Chk (Nat.blt 0 k&&nM P et k&&z.all (·.oneCell')) (Side (0<=l/\l<=c/\E5 c.toNat by_) (match own.contains (600000+d) with
   |true=>match V9 P et with
    |some e'=>match szOf P e' with
     |some k'=>Chk (Nat.beq k 1&&(match z with|[.slice none 0 0]=>true|_=>false)&&Nat.blt 0 k') (Nf (List.replicate l.toNat [IV.sl []]) λr=>K ⟨opd len++opd cap++[.gen d,.ign d],X4 X d (.grid et e' k' r none)++[(.tmp d,.av (.osl d (X.gn d+1)))]⟩)
     |none=>False
    |none=>False
   |false=>match own.contains (6000000+d) with
    |true=>Nf (List.replicate l.toNat (z.map λv=>nz1 (.val v))) λr=>K ⟨opd len++opd cap,[(.tmp d,.av (.im (.sl r)))]⟩
    |false=>Nf (List.replicate l.toNat (z.map λv=>mkZ own d v)) λr=>K ⟨opd len++opd cap++[.gen d],M9 X d (.row et k r)++[(.tmp d,.av (.osl d (X.gn d+1)))]⟩))
  |_,_,_,_,_=>False
 |_,_=>False
def keyD(P:Program)(kt:TypeId):Option TypeDesc:=match P.underlying kt with
 |some (.int k)=>some (.int k)
 |some .string=>some .string
 |some .bool=>some .bool
 |_=>none
def findV(D:TypeDesc)(k:Value):List (Value×Value)->Option (Option Value)
 |[]=>some none
 |p::l=>match Instr.sameNow D k p.1 with
  |some true=>some (some p.2)
  |some false=>findV D k l
  |none=>none
def setV(D:TypeDesc)(k v:Value):List (Value×Value)->Option (List (Value×Value))
 |[]=>some [(k,v)]
 |p::l=>match Instr.sameNow D k p.1 with
  |some true=>some ((k,v)::l)
  |some false=>(setV D k v l).map (p::·)
  |none=>none
def asVal:AV->Option Value
 | .im (.val v)=>some v
 |_=>none
def zeroV(P:Program)(t:TypeId):Option Value:=match P.info? t with|some i=>i.zero|none=>none
def aMakeMap(t:TypeId)(r:Option Operand):Prop :=
 match o.dst,r with
 |some d,none=>K ⟨[.gen d],M9 X d (.map [])++[(.tmp d,.av (.osl d (X.gn d+1)))]⟩
 |_,_=>False
def aLookup(t:TypeId)(x i:Operand)(ok:Bool):Prop :=
 match mapTy P t,evA X x,asVal (evA X i) with
 |some (kt,et),.osl b g,some kv=>match X.kd b,keyD P kt,zeroV P et with
  | .map l,some D,some z=>Side (X.gn b=g) (∃r,findV D kv l=some r/\Nf (r.getD z) λv=>match ok with
   |true=>Nf r.isSome λis=>K ⟨opd x++opd i++[.gen b,.knd b],wrT o.dst (.tup [.im (.val v),vB is])⟩
   |false=>K ⟨opd x++opd i++[.gen b,.knd b],wrT o.dst (.im (.val v))⟩)
  |_,_,_=>False
 |_,_,_=>False
def keyArr(P:Program)(t:TypeId):Option Nat:=match mapTy P t with|some (k,_)=>intArr P k|none=>none
def aLookupA(n:Nat)(t:TypeId)(x i:Operand)(ok:Bool):Prop:=let _:=(P,o,X,K);False
def zq26(n:Nat)(t:TypeId)(x i y:Operand):Prop:=let _:=(P,o,X,K);False
def CX(t:TypeId)(x i y:Operand):Prop :=
 match mapTy P t,evA X x,asVal (evA X i),asVal (evA X y) with
 |some (kt,_),.osl b g,some kv,some v=>match X.kd b,keyD P kt with
  | .map l,some D=>Side (X.gn b=g) (∃l',setV D kv v l=some l'/\K ⟨opd x++opd i++opd y++[.gen b,.knd b],(.knd b,.kd (.map l'))::wrT o.dst (.im (.val undef))⟩)
  |_,_=>False
 |_,_,_,_=>False
def aDelete(t:TypeId)(x i:Operand):Prop:=let _:=(P,o,X,K);False
def capF(X:St)(own:List Nat):List Operand->Option (List AV×E7×List (Nat×IV))
 |[]=>some ([],[],[])
 |x::l=>match capF X own l with
  |some (vs,bs,ws)=>match x with
   | .tmp t=>match own.contains (800000+t) with
    |true=>match fz2 X (X.av t) with
     |some (y,b)=>some (.im y::vs,b++bs,(t,y)::ws)
     |none=>none
    |false=>some (X.av t::vs,bs,ws)
   |x=>some (evA X x::vs,bs,ws)
  |none=>none
def wrI(ws:List (Nat×IV)):List (Loc×Ct):=ws.map λp=>(.tmp p.1,.av (.im p.2))
def aMakeFunc(fn:Fn)(first captured:Array Operand):Prop :=
 match fn with
 | .func g=>match capF X own captured.toList with
  |some (vs,bs,ws)=>Chk first.isEmpty (fR X bs (K ⟨opdL captured.toList++frd X bs,fwr bs++(wrI ws++wrT o.dst (.fn g vs))⟩))
  |none=>False
 |_=>False
def aBuiltin(b:Builtin)(args:List Operand)(ts:List TypeId):Prop :=
 match b with
 | .len=>match args with
  |[x]=>match ts with
   |t::_=>aLens P o X K t x
   |[]=>False
  |_=>False
 | .append=>match args with
  |[x,y]=>match ts with
   |[t,t']=>Chk (Nat.beq t' t) (match evA X x with
    | .sub b g i=>match evA X y with
     | .sub b' g' j=>aAppendT P o X K t x y b g i b' g' j
     |_=>aAppendS P o X K t x y b g i
    |_=>match evA X y with
     | .osl c gc=>aAppendG P o X K t x y c gc
     |_=>aAppend P o X K t x y)
   |_=>False
  |_=>False
 | .max=>match args with
  |[x,y]=>aMax o X K x y
  |_=>False
 | .min=>match args with
  |[x,y]=>aMin o X K x y
  |[x,y,z]=>aMin3 o X K x y z
  |_=>False
 | .clear=>match args,ts with
  |[x],t::_=>aClear P o X K t x
  |_,_=>False
 | .copy=>match args,ts with
  |[x,y],[t,_]=>aCopy P o X K t x y
  |_,_=>False
 | .delete=>match args,ts with
  |[x,y],[t,_]=>aDelete P o X K t x y
  |_,_=>False
 |_=>False
def aCalls(c:Call):Prop :=
 match c.callee with
 | .builtin b=>aBuiltin P o X K b c.args.toList c.argTypes.toList
 | .value f=>match o.dst with
  |some d=>match own.contains (900000+d) with
   |true=>aCallH own o X K C f c.args.toList
   |false=>match own.contains (8000000+d) with
    |true=>match own.contains (8700000+d) with
     |true=>aCallR own o X K C f c.args.toList
     |false=>aCallA own o X K C f c.args.toList
    |false=>aCall own o X K C f c.args.toList
  |none=>False
 |_=>False
def aMoves(x:Operand):Prop :=
 match o.dst with
 |some d=>match own.contains (8000000+d) with
  |true=>match fz X (evA X x) with
   |some (y,bs)=>fR X bs (K ⟨opd x++frd X bs,fwr bs++[(.tmp d,.av (.im y))]⟩)
   |none=>False
  |false=>K ⟨opd x,[(.tmp d,.av (evA X x))]⟩
 |none=>K ⟨opd x,[]⟩
def aOp:Prop :=
 match o.op with
 | .move x|.assign x=>aMoves own o X K x
 | .pick c a b=>aPick o X K c a b
 | .load t p=>aLoads P o X K t p
 | .store t p x=>match evA X p with
  | .elt b g k i j=>match mM (X.kd b) with
   |true=>aStoreG P o X K t p x b g k i j
   |false=>aStoreE P own o X K t p x b g k i j
  | .elt2 b g i k j c=>aStoreS P o X K t p x b g i k j c
  |_=>aStore P o X K t p x
 | .box t x=>aBox own o X K t x
 | .alloc t=>aAllocs P o X K t
 | .fieldAddr t p f=>DN P o X K t p f
 | .field t x f=>aField P o X K t x f
 | .indexAddr t x i=>aIndexes P o X K t x i
 | .slice t x lo hi mx=>match mx with
  |none=>aSlices P o X K t x lo hi
  |some m=>aSlice3 P o X K t x lo hi m
 | .build t parts=>aBuilds P o X K t parts
 | .index t x i=>aIndexX P o X K t x i
 | .buildSlice t len parts=>match o.dst with
  |some d=>match own.contains (9000000+d) with
   |true=>match Nat.beq len 2 with
    |true=>aBuildG2 P o X K t len parts
    |false=>aBuildG P o X K t len parts
   |false=>zT P own o X K t len parts
  |none=>False
 | .extract x i=>aExtract o X K x i
 | .binOp op t x y _=>aBins P o X K op t x y
 | .unOp op _ x=>aUn o X K op x
 | .convert src dst x=>Chk (P.underlying src).isSome (aConvert P o X K dst x)
 | .makeFunc fn first captured=>aMakeFunc own o X K fn first captured
 | .nilCheck x=>aNilCheck o X K x
 | .makeSlice t len cap=>CV P own o X K t len cap
 | .makeMap t r=>aMakeMap o X K t r
 | .lookup t x i ok=>match keyArr P t with
  |some n=>aLookupA P o X K n t x i ok
  |none=>aLookup P o X K t x i ok
 | .mapUpdate t x i y=>match keyArr P t with
  |some n=>zq26 P o X K n t x i y
  |none=>CX P o X K t x i y
 | .call c=>aCalls P own o X K C c
 |_=>False
end
def J3(n:Nat)(o:Oper):Bool:=match o.dst with|some d=>decide (d<n)|none=>true
def notBool:Value->Bool
 | .bool _=>false
 |_=>true
def aGuard(P:Program)(C:FuncId->List Arg->Rs->Prop)(n:Nat)(own:List Nat)(ops:List Oper)(o:Oper)(X:St)(K:Fx->Prop):Prop :=
 Chk (J3 n o) (match o.guard with
 |none=>aOp P own o X K C
 |some (j,want)=>match (ops[j]?).bind (·.dst) with
  |some t=>match asBool (X.av t) with
   |some b=>Both (b==want) (aOp P own o X (λfx=>K ⟨.tmp t::fx.rd,fx.wr⟩) C) (K ⟨[.tmp t],wrT o.dst (.im (.val undef))⟩)
   |none=>match X.av t with
    | .im (.val v)=>Chk (notBool v) (K ⟨[.tmp t],wrT o.dst (.im (.val undef))⟩)
    |_=>False
  |none=>False)
def frcN{V:Sort _}(n:Nat)(K:Nat->V):V:=match n with
 |0=>K 0
 |m+1=>K (m+1)
def frcM{V:Sort _}:Nat->Nat->(Nat->V)->V
 |0,a,K=>K a
 |m+1,a,K=>frcM m (a+1) K
def frcL{V:Sort _}(l:Loc)(K:Loc->V):V:=match l with
 | .tmp t=>frcN t λt=>K (.tmp t)
 | .gen t=>frcN t λt=>K (.gen t)
 | .ign t=>frcN t λt=>K (.ign t)
 | .knd t=>frcN t λt=>K (.knd t)
 | .cel t i=>frcN t λt=>frcN i λi=>K (.cel t i)
def frcA{V:Sort _}(a:AV)(K:AV->V):V:=match a with
 | .im x=>K (.im x)
 | .own o g i=>frcN o λo=>frcN i λi=>K (.own o g i)
 | .osl o g=>frcN o λo=>K (.osl o g)
 | .elt o g k i j=>frcN o λo=>frcN k λk=>frcN j λj=>K (.elt o g k i j)
 | .sub o g i=>frcN o λo=>K (.sub o g i)
 | .elt2 o g i k j c=>frcN o λo=>frcN k λk=>frcN c λc=>K (.elt2 o g i k j c)
 | .osv o g k m=>K (.osv o g k m)
 | .full es=>K (.full es)
 | .fn f caps=>K (.fn f caps)
 | .agg cs=>K (.agg cs)
 | .tup cs=>K (.tup cs)
def frcC{V:Sort _}(c:Ct)(K:Ct->V):V:=match c with
 | .av a=>frcA a λa=>K (.av a)
 | .n g=>K (.n g)
 | .kd k=>match k with
  | .dead=>K (.kd .dead)
  | .box t m=>frcM m 0 λm=>K (.kd (.box t m))
  | .row e k es=>K (.kd (.row e k es))
  | .grid e e' k gs hole=>K (.kd (.grid e e' k gs hole))
  | .map l=>K (.kd (.map l))
  | .bag t e k l hole=>K (.kd (.bag t e k l hole))
  | .mapI left cur=>K (.kd (.mapI left cur))
  | .que e k es=>K (.kd (.que e k es))
def frcN_eq{V:Sort _}(n:Nat)(K:Nat->V):frcN n K=K n:=by cases n<;>rfl
def frcM_eq{V:Sort _}(n a:Nat)(K:Nat->V):frcM n a K=K (a+n):=by
 induction n generalizing a with
 |zero=>rfl
 |succ n ih=>rw[frcM,ih];congr 1;omega
def frcL_eq{V:Sort _}(l:Loc)(K:Loc->V):frcL l K=K l:=by cases l<;>simp only[frcL,frcN_eq]
def frcA_eq{V:Sort _}(l:AV)(K:AV->V):frcA l K=K l:=by cases l<;>simp only[frcA,frcN_eq]
def frcC_eq{V:Sort _}(l:Ct)(K:Ct->V):frcC l K=K l:=by
 cases l with
 |av a=>simp only[frcC,frcA_eq]
 |n g=>rfl
 |kd k=>cases k<;>simp only[frcC,frcM_eq,J9]
abbrev Mk:=Nat×Nat
def p2(n:Nat):Nat:=Nat.mul (Nat.pow 340282366920938463463374607431768211456 (Nat.div n 128)) (Nat.pow 2 (Nat.mod n 128))
def p2_eq(n:Nat):p2 n=2^n:=by
 show(340282366920938463463374607431768211456^(n / 128))*2^(n%128)=2^n;rw[show(340282366920938463463374607431768211456:Nat)=2^128 from by decide,<- Nat.pow_mul,<- Nat.pow_add,CE]
def bit1(m:Nat)(l:Loc):Nat:=Nat.lor m (p2 l.code)
def mskR:List Loc->Nat->Nat
 |[],m=>m
 |l::r,m=>mskR r (bit1 m l)
def mskW:List (Loc×Ct)->Nat->Nat
 |[],m=>m
 |p::r,m=>mskW r (bit1 m p.1)
def fxm(f:Fx):Mk:=(mskR f.rd 0,mskW f.wr 0)
def frcR{V:Sort _}:List Loc->Nat->(Nat->V)->V
 |[],m,K=>K m
 |l::r,m,K=>frcL l λl=>frcN (bit1 m l) λm=>frcR r m K
def frcW{V:Sort _}:List (Loc×Ct)->Nat->St->(Nat->St->V)->V
 |[],m,X,K=>K m X
 |p::r,m,X,K=>frcL p.1 λl=>frcC p.2 λc=>frcN (bit1 m l) λm=>frcW r m (upd X l c) K
def frcR_eq{V:Sort _}(l:List Loc):∀(m:Nat) (K:Nat->V),frcR l m K=K (mskR l m):=by
 induction l with
 |nil=>intro m K;rfl
 |cons l r ih=>intro m K;simp only[frcR,frcL_eq,frcN_eq,ih,mskR]
def frcW_eq{V:Sort _}(l:List (Loc×Ct)):∀(m:Nat) (X:St) (K:Nat->St->V),frcW l m X K=K (mskW l m) (app X l):=by
 induction l with
 |nil=>intro m X K;rfl
 |cons p r ih=>intro m X K;simp only[frcW,frcL_eq,frcC_eq,frcN_eq,ih,mskW];rfl
def frcF{V:Sort _}(fx:Fx)(X:St)(K:Mk->St->V):V:=frcR fx.rd 0 λr=>frcW fx.wr 0 X λm X'=>K (r,m) X'
def frcF_eq{V:Sort _}(fx:Fx)(X:St)(K:Mk->St->V):frcF fx X K=K (fxm fx) (app X fx.wr):=by
 unfold frcF fxm;rw[frcR_eq,frcW_eq]
def aOps(P:Program)(C:FuncId->List Arg->Rs->Prop)(n:Nat)(own:List Nat)(ops:List Oper):List Oper->List Mk->St->(List Mk->St->Prop)->Prop
 |[],fs,X,K=>K fs X
 |o::l,fs,X,K=>aGuard P C n own ops o X λfx=>frcF fx X λm X'=>aOps P C n own ops l (fs++[m]) X' K
def indepM(f g:Mk):Bool:=Nat.beq (Nat.lor (Nat.lor (Nat.land f.2 g.1) (Nat.land f.2 g.2)) (Nat.land g.2 f.1)) 0
def indep(f g:Fx):Bool:=indepM (fxm f) (fxm g)
def nY(acc:List Nat)(o:Oper):Nat:=o.after.toList.foldl (λs e=>if Region.binds .any e=true then s ||| 2^e.on ||| acc.getD e.on 0 else s) 0
def befs(ops:List Oper):List Nat:=ops.foldl (λacc o=>acc++[nY acc o]) []
def drawRow(bs:List Nat)(f:Mk)(i:Nat):Nat->List Mk->Bool
 |_,[]=>true
 |j,g::gs=>(indepM f g||(bs.getD j 0).testBit i)&&drawRow bs f i (j+1) gs
def drawAll(bs:List Nat):Nat->List Mk->Bool
 |_,[]=>true
 |i,f::fs=>drawRow bs f i (i+1) fs&&drawAll bs (i+1) fs
def edgeOk:Nat->List Oper->Bool
 |_,[]=>true
 |i,o::l=>(o.after.toList.all λe=>!Region.binds .any e||Nat.blt e.on i)&&edgeOk (i+1) l
def drawOk(ops:List Oper)(fs:List Mk):Bool:=edgeOk 0 ops&&drawAll (befs ops) 0 fs
section
variable (P:Program)(C:FuncId->List Arg->Rs->Prop)(n:Nat)(own:List Nat)
attribute [irreducible] Side Both eM Nf Cut dI
def anyGuard:List Oper->Bool
 |[]=>false
 |o::l=>match o.guard with|some _=>true|none=>match o.op with|.pick _ _ _=>true|_=>anyGuard l
def cntE(id:Nat):List Nat->Nat
 |[]=>0
 |j::l=>match Nat.beq j id with|true=>cntE id l+1|false=>cntE id l
def remE(id:Nat):List Nat->List Nat
 |[]=>[]
 |j::l=>match Nat.beq j id with|true=>remE id l|false=>j::remE id l
def paths:Code->Nat×List Nat
 | .skip=>(1,[])
 | .region _ ops _=>(match anyGuard ops.toList with|true=>2|false=>1,[])
 | .seq a b=>match paths a with
  |(0,e)=>(0,e)
  |(_,e)=>match paths b with|(m,f)=>(m,e++f)
 | .cond _ a b=>match paths a,paths b with|(n,e),(m,f)=>(n+m,e++f)
 | .block id body=>match paths body with
  |(n,e)=>(match n+cntE id e with|0=>0|_=>1,remE id e)
 | .loop body=>(0,(paths body).2)
 | .scope body=>paths body
 | .label _=>(1,[])
 | .exit id=>(0,[id])
 |_=>(0,[])
def one(a:Code):Bool:=Nat.ble (paths a).1 1
def oneB(id:Nat)(a:Code):Bool:=Nat.beq (cntE id (paths a).2) 0
def bE:Code->(Exit->St->Prop)->St->Prop
 | .skip,K,X=>K .normal X
 | .region _ ops draw,K,X=>aOps P C n own ops.toList ops.toList [] X λfs X'=>Chk (!draw||drawOk ops.toList fs) (K .normal X')
 | .seq a b,K,X=>match one a with
  |true=>bE a (λe X'=>match e with|.normal=>bE b K X'|e=>K e X') X
  |false=>Cut (λJ=>bE a (λe X'=>match e with|.normal=>J X'|e=>K e X') X) λX'=>bE b K X'
 | .cond c a b,K,X=>match asBool (evA X c) with
  |some t=>Both t (bE a K X) (bE b K X)
  |none=>False
 | .block id body,K,X=>match oneB id body with
  |true=>bE body (λe X'=>match e with|.exit j=>if j=id then K .normal X' else K (.exit j) X'|e=>K e X') X
  |false=>Cut (λJ=>bE body (λe X'=>match e with|.normal=>J X'|.exit j=>if j=id then J X' else K (.exit j) X'|e=>K e X') X) λX'=>K .normal X'
 | .loop body,K,X=>eM (λK' X'=>bE body K' X') K X
 | .exit id,K,X=>K (.exit id) X
 | .ret,K,X=>K .ret X
 | .scope body,K,X=>bE body (λe X'=>match e with|.goto _=>False|e=>K e X') X
 | .label _,K,X=>K .normal X
 |_,_,_=>False
end
end
section
variable {v:Value}{b:Nat}
def RepI.mono{w w':World}{S S':Nat->Prop}(hS:∀b,S b->S' b)(hc:∀p u,S p.block->w.cell? p=some u->w'.cell? p=some u){x:IV}(h:RepI w S v x):RepI w' S' v x:=by
 induction h with
 |val v=>exact .val v
 |any v=>exact .any v
 |ex v h1=>exact .ex v h1
 |emp A c=>exact .emp A c
 |sl b o c k n es us hn hk hcap hs hb hl h1 hu hr ih=>exact .sl b o c k n es us hn hk hcap hs (hS b hb) hl h1 (λi u hi=>hc _ _ hb (hu i u hi)) ih
 |agg us cs hl h1 hr ih=>exact .agg us cs hl h1 ih
 |ref b o us cs hb hl h1 hu hr ih=>exact .ref b o us cs (hS b hb) hl h1 (λi u hi=>hc _ _ hb (hu i u hi)) ih
 |fn f us cs hl hr ih=>exact .fn f us cs hl ih
 |nsl a n c es h ih=>exact .nsl a n c es ih
def RepA.mono{w w':World}{S S':Nat->Prop}{Y Y':Ly}{E E':Nat->Nat}(hI:∀v x,RepI w S v x->RepI w' S' v x)(hE:∀o,E o<=E' o)(hY:∀o,E' o=E o->Y' o=Y o)
  (hi:∀o,Y.ig o<=Y'.ig o/\(Y'.ig o=Y.ig o->Y'.inn o=Y.inn o)) {v:Value} {x:AV} (h:RepA w S Y E v x):RepA w' S' Y' E' v x:=by
 have key:∀o g,g<=E o->E' o=g->E o=g/\Y' o=Y o:=λo g h1 h2=>by
  have:=hE o;exact⟨by omega,hY o (by omega)⟩
 have a2:∀o g,g<=Y.ig o->Y'.ig o=g->Y.ig o=g/\Y'.inn o=Y.inn o:=λo g h1 h2=>by
  have:=(hi o).1;exact⟨by omega,(hi o).2 (by omega)⟩
 induction h with
 |im v x h=>exact .im v x (hI v x h)
 |own v o g i h1 hg h =>
  refine .own v o g i h1 (S1 hg (hE o)) λe=>?_;obtain⟨e1,e2⟩:=key o g hg e;rw[e2];exact h e1
 |osl v o g h1 hg h =>
  refine .osl v o g h1 (S1 hg (hE o)) λe=>?_;obtain⟨e1,e2⟩:=key o g hg e;rw[e2];exact h e1
 |elt v o g k i j h1 hg h =>
  refine .elt v o g k i j h1 (S1 hg (hE o)) λe=>?_;obtain⟨e1,e2⟩:=key o g hg e;rw[e2];exact h e1
 |sub v o g i h1 hg h =>
  refine .sub v o g i h1 (S1 hg (hi o).1) λe=>?_;obtain⟨e1,e2⟩:=a2 o g hg e;rw[e2];exact h e1
 |osv v o g k m h1 hg h =>
  refine .osv v o g k m h1 (S1 hg (hE o)) λe=>?_;obtain⟨e1,e2⟩:=key o g hg e;rw[e2];exact h e1
 |elt2 v o g i k j c h1 hg h =>
  refine .elt2 v o g i k j c h1 (S1 hg (hi o).1) λe=>?_;obtain⟨e1,e2⟩:=a2 o g hg e;rw[e2];exact h e1
 |full A n es h=>exact .full A n es (hI _ _ h)
 |fn f us cs hl hr ih=>exact .fn f us cs hl ih
 |agg us cs hl h1 hr ih=>exact .agg us cs hl h1 ih
 |tup us cs hl hr ih=>exact .tup us cs hl ih
def noInn:Kd->Bool
 | .grid _ _ _ _ _=>false
 | .bag _ _ _ _ _=>false
 | .mapI _ _=>false
 |_=>true
def fpk_flat{inn:List Value}{k:Kd}(h:noInn k=true)(hb:b∈fpk v inn k):G3 v=some b:=by
 cases k with
 |dead=>simp[fpk]at hb
 |grid e e' m gs q=>cases h
 |box t m=>simpa[fpk]using hb
 |row e m es=>simpa[fpk]using hb
 |map l=>simpa[fpk]using hb
 |bag t e m l q=>cases h
 |mapI l c=>cases h
 |que e m es=>simpa[fpk]using hb
def fpk_root{inn:List Value}{k:Kd}(h:k≠.dead)(hb:G3 v=some b):b∈fpk v inn k:=by
 cases k with
 |dead=>exact absurd rfl h
 |grid e e' m gs q=>simp[fpk,fpv,hb]
 |box t m=>simp[fpk,hb]
 |row e m es=>simp[fpk,hb]
 |map l=>simp[fpk,hb]
 |bag t e m l q=>simp[fpk,fpv,hb]
 |mapI l c=>simp[fpk,fpv,hb]
 |que e m es=>simp[fpk,hb]
def fpk_inn{v u:Value}{inn:List Value}{e e':TypeId}{m:Nat}{gs:List (List IV)}{q:Option Nat}{i b:Nat}(hu:inn[i]?=some u)(hb:G3 u=some b):b∈fpk v inn (.grid e e' m gs q):=by
 unfold fpk fpv;exact kZ.2 ⟨u,K3 _ (H8 hu),hb⟩
def Owns.root{X:St}{Y:Ly}{o b:Nat}(hl:live X o)(hb:G3 (Y o)=some b):Owns X Y o b:=fpk_root hl hb
def Owns.lv{X:St}{Y:Ly}{o b:Nat}(h:Owns X Y o b):live X o:=λe=>by
 unfold Owns at h;rw[e]at h;simp[fpk]at h
def nX{w:World}{base:Nat}{e:TypeId}{k n:Nat}{us:List Value}(h:w.ownsRow base e k v n us):v.ownBlock=G3 v:=by
 rcases h.2 with⟨rfl,_⟩|⟨_,_,_,rfl,_⟩<;>rfl
def vK{w w':World}{base:Nat}{e:TypeId}{k n:Nat}{us:List Value}(h:w.ownsRow base e k v n us)(hb:∀b,G3 v=some b->w'.heap[b]?=w.heap[b]?):w'.ownsRow base e k v n us:=by
 refine⟨h.1,?_⟩;rcases h.2 with h1|⟨g,cap,cur,e1,e2,e3,e4⟩
 ·exact .inl h1
 ·exact .inr ⟨g,cap,cur,e1,e2,(hb g (by rw[e1];rfl)).trans e3,e4⟩
def Z6.mono{w w':World}{S S':Nat->Prop}{e:TypeId}{k:Nat}{es:List (List IV)}(h:Z6 w S v e k es)(hb:∀b,G3 v=some b->w'.heap[b]?=w.heap[b]?)(hI:∀u x,RepI w S u x->RepI w' S' u x):Z6 w' S' v e k es:=by
 obtain⟨us,h1,h2,h3,h4,h5,h6,h7⟩:=h;exact⟨us,h1,h2,h3,vK h4 hb,h5,h6,λi u x hu hx=>hI _ _ (h7 i u x hu hx)⟩
def QueOk.mono{w w':World}{S S':Nat->Prop}{e:TypeId}{k:Nat}{es:List (List IV)}(h:QueOk w S v e k es)(hb:∀b,G3 v=some b->w'.heap[b]?=w.heap[b]?)(hI:∀u x,RepI w S u x->RepI w' S' u x):QueOk w' S' v e k es:=by
 obtain⟨us,h1,h2,h3,h4,h5,h6,h7⟩:=h;refine⟨us,h1,h2,h3,h4,h5,λi u x hu hx=>hI _ _ (h6 i u x hu hx),?_⟩;rcases h7 with h7|⟨q,off,cap,cur,e1,e2,e3⟩
 ·exact .inl h7
 ·exact .inr ⟨q,off,cap,cur,e1,(hb q (by rw[e1];rfl)).trans e2,e3⟩
def QueOk.lt{w:World}{S:Nat->Prop}{e:TypeId}{k:Nat}{es:List (List IV)}(h:QueOk w S v e k es)(hb:G3 v=some b):b<w.heap.size:=by
 obtain⟨us,h1,h2,h3,h4,h5,h6,h7⟩:=h;rcases h7 with⟨h7,_⟩|⟨q,off,a2,cur,e1,e2,e3⟩
 ·rw[h7]at hb;cases hb
 ·rw[e1]at hb;simp only[G3,D4]at hb;subst hb;exact(mH.1 e2).1
def fS.mono{w w':World}{S S':Nat->Prop}{inn:List Value}{e e':TypeId}{k:Nat}{gs:List (List IV)}{q:Option Nat}(h:fS w S v inn e e' k gs q)(hb:∀b,b∈fpv v inn->w'.heap[b]?=w.heap[b]?)(hI:∀u x,RepI w S u x->RepI w' S' u x):fS w' S' v inn e e' k gs q:=by
 obtain⟨h0,h1,us,h2,h3,h4,h5⟩:=h;refine⟨h0,h1,us,h2,vK h3 λb a2=>hb b (by simp[fpv,a2]),h4,λi u hu=>?_⟩;rcases h5 i u hu with h6|⟨h6,es,h7,h8⟩
 ·exact .inl h6
 ·exact .inr ⟨h6,es,h7,h8.mono (λb a2=>hb b (kZ.2 ⟨u,K3 _ (H8 hu),a2⟩)) hI⟩
def P4.mono{w w':World}{S S':Nat->Prop}{inn:List Value}:∀{k:Kd},P4 w S v inn k->(∀b,b∈fpk v inn k->w'.heap[b]?=w.heap[b]?)->(∀u x,RepI w S u x->RepI w' S' u x)->P4 w' S' v inn k
 | .dead,h,_,_=>h
 | .box _ _,h,_,_=>h
 | .row _ _ _,h,hb,hI=>Z6.mono h (λb hb'=>hb b (by simp[fpk,hb'])) hI
 | .grid _ _ _ _ _,h,hb,hI=>fS.mono h hb hI
 | .map _,⟨b,clock,es,h1,h2,h3⟩,hb,_=>⟨b,clock,es,h1,(hb b (by rw[h1];simp[fpk,G3])).trans h2,h3⟩
 | .bag _ _ _ _ _,h,_,_=>h
 | .mapI _ _,h,_,_=>h
 | .que _ _ _,h,hb,hI=>QueOk.mono h (λb hb'=>hb b (by simp[fpk,hb'])) hI
def born_modify(es:Array MapEntry)(j:Nat)(f:MapEntry->MapEntry)(hf:∀e,(f e).born=e.born):(es.modify j f).toList.map (·.born)=es.toList.map (·.born):=by
 apply nP;intro n;rw[K5,K5,T7,BV,T7];by_cases hn:j=n
 ·rw[if_pos hn,GT];congr 1;funext e;exact hf e
 ·rw[if_neg hn]
def MapSt.nil(c:Nat):MapSt #[] c:=⟨by simp,by simp⟩
def MapSt.push{es:Array MapEntry}{c:Nat}(h:MapSt es c)(k v:Value):MapSt (es.push { key:=k,val:=v,born:=c }) (c+1):=by
 refine⟨λx hx=>?_,?_⟩
 ·rw[Array.toList_push]at hx;rcases K0.1 hx with hx|hx
  ·exact Nat.lt_succ_of_lt (h.1 x hx)
  ·rw[K2.1 hx];exact wX _
 ·rw[Array.toList_push,N3,aF];refine⟨h.2,by simp,λa ha b hb=>?_⟩;obtain⟨x,hx,rfl⟩:=D8.1 ha;have:=h.1 x hx;simp at hb;omega
def MapSt.modify{es:Array MapEntry}{c:Nat}(h:MapSt es c)(j:Nat)(f:MapEntry->MapEntry)(hf:∀e,(f e).born=e.born):MapSt (es.modify j f) c:=by
 have e:=born_modify es j f hf;refine⟨λx hx=>?_,by rw[e];exact h.2⟩;have:x.born∈es.toList.map (·.born):=by rw[<- e];exact D8.2 ⟨x,hx,rfl⟩
 obtain⟨y,hy,h2⟩:=D8.1 this;rw[<- h2];exact h.1 y hy
def EntOk.mono{w w':World}{S S':Nat->Prop}{t e:TypeId}{k:Nat}{g:Nat×List IV×List (List IV)}{row:Value}(h:EntOk w S t e k g row)(hb:∀b,(g.1=b\/G3 row=some b)->w'.heap[b]?=w.heap[b]?)(hI:∀u x,RepI w S u x->RepI w' S' u x):EntOk w' S' t e k g row:=by
 obtain⟨us,h2,h3,h4,h5,h6⟩:=h;exact⟨us,(hb g.1 (.inl rfl)).trans h2,h3,h4,λi u x hu hx=>hI _ _ (h5 i u x hu hx),h6.mono (λb a2=>hb b (.inr a2)) hI⟩
def fP.mono{w w':World}{S S':Nat->Prop}{inn:List Value}{t e:TypeId}{k:Nat}{l:List (Nat×List IV×List (List IV))}(h:fP w S v inn t e k l)(hb:∀b,b∈fpv v inn->w'.heap[b]?=w.heap[b]?)(hI:∀u x,RepI w S u x->RepI w' S' u x):fP w' S' v inn t e k l:=by
 obtain⟨h0,h1,rows,h2,h3,h4⟩:=h;refine⟨h0,h1,rows,h2,h3,λi g row hg hr=>(h4 i g row hg hr).mono (λb a2=>hb b ?_) hI⟩;rcases a2 with a2|a2
 ·exact kZ.2 ⟨pv g.1,K3 _ (by rw[h3];exact M1 _ (D8.2 ⟨g,H8 hg,rfl⟩)),by rw[<- a2];rfl⟩
 ·exact kZ.2 ⟨row,K3 _ (by rw[h3];exact M2 _ (H8 hr)),a2⟩
def GoOk.mono{w w':World}{S S':Nat->Prop}{inn:List Value}{left:List IV}{cur:Option IV}(h:GoOk w S v inn left cur)(hb:∀b,b∈fpv v inn->w'.heap[b]?=w.heap[b]?)(hI:∀u x,RepI w S u x->RepI w' S' u x):GoOk w' S' v inn left cur:=by
 obtain⟨b,r,a3,a4,c0,es,a5,rd,h1,h2,h3,h4,h5,h6,h7,h8,h9,a2,a6⟩:=h;exact⟨b,r,a3,a4,c0,es,a5,rd,h1,h2,h3,(hb b (by rw[h1];simp[fpv,G3])).trans h4,(hb r (by rw[h2];simp[fpv,G3])).trans h5,h6,h7,h8,h9,λx hx=>hI _ _ (a2 x hx),a6⟩
def Z6.lt{w:World}{S:Nat->Prop}{e:TypeId}{k:Nat}{es:List (List IV)}(h:Z6 w S v e k es)(hb:G3 v=some b):b<w.heap.size:=by
 obtain⟨us,h1,h2,h3,h4,_⟩:=h;exact(h4.lt b ((nX h4).trans hb)).2
def P4.lt{w:World}{S:Nat->Prop}{inn:List Value}:∀{k:Kd},P4 w S v inn k->∀{b},b∈fpk v inn k->b<w.heap.size
 | .dead,h,_,_=>h.elim
 | .box _ _,h,_,_=>h.elim
 | .row _ _ _,h,b,hb=>Z6.lt h (by simpa[fpk]using hb)
 | .map _,⟨q,clock,es,h1,h2,h3⟩,b,hb=>by
  rw[h1]at hb;simp[fpk,G3]at hb;subst hb;exact(mH.1 h2).1
 | .bag _ _ _ _ _,h,_,_=>h.elim
 | .mapI _ _,h,_,_=>h.elim
 | .que _ _ _,h,b,hb=>QueOk.lt h (by simpa[fpk]using hb)
 | .grid e e' k gs q,⟨h0,h1,us,h2,h3,h4,h5⟩,b,hb=>by
  obtain⟨u,hu,hub⟩:=kZ.1 (show b∈fpv v inn from hb);rcases I2.1 hu with rfl|hu
  ·exact(h3.lt b ((nX h3).trans hub)).2
  ·obtain⟨i,hi⟩:=qB hu;rcases h5 i u hi with h6|⟨h6,es,h7,h8⟩
   ·rw[h6.2]at hub;cases hub
   ·exact h8.lt hub
def fP.lt{w:World}{S:Nat->Prop}{inn:List Value}{t e:TypeId}{k:Nat}{l:List (Nat×List IV×List (List IV))}(h:fP w S v inn t e k l)(hb:b∈fpv v inn):b<w.heap.size:=by
 obtain⟨h0,h1,rows,h2,h3,h4⟩:=h;obtain⟨u,hu,a2⟩:=kZ.1 hb;rcases I2.1 hu with rfl|hu
 ·rw[h0]at a2;cases a2
 ·rw[h3]at hu;rcases K0.1 hu with hu|hu
  ·obtain⟨g,hg,rfl⟩:=D8.1 hu;obtain⟨i,hi⟩:=qB hg;have a3:i<rows.length:=by rw[h2];exact(G4.1 hi).1
   obtain⟨us,e2,_⟩:=h4 i g _ hi (L4 a3);simp only[G3,D4]at a2;subst a2;exact(mH.1 e2).1
  ·obtain⟨i,hi⟩:=qB hu;have a3:i<l.length:=by rw[<- h2];exact(G4.1 hi).1
   obtain⟨us,e2,e3,e4,e5,e6⟩:=h4 i _ _ (L4 a3) hi;exact e6.lt a2
def GoOk.lt{w:World}{S:Nat->Prop}{inn:List Value}{left:List IV}{cur:Option IV}(h:GoOk w S v inn left cur)(hb:b∈fpv v inn):b<w.heap.size:=by
 obtain⟨q,r,a2,a3,c0,es,a4,rd,h1,h2,h3,h4,h5,_⟩:=h;rw[h1,h2]at hb;simp only[fpv,G3,List.filterMap_cons,List.filterMap_nil,I2,List.not_mem_nil,or_false]at hb;rcases hb with rfl|rfl
 ·exact(mH.1 h4).1
 ·exact(mH.1 h5).1
structure lF(X X':St):Prop where
 gn:X'.gn=X.gn
 ig:X'.ig=X.ig
 kd:X'.kd=X.kd
 ce:X'.ce=X.ce
def lF.tmp(X:St)(d:Nat)(c:Ct):lF X (upd X (.tmp d) c):=⟨funext λ_=>gn_tmp X d _ c,funext λ_=>ig_tmp X d _ c,funext λ_=>kd_tmp X d _ c,funext λ_=>funext λ_=>ce_tmp X d _ _ c⟩
def Imm.same{B:Base}{X X':St}(h:X'.kd=X.kd)(Y:Ly)(w:World):Imm B X' Y w=Imm B X Y w:=by
 unfold Imm Owns;rw[h]
def aR.of_hold{B:Base}{X:St}{Y:Ly}{w:World}{o:Nat}{k:Kd}(hb:∀t m,k≠.box t m)(h:P4 w (Imm B X Y w) (Y o) (Y.inn o) k):aR B X Y w o k:=by
 cases k with
 |dead=>trivial
 |box t m=>exact absurd rfl (hb t m)
 |row e m es=>exact h
 |grid e e' m gs q=>exact h
 |map l=>exact h
 |bag t e m l q=>exact h.elim
 |mapI l c=>exact h.elim
 |que e m es=>exact h
def aR.mono{B B':Base}{X X':St}{Y Y':Ly}{w w':World}{o:Nat}{k:Kd}(hk:aR B X Y w o k)(hY:Y' o=Y o)(hinn:Y'.inn o=Y.inn o)(hce:∀i,X'.ce o i=X.ce o i)(hb:∀b,b∈fpk (Y o) (Y.inn o) k->w'.heap[b]?=w.heap[b]?)
  (hI:∀v x,RepI w (Imm B X Y w) v x->RepI w' (Imm B' X' Y' w') v x) (hA:∀v x,RepA w (Imm B X Y w) Y X.gn v x->RepA w' (Imm B' X' Y' w') Y' X'.gn v x):aR B' X' Y' w' o k:=by
 cases k with
 |dead=>trivial
 |box t m =>
  obtain⟨b,us,h1,h3,h4,h5,h6⟩:=hk;refine⟨b,us,hY.trans h1,(hb b (by rw[h1];simp[fpk,G3])).trans h3,h4,h5,λi u hu=>?_⟩;rw[hce];exact hA _ _ (h6 i u hu)
 |row e m es=>show P4 w' (Imm B' X' Y' w') (Y' o) (Y'.inn o) (.row e m es);rw[hY,hinn];exact P4.mono (k:=.row e m es) hk hb hI
 |grid e e' m gs q=>show P4 w' (Imm B' X' Y' w') (Y' o) (Y'.inn o) (.grid e e' m gs q);rw[hY,hinn];exact P4.mono (k:=.grid e e' m gs q) hk hb hI
 |map l=>show P4 w' (Imm B' X' Y' w') (Y' o) (Y'.inn o) (.map l);rw[hY,hinn];exact P4.mono (k:=.map l) hk hb hI
 |bag t e m l q =>
  show fP w' (Imm B' X' Y' w') (Y' o) (Y'.inn o) t e m l/\_;rw[hY,hinn,hce];exact⟨fP.mono hk.1 hb hI,λp hp=>hA _ _ (hk.2 p hp)⟩
 |mapI l c =>
  show GoOk w' (Imm B' X' Y' w') (Y' o) (Y'.inn o) l c;rw[hY,hinn];exact GoOk.mono hk hb hI
 |que e m es=>show P4 w' (Imm B' X' Y' w') (Y' o) (Y'.inn o) (.que e m es);rw[hY,hinn];exact P4.mono (k:=.que e m es) hk hb hI
def aR.lt{B:Base}{X:St}{Y:Ly}{w:World}{o:Nat}{k:Kd}(hk:aR B X Y w o k)(hb:b∈fpk (Y o) (Y.inn o) k):b<w.heap.size:=by
 cases k with
 |dead=>simp[fpk]at hb
 |box t m =>
  obtain⟨q,us,h1,h3,_⟩:=hk;rw[h1]at hb;simp[fpk,G3]at hb;subst hb;exact(mH.1 h3).1
 |row e m es=>exact P4.lt (S:=Imm B X Y w) (k:=.row e m es) hk hb
 |grid e e' m gs q=>exact P4.lt (S:=Imm B X Y w) (k:=.grid e e' m gs q) hk hb
 |map l=>exact P4.lt (S:=Imm B X Y w) (k:=.map l) hk hb
 |bag t e m l q=>exact fP.lt hk.1 hb
 |mapI l c=>exact GoOk.lt hk hb
 |que e m es=>exact P4.lt (S:=Imm B X Y w) (k:=.que e m es) hk hb
def put_getD(a:Act)(d:Tmp)(u:Value)(t:Nat)(hd:d<a.tmps.size):(a.put (some d) u).tmps.getD t undef=if t=d then u else a.tmps.getD t undef:=by
 simp only[Act.put,CG,Array.getElem?_setIfInBounds];by_cases h:t=d
 ·subst h;simp[hd]
 ·rw[if_neg (λe=>h e.symm),if_neg h]
def SatR.stepZ{B:Base}{X X':St}{a:Act}{w w':World}{Y Y':Ly}(h:SatR B X a w Y)(D Z':Nat->Prop)(hav:∀t,X'.av t=X.av t)
  (hout:∀o,¬D o->X'.kd o=X.kd o/\X'.gn o=X.gn o/\(∀i,X'.ce o i=X.ce o i)/\Y' o=Y o/\Y'.inn o=Y.inn o/\Y'.ig o=Y.ig o)
  (hin:∀o,D o->(X.gn o<=X'.gn o/\(X'.gn o=X.gn o->Y' o=Y o))/\Y.ig o<=Y'.ig o/\(Y'.ig o=Y.ig o->Y'.inn o=Y.inn o))
  (hig:∀o,Y'.ig o=X'.ig o) (hw:Belo (λb=>B.Z b\/∃o,D o/\Owns X Y o b) w.heap.size w w') (hfp:∀o b,D o->Owns X' Y' o b->w.heap.size<=b\/B.Z b\/∃p,D p/\Owns X Y p b)
  (hdis:∀o p b,D o->D p->Owns X' Y' o b->Owns X' Y' p b->o=p) (hz:∀b,Z' b->b<w'.heap.size/\(w.heap.size<=b\/B.Z b\/∃p,D p/\Owns X Y p b)/\∀o,D o->¬Owns X' Y' o b)
  (hob:(∀v x,RepI w (Imm B X Y w) v x->RepI w' (Imm { B with Z:=Z' } X' Y' w') v x)->(∀v x,RepA w (Imm B X Y w) Y X.gn v x->RepA w' (Imm { B with Z:=Z' } X' Y' w') Y' X'.gn v x)->∀o,D o->aR { B with Z:=Z' } X' Y' w' o (X'.kd o)) :
  SatR { B with Z:=Z' } X' a w' Y'/\(∀v x,RepI w (Imm B X Y w) v x->RepI w' (Imm { B with Z:=Z' } X' Y' w') v x)/\(∀v x,RepA w (Imm B X Y w) Y X.gn v x->RepA w' (Imm { B with Z:=Z' } X' Y' w') Y' X'.gn v x)/\∀b,Imm B X Y w b->Imm { B with Z:=Z' } X' Y' w' b:=by
 have a2:∀o b,¬D o->(Owns X' Y' o b↔Owns X Y o b):=λo b hd=>by
  obtain⟨h1,_,_,h2,h3,_⟩:=hout o hd;unfold Owns;rw[h1,h2,h3]
 have a7:∀b,(w.heap.size<=b\/B.Z b\/∃p,D p/\Owns X Y p b)->Mine B b:=λb hb=>by
  rcases hb with h1|h1|⟨p,_,h1⟩
  ·exact .inl (S1 h.bel.size h1)
  ·exact(h.res b h1).1.1
  ·exact(h.own p b h1).1
 have a4:∀b,Imm B X Y w b->¬(w.heap.size<=b\/B.Z b\/∃p,D p/\Owns X Y p b):=λb hi hb=>by
  rcases hb with h1|h1|⟨p,_,h1⟩
  ·have:=hi.2.1;omega
  ·exact hi.2.2.2 h1
  ·exact hi.2.2.1 p h1
 have a5:∀b,Imm B X Y w b->Imm { B with Z:=Z' } X' Y' w' b:=λb hi=>⟨hi.1,kY hi.2.1 hw.size,λo ho=>by
  by_cases hd:D o
  ·exact a4 b hi (hfp o b hd ho)
  ·exact hi.2.2.1 o ((a2 o b hd).1 ho),λhb=>a4 b hi (hz b hb).2.1⟩
 have a9:∀b,Imm B X Y w b->w'.heap[b]?=w.heap[b]?:=λb hi=>hw.block b hi.2.1 λhb=>by
  rcases hb with h1|⟨o,_,ho⟩
  ·exact hi.2.2.2 h1
  ·exact hi.2.2.1 o ho
 have hI:∀v x,RepI w (Imm B X Y w) v x->RepI w' (Imm { B with Z:=Z' } X' Y' w') v x:=λv x hr =>
  hr.mono a5 λp u hi hu=>(World.cell?_of_block (w:=w) (a9 p.block hi)).trans hu
 have hA:∀v x,RepA w (Imm B X Y w) Y X.gn v x->RepA w' (Imm { B with Z:=Z' } X' Y' w') Y' X'.gn v x:=λv x hr=>by
  refine hr.mono hI (λo=>?_) (λo e=>?_) λo=>?_
  ·by_cases hd:D o
   ·exact(hin o hd).1.1
   ·rw[(hout o hd).2.1];exact H4 _
  ·by_cases hd:D o
   ·exact(hin o hd).1.2 e
   ·exact(hout o hd).2.2.2.1
  ·by_cases hd:D o
   ·exact(hin o hd).2
   ·obtain⟨_,_,_,_,h3,h4⟩:=hout o hd;exact⟨by rw[h4];exact H4 _,λ_=>h3⟩
 have hob:=hob hI hA
 have a6:∀o,aR { B with Z:=Z' } X' Y' w' o (X'.kd o):=λo=>by
  by_cases hd:D o
  ·exact hob o hd
  ·obtain⟨h1,h2,h3,h4,h5,h6⟩:=hout o hd;rw[h1];refine(h.obs o).mono h4 h5 h3 (λb hb=>hw.block b (h.own o b hb).2 λhn=>?_) hI hA;rcases hn with hn|⟨p,hp,hpb⟩
   ·exact(h.res b hn).2 o hb
   ·have:=h.dis o p b hb hpb;subst this;exact hd hp
 have a3:∀o b,¬D o->Owns X Y o b->¬(w.heap.size<=b\/B.Z b\/∃p,D p/\Owns X Y p b):=λo b hd ho hb=>by
  rcases hb with h1|h1|⟨p,hp,h1⟩
  ·have:=(h.own o b ho).2;omega
  ·exact(h.res b h1).2 o ho
  ·have:=h.dis o p b ho h1;subst this;exact hd hp
 refine⟨⟨h.bel.trans ⟨hw.os,hw.tape,hw.output,hw.size,λk hk b2=>hw.block k (kY hk h.bel.size) λhn=>?_⟩,a6,λo b ho=>⟨?_,(a6 o).lt ho⟩,λo p b ho hp=>?_,λt=>?_,hig,λb hb=>?_,λo v hl b0=>?_,h.siz,h.dfr⟩,hI,hA,a5⟩
 ·have h3:Mine B k:=by
   rcases hn with hn|⟨o,_,ho⟩
   ·exact(h.res k hn).1.1
   ·exact(h.own o k ho).1
  rcases h3 with h3|h3
  ·omega
  ·exact b2 h3
 ·by_cases hd:D o
  ·exact a7 b (hfp o b hd ho)
  ·exact(h.own o b ((a2 o b hd).1 ho)).1
 ·by_cases h1:D o
  ·by_cases h2:D p
   ·exact hdis o p b h1 h2 ho hp
   ·exact absurd (hfp o b h1 ho) (a3 p b h2 ((a2 p b h2).1 hp))
  ·have a8:=(a2 o b h1).1 ho;by_cases h2:D p
   ·exact absurd (hfp p b h2 hp) (a3 o b h1 a8)
   ·exact h.dis o p b a8 ((a2 p b h2).1 hp)
 ·rw[hav];exact hA _ _ (h.tms t)
 ·obtain⟨h1,h2,h3⟩:=hz b hb;refine⟨⟨a7 b h2,h1⟩,λo ho=>?_⟩;by_cases hd:D o
  ·exact h3 o hd ho
  ·exact a3 o b hd ((a2 o b hd).1 ho) h2
 ·by_cases hd:D o
  ·obtain⟨h1,h2⟩:=(hin o hd).1;rw[h2 (by omega)];exact h.rt o v hl (by omega)
  ·obtain⟨_,h1,_,h2,_⟩:=hout o hd;rw[h2];exact h.rt o v hl (by rw[<- h1];exact b0)
def SatR.step{B:Base}{X X':St}{a:Act}{w w':World}{Y Y':Ly}(h:SatR B X a w Y)(D:Nat->Prop)(hav:∀t,X'.av t=X.av t)
  (hout:∀o,¬D o->X'.kd o=X.kd o/\X'.gn o=X.gn o/\(∀i,X'.ce o i=X.ce o i)/\Y' o=Y o/\Y'.inn o=Y.inn o/\Y'.ig o=Y.ig o)
  (hin:∀o,D o->(X.gn o<=X'.gn o/\(X'.gn o=X.gn o->Y' o=Y o))/\Y.ig o<=Y'.ig o/\(Y'.ig o=Y.ig o->Y'.inn o=Y.inn o))
  (hig:∀o,Y'.ig o=X'.ig o) (hw:Belo (λb=>∃o,D o/\Owns X Y o b) w.heap.size w w') (hfp:∀o b,D o->Owns X' Y' o b->w.heap.size<=b\/∃p,D p/\Owns X Y p b)
  (hdis:∀o p b,D o->D p->Owns X' Y' o b->Owns X' Y' p b->o=p)
  (hob:(∀v x,RepI w (Imm B X Y w) v x->RepI w' (Imm B X' Y' w') v x)->(∀v x,RepA w (Imm B X Y w) Y X.gn v x->RepA w' (Imm B X' Y' w') Y' X'.gn v x)->∀o,D o->aR B X' Y' w' o (X'.kd o)) :
  SatR B X' a w' Y'/\(∀v x,RepI w (Imm B X Y w) v x->RepI w' (Imm B X' Y' w') v x)/\∀v x,RepA w (Imm B X Y w) Y X.gn v x->RepA w' (Imm B X' Y' w') Y' X'.gn v x:=by
 obtain⟨h1,h2,h3,_⟩:=h.stepZ D B.Z hav hout hin hig ⟨hw.os,hw.tape,hw.output,hw.size,λk hk hn=>hw.block k hk λhh=>hn (.inr hh)⟩ (λo b hd ho=>(hfp o b hd ho).elim .inl λh=>.inr (.inr h)) hdis
  (λb hb=>⟨kY (h.res b hb).1.2 hw.size,.inr (.inl hb),λo hd ho=>by
   rcases hfp o b hd ho with h1|⟨p,_,h1⟩
   ·have:=(h.res b hb).1.2;omega
   ·exact(h.res b hb).2 p h1⟩) hob
 exact⟨h1,h2,h3⟩
def SatR.slots{B:Base}{X X':St}{a a':Act}{w:World}{Y:Ly}(h:SatR B X a w Y)(hs:lF X X')(ht:∀t,RepA w (Imm B X Y w) Y X.gn (a'.tmps.getD t undef) (X'.av t))(hz:a'.tmps.size=B.n)(hd:a'.defers=B.ds):SatR B X' a' w Y:=by
 have a2:∀o b,Owns X' Y o b↔Owns X Y o b:=λo b=>by unfold Owns;rw[hs.kd]
 refine⟨h.bel,λo=>?_,λo b ho=>h.own o b ((a2 o b).1 ho),λo p b ho hp=>h.dis o p b ((a2 o b).1 ho) ((a2 p b).1 hp),λt=>?_,λo=>by rw[hs.ig];exact h.igs o,λb hb=>⟨(h.res b hb).1,λo ho=>(h.res b hb).2 o ((a2 o b).1 ho)⟩,λo v hl hg=>h.rt o v hl (by rw[<- hs.gn];exact hg),hz,hd⟩
 ·rw[hs.kd];refine(h.obs o).mono rfl rfl (λi=>by rw[hs.ce]) (λ_ _=>rfl) (λv x hr=>by rw[Imm.same hs.kd];exact hr) λv x hr=>by rw[Imm.same hs.kd,hs.gn];exact hr
 ·rw[Imm.same hs.kd,hs.gn];exact ht t
def SatR.put{B:Base}{X:St}{a:Act}{w:World}{Y:Ly}(h:SatR B X a w Y){d:Option Tmp}(hd:∀t,d=some t->t<B.n){u:Value}{v:AV}(hv:RepA w (Imm B X Y w) Y X.gn u v) :
  SatR B (app X (wrT d v)) (a.put d u) w Y:=by
 cases d with
 |none=>exact h
 |some d =>
  have a2:d<a.tmps.size:=by rw[h.siz];exact hd d rfl
  refine h.slots (lF.tmp X d (.av v)) (λt=>?_) (by simp[Act.put,h.siz]) h.dfr;show RepA _ _ _ _ _ ((upd X (.tmp d) (.av v)).av t);rw[put_getD a d u t a2,av_tmp];by_cases e:t=d
  ·rw[if_pos e,if_pos e];exact hv
  ·rw[if_neg e,if_neg e];exact h.tms t
def SatR.world{B:Base}{X:St}{a:Act}{w w':World}{Y:Ly}(h:SatR B X a w Y)(hb:Below w.heap.size w w'):SatR B X a w' Y/\∀v x,RepI w (Imm B X Y w) v x->RepI w' (Imm B X Y w') v x:=by
 obtain⟨h1,h2,_⟩:=h.step (X':=X) (Y':=Y) (w':=w') (λ_=>False) (λ_=>rfl) (λo _=>⟨rfl,rfl,λ_=>rfl,rfl,rfl,rfl⟩) (λo hd=>hd.elim) h.igs (.of hb) (λo b hd=>hd.elim) (λo p b hd=>hd.elim) λ_ _ o hd=>hd.elim;exact⟨h1,h2⟩
def SatR.kill{B:Base}{X:St}{a:Act}{w:World}{Y:Ly}(h:SatR B X a w Y)(d:Nat):SatR B (upd X (.knd d) (.kd .dead)) a w Y/\∀v x,RepI w (Imm B X Y w) v x->RepI w (Imm B (upd X (.knd d) (.kd .dead)) Y w) v x:=by
 obtain⟨h1,h2,_⟩:=h.step (X':=upd X (.knd d) (.kd .dead)) (Y':=Y) (w':=w) (λo=>o=d) (λt=>dO X d t _) (λo hd=>⟨by rw[W0,if_neg hd],aT X d o _,λi=>fU X d o i _,rfl,rfl,rfl⟩)
  (λo _=>⟨⟨by rw[aT];exact H4 _,λ_=>rfl⟩,H4 _,λ_=>rfl⟩) (λo=>by rw[fT];exact h.igs o) (Belo.refl _ _ _) (λo b hd ho=>by
   subst hd
   exact absurd (by rw[W0,if_pos rfl]) ho.lv) (λo p b hd hp _ _=>hd.trans hp.symm) λ_ _ o hd=>by subst hd;rw[W0,if_pos rfl];trivial
 exact⟨h1,h2⟩
def SatR.kills{B:Base}{a:Act}{w:World}{Y:Ly}:∀(bs:E7) {X:St},SatR B X a w Y->SatR B (app X (fwr bs)) a w Y/\∀v x,RepI w (Imm B X Y w) v x->RepI w (Imm B (app X (fwr bs)) Y w) v x
 |[],X,h=>⟨h,λ_ _ hr=>hr⟩
 |b::bs,X,h=>by
  obtain⟨h1,h2⟩:=h.kill b.1;obtain⟨h3,h4⟩:=SatR.kills bs h1;exact⟨h3,λv x hr=>h4 v x (h2 v x hr)⟩
def xR(b:Nat)(cs:List AV):∀(i:Nat) (X:St),(app X (P8 b i cs)).gn=X.gn:=by
 induction cs with
 |nil=>intro i X;rfl
 |cons c cs ih=>intro i X;rw[P8,V2,ih];exact funext λt=>gn_cel X b i t _
def celWr_ig(b:Nat)(cs:List AV):∀(i:Nat) (X:St),(app X (P8 b i cs)).ig=X.ig:=by
 induction cs with
 |nil=>intro i X;rfl
 |cons c cs ih=>intro i X;rw[P8,V2,ih];exact funext λt=>ig_cel X b i t _
def tF(b:Nat)(cs:List AV):∀(i:Nat) (X:St),(app X (P8 b i cs)).kd=X.kd:=by
 induction cs with
 |nil=>intro i X;rfl
 |cons c cs ih=>intro i X;rw[P8,V2,ih];exact funext λt=>kd_cel X b i t _
def xS(b:Nat)(cs:List AV):∀(i:Nat) (X:St),(app X (P8 b i cs)).av=X.av:=by
 induction cs with
 |nil=>intro i X;rfl
 |cons c cs ih=>intro i X;rw[P8,V2,ih];exact funext λt=>av_cel X b i t _
def qJ(b:Nat)(cs:List AV):∀(i:Nat) (X:St) (p j:Nat),(app X (P8 b i cs)).ce p j=if p=b/\i<=j/\j<i+cs.length then cs.getD (j-i) (.im .any) else X.ce p j:=by
 induction cs with
 |nil =>
  intro i X p j;rw[if_neg (λe=>by have:=e.2;simp only[V5]at this;omega)];rfl
 |cons c cs ih =>
  intro i X p j;rw[P8,V2,ih,ce_cel];simp only[H7];by_cases hp:p=b
  ·by_cases hj:j=i
   ·subst hj;rw[if_neg (by omega),if_pos ⟨hp,rfl⟩,if_pos ⟨hp,by omega,by omega⟩];simp
   ·by_cases h:i+1<=j/\j<i+1+cs.length
    ·rw[if_pos ⟨hp,h⟩,if_pos ⟨hp,by omega,by omega⟩];obtain⟨m,hm⟩:∃m,j-i=m+1:=⟨j-i-1,by omega⟩;rw[hm,show j-(i+1)=m from by omega];simp
    ·rw[if_neg (λe=>h e.2),if_neg (λe=>hj e.2),if_neg (λe=>h (by omega))]
  ·rw[if_neg (λe=>hp e.1),if_neg (λe=>hp e.1),if_neg (λe=>hp e.1)]
def O8(X:St)(u v:List (Loc×Ct)):app X (u++v)=app (app X u) v:=by
 induction u generalizing X with
 |nil=>rfl
 |cons p u ih=>exact ih _
def R5(X:St)(used:Option Nat)(d:Nat)(k:Kd)(cs:List AV):St :=
 app (app (match used with|some b=>upd X (.knd b) (.kd .dead)|none=>X) [(.gen d,.n (X.gn d+1)),(.knd d,.kd k)]) (P8 d 0 cs)
def setY(Y:Ly)(d:Nat)(v:Value):Ly:={ Y with root:=λo=>if o=d then v else Y o }
def setρ_eq(Y:Ly)(d:Nat)(v:Value)(o:Nat):(setY Y d v) o=if o=d then v else Y o:=rfl
def oH(X:St)(used:Option Nat)(d:Nat)(k:Kd)(cs:List AV)(o:Nat):(R5 X used d k cs).gn o=if o=d then X.gn d+1 else X.gn o:=by
 unfold R5;rw[xR];simp only[V2,iA];rw[aT,gn_gen];cases used with
 |none=>rfl
 |some b=>simp only[aT]
def qO(X:St)(used:Option Nat)(d:Nat)(k:Kd)(cs:List AV)(o:Nat):(R5 X used d k cs).kd o=if o=d then k else if used=some o then .dead else X.kd o:=by
 unfold R5;rw[tF];simp only[V2,iA];rw[W0,kd_gen];cases used with
 |none=>simp
 |some b =>
  simp only[W0,D4];by_cases e:o=d
  ·simp[e]
  ·by_cases e2:o=b
   ·subst e2;simp
   ·rw[if_neg e,if_neg e,if_neg e2,if_neg (λh=>e2 h.symm)]
def newSt_av(X:St)(used:Option Nat)(d:Nat)(k:Kd)(cs:List AV)(t:Nat):(R5 X used d k cs).av t=X.av t:=by
 unfold R5;rw[xS];simp only[V2,iA];rw[dO,av_gen];cases used with
 |none=>rfl
 |some b=>simp only[dO]
def newSt_ce(X:St)(used:Option Nat)(d:Nat)(k:Kd)(cs:List AV)(o i:Nat)(h:o≠d):(R5 X used d k cs).ce o i=X.ce o i:=by
 unfold R5;rw[qJ,if_neg (λe=>h e.1)];simp only[V2,iA];rw[fU,ce_gen];cases used with
 |none=>rfl
 |some b=>simp only[fU]
def newSt_new(X:St)(used:Option Nat)(d:Nat)(k:Kd)(cs:List AV)(i:Nat)(h:i<cs.length):(R5 X used d k cs).ce d i=cs.getD i (.im .any):=by
 unfold R5;rw[qJ,if_pos ⟨rfl,by omega,by omega⟩];rfl
def newSt_ig(X:St)(used:Option Nat)(d:Nat)(k:Kd)(cs:List AV)(o:Nat):(R5 X used d k cs).ig o=X.ig o:=by
 unfold R5;rw[celWr_ig];simp only[V2,iA];rw[fT,ig_gen];cases used with
 |none=>rfl
 |some b=>simp only[fT]
section
variable {B:Base}{X:St}{a:Act}{w w':World}{Y:Ly}{used:Option Nat}{d:Nat}{k:Kd}{cs:List AV}{hv:Value}{row:Option Nat}
structure mJ(X:St)(w w':World)(Y:Ly)(used:Option Nat)(hv:Value)(row:Option Nat):Prop where
 grown:w.grownBy w' row
 used_:∀b,row=some b->∃o,used=some o/\Owns X Y o b
 lies:∀b,G3 hv=some b->row=some b\/w.heap.size<=b
def SatR.new(h:SatR B X a w Y)(m:mJ X w w' Y used hv row)(hk:noInn k=true)(hobj:(∀v x,RepI w (Imm B X Y w) v x->RepI w' (Imm B (R5 X used d k cs) (setY Y d hv) w') v x) ->
  (∀v x,RepA w (Imm B X Y w) Y X.gn v x->RepA w' (Imm B (R5 X used d k cs) (setY Y d hv) w') (setY Y d hv) (R5 X used d k cs).gn v x)->aR B (R5 X used d k cs) (setY Y d hv) w' d k) :
  SatR B (R5 X used d k cs) a w' (setY Y d hv):=by
 have hD:∀o,¬(o=d\/used=some o)->o≠d/\used≠some o:=λo hd=>⟨λe=>hd (.inl e),λe=>hd (.inr e)⟩;refine(h.step (λo=>o=d\/used=some o) (λt=>newSt_av ..) (λo hd=>?_) (λo hd=>?_) (λo=>by rw[newSt_ig];exact h.igs o) ?_ (λo b hd ho=>?_) (λo p b hd hp ho a5=>?_) λhI hA o hd=>?_).1
 ·obtain⟨h1,h2⟩:=hD o hd;exact⟨by rw[qO,if_neg h1,if_neg h2],by rw[oH,if_neg h1],λi=>newSt_ce _ _ _ _ _ _ _ h1,by rw[setρ_eq,if_neg h1],rfl,rfl⟩
 ·refine⟨⟨by rw[oH];split<;>(try subst_vars)<;>omega,λe=>?_⟩,H4 _,λ_=>rfl⟩;rw[oH]at e;by_cases e2:o=d
  ·rw[if_pos e2,e2]at e;omega
  ·rw[setρ_eq,if_neg e2]
 ·refine⟨m.grown.os,m.grown.tape,m.grown.output,m.grown.size,λb hb hn=>m.grown.block b hb λe=>?_⟩;obtain⟨o,ho,a3⟩:=m.used_ b e.symm;exact hn ⟨o,.inr ho,a3⟩
 ·by_cases e:o=d
  ·subst e;unfold Owns at ho;rw[qO,if_pos rfl,setρ_eq,if_pos rfl]at ho;rcases m.lies b (fpk_flat hk ho) with h1|h1
   ·obtain⟨p,hp,a4⟩:=m.used_ b h1;exact .inr ⟨p,.inr hp,a4⟩
   ·exact .inl h1
  ·have hu:=hd.resolve_left e;exact absurd (by rw[qO,if_neg e,if_pos hu]) ho.lv
 ·have a2:∀o,(o=d\/used=some o)->Owns (R5 X used d k cs) (setY Y d hv) o b->o=d:=λo hd ho=>by
   by_cases e:o=d
   ·exact e
   ·exact absurd (by rw[qO,if_neg e,if_pos (hd.resolve_left e)]) ho.lv
  rw[a2 o hd ho,a2 p hp a5]
 ·by_cases e:o=d
  ·subst e;rw[qO,if_pos rfl];exact hobj hI hA
  ·rw[qO,if_neg e,if_pos (hd.resolve_left e)];trivial
end
end
section
variable {w:World}{v:Value}{x:AV}{b:Bool}
def Eff(P:Program)(B:Base)(o:Oper)(rd:List Loc)(X:St)(wr:List (Loc×Ct)):Prop :=
 ∀X',(∀l∈rd,X' l=X l)->∀a w,Sat B X' a w->∀(K:Act->World->Prop) (Q:Exit->Act->World->Prop),(∀a' w',Sat B (app X' wr) a' w'->K a' w')->o.wp P a w K Q
section
variable {P:Program}{B:Base}{o:Oper}{X:St}{K:Fx->Prop}
def F7{a:Act}{Y:Ly}(h:SatR B X a w Y)(x:Operand):RepA w (Imm B X Y w) Y X.gn (a.eval x) (evA X x):=by
 cases x with
 |tmp t=>exact h.tms t
 |const v=>exact .im _ _ (.val v)
 |global g=>exact .im _ _ (.any _)
 |func f=>exact .im _ _ (.fn f [] [] rfl (by simp))
def E8{X':St}{x:Operand}(h:∀l∈opd x,X' l=X l):evA X' x=evA X x:=by
 cases x with
 |tmp t =>
  have e:=h (.tmp t) (by simp[opd]);show X'.av t=X.av t;unfold St.av;rw[e]
 |const v=>rfl
 |global g=>rfl
 |func f=>rfl
def RepA.im_inv{S:Nat->Prop}{Y:Ly}{E:Nat->Nat}{x:IV}(h:RepA w S Y E v (.im x)):RepI w S v x:=by
 cases h with
 |im _ _ h=>exact h
def T5{S:Nat->Prop}{Y:Ly}{E:Nat->Nat}{k:IntKind}{n:Int}(e:asInt x=some (k,n))(h:RepA w S Y E v x):v=.int k n:=by
 unfold asInt at e;split at e
 ·injection e with e
  injection e with e1 e2
  subst e1 e2;cases h.im_inv;rfl
 ·cases e
def rP{S:Nat->Prop}{Y:Ly}{E:Nat->Nat}(e:asBool x=some b)(h:RepA w S Y E v x):v=.bool b:=by
 unfold asBool at e;split at e
 ·injection e with e
  subst e;cases h.im_inv;rfl
 ·cases e
def asStr_inv{S:Nat->Prop}{Y:Ly}{E:Nat->Nat}{b:ByteArray}(e:asStr x=some b)(h:RepA w S Y E v x):v=.string b:=by
 unfold asStr at e;split at e
 ·injection e with e
  subst e;cases h.im_inv;rfl
 ·cases e
def gW(hd:J3 B.n o=true):∀t,o.dst=some t->t<B.n:=λt e=>by
 unfold J3 at hd;rw[e]at hd;exact of_decide_eq_true hd
def Eff.pure(hd:J3 B.n o=true){rd:List Loc}{v:AV}
  (h:∀X',(∀l∈rd,X' l=X l)->∀a w Y,SatR B X' a w Y->∃u,(execOp a.eval o).run P w=.ok (.value u) w/\RepA w (Imm B X' Y w) Y X'.gn u v):Eff P B o rd X (wrT o.dst v):=by
 intro X' hag a w ⟨Y,hs⟩ K Q hK;obtain⟨u,hr,hv⟩:=h X' hag a w Y hs;unfold Oper.wp;rw[hr,Oper.upon_value];exact hK _ _ ⟨Y,hs.put (gW hd) hv⟩
def aMove_ok{x:Operand}(hop:o.op=.move x\/o.op=.assign x)(hd:J3 B.n o=true):Eff P B o (opd x) X (wrT o.dst (evA X x)) :=
 Eff.pure hd λX' hag a w Y hs=>⟨a.eval x,by rcases hop with e|e<;>simp[execOp,e],by rw[<- E8 hag];exact F7 hs x⟩
def vB_rep{S:Nat->Prop}{Y:Ly}{E:Nat->Nat}(b:Bool):RepA w S Y E (.bool b) (vB b):=.im _ _ (.val _)
def S8{S:Nat->Prop}{Y:Ly}{E:Nat->Nat}(v:Value):RepA w S Y E v (.im (.val v)):=.im _ _ (.val _)
def I4{X':St}{l m:List Loc}(h:∀x∈l++m,X' x=X x):∀x∈l,X' x=X x:=λx hx=>h x (M1 _ hx)
def J6{X':St}{l m:List Loc}(h:∀x∈l++m,X' x=X x):∀x∈m,X' x=X x:=λx hx=>h x (M2 _ hx)
def Both.out{A C:Prop}(h:Both b A C):(b=true->A)/\(b=false->C):=by unfold Both at h;exact h
def Nf.out{V:Type}{a:V}{F:V->Prop}(h:Nf a F):F a:=by unfold Nf at h;obtain⟨b,rfl,h⟩:=h;exact h
def Cut.out{body:(St->Prop)->Prop}{rest:St->Prop}(h:Cut body rest):∃Post:St->Prop,body (λX'=>∃X1,Ent X' X1/\Post X1)/\∀X,Post X->∃J,Holds X J/\(J->rest X):=by unfold Cut at h;exact h
def Side.out{A C:Prop}(h:Side A C):A/\C:=by unfold Side at h;exact h
def aPick_ok{c x y:Operand}(hop:o.op=.pick c x y)(hd:J3 B.n o=true)(h:aPick o X K c x y):∃fx,K fx/\Eff P B o fx.rd X fx.wr:=by
 unfold aPick at h;split at h
 ·rename_i t ht
  have run:∀X',(∀l∈opd c++opd x++opd y,X' l=X l)->∀a w Y,SatR B X' a w Y->(execOp a.eval o).run P w=.ok (.value (if t=true then a.eval x else a.eval y)) w:=λX' hag a w Y hs=>by
   have h1:=F7 hs c;rw[E8 (I4 (I4 hag))]at h1;simp[execOp,hop,rP ht h1,Go.asBool]
  have h:=h.out;cases ht2:t with
  |true =>
   refine⟨_,h.1 ht2,Eff.pure hd λX' hag a w Y hs=>⟨_,run X' hag a w Y hs,?_⟩⟩;have h1:=F7 hs x;rw[E8 (J6 (I4 hag))]at h1;rw[ht2];exact h1
  |false =>
   refine⟨_,h.2 ht2,Eff.pure hd λX' hag a w Y hs=>⟨_,run X' hag a w Y hs,?_⟩⟩;have h1:=F7 hs y;rw[E8 (J6 hag)]at h1;rw[ht2];exact h1
 ·exact h.elim
def rng_wrap{k:IntKind}{n:Int}(h:rng k n):k.wrap n=n:=by
 unfold rng at h;split at h
 ·exact IntWalk.i64_in n (by unfold inR at h;exact h)
 ·simp[IntKind.wrap,IntKind.bits,IntKind.signed];omega
 ·simp[IntKind.wrap,IntKind.bits,IntKind.signed];omega
 ·exact h.elim
def dI.out{k:IntKind}{n:Int}{F:Int->Prop}(h:dI k n F):F (k.wrap n):=by
 unfold dI at h;rcases h with⟨h1,h2⟩|h
 ·rw[rng_wrap h1];exact h2
 ·exact h
def aUn_ok{op:UnOp}{x:Operand}{t:TypeId}(hop:o.op=.unOp op t x)(hd:J3 B.n o=true)(h:aUn o X K op x):∃fx,K fx/\Eff P B o fx.rd X fx.wr:=by
 unfold aUn at h;split at h
 ·rename_i b hb;refine⟨_,h,Eff.pure hd λX' hag a w Y hs=>⟨.bool !b,?_,vB_rep _⟩⟩;have h1:=F7 hs x;rw[E8 hag]at h1;simp[execOp,hop,rP hb h1,Op.unary]
 ·split at h
  ·rename_i k n hx;refine⟨_,h.out,Eff.pure hd λX' hag a w Y hs=>⟨.int k (k.wrap (0-n)),?_,S8 _⟩⟩;have h1:=F7 hs x;rw[E8 hag]at h1;simp[execOp,hop,T5 hx h1,Op.unary,Op.intArith]
  ·exact h.elim
 ·exact h.elim
def aBin_ok{op:BinOp}{x y:Operand}{t t':TypeId}(hop:o.op=.binOp op t x y t')(hd:J3 B.n o=true)(h:aBin P o X K op t x y):∃fx,K fx/\Eff P B o fx.rd X fx.wr:=by
 unfold aBin at h;split at h
 ·rename_i a6;have a2:op=.shr:=by cases op<;>first|rfl|cases a6
  subst a2;split at h
  ·rename_i k a kb b k' hx hy hu;obtain⟨hk,h⟩:=h.ok;simp only[M7,decide_eq_true_eq]at hk;obtain⟨rfl,rfl⟩:=hk;obtain⟨⟨h1,h2,h3,h4⟩,h⟩:=h.out;refine⟨_,h,Eff.pure hd λX' hag c w Y hs=>⟨_,?_,S8 _⟩⟩;have g1:=F7 hs x;have g2:=F7 hs y;rw[E8 (I4 hag)]at g1;rw[E8 (J6 hag)]at g2;have a5:min b.toNat IntKind.u64.bits=b.toNat:=by simp[IntKind.bits];omega
   have hb:¬b<0:=by omega
   have a4:binOp .shr t (.int .u64 a) (.int kb b)=Pure.pure (.int .u64 (a / 2^b.toNat)):=by
    simp only[binOp,Op.shift,if_neg hb,a5];rw[Int.fdiv_eq_ediv_of_nonneg a (by exact Int.le_of_lt (Int.pow_pos (by decide)))]
   simp only[execOp,hop,T5 hx g1,T5 hy g2,Sem.run_bind,eqGuard,Result.andThen_ok,a4,Sem.run_pure];rfl
  ·exact h.elim
 split at h
 ·rename_i a b hx hy;obtain⟨hk,h2⟩:=h.ok;clear h;rw[M7]at hk;have a2:op=.add:=by cases op<;>first|rfl|cases hk.2
  subst a2;obtain⟨h1,h⟩:=h2.out;refine⟨_,h,Eff.pure hd λX' hag c w Y hs=>⟨_,?_,S8 _⟩⟩;have g1:=F7 hs x;have g2:=F7 hs y;rw[E8 (I4 hag)]at g1;rw[E8 (J6 hag)]at g2
  have a7:¬(((a.size+b.size:Nat):Int) > IntKind.i64.max):=by
   have:IntKind.i64.max=9223372036854775807:=by rfl
   rw[this];omega
  simp only[execOp,hop,asStr_inv hx g1,asStr_inv hy g2,Sem.run_bind,eqGuard,Result.andThen_ok,binOp,Op.stringOp,if_neg a7,Sem.run_pure];rfl
 ·split at h
  ·rename_i k b k' d hx hy;obtain⟨hk,h⟩:=h.ok;have hk:=of_decide_eq_true hk;subst hk
   have fin:∀v:Value,(binOp op t (.int k b) (.int k d)=Pure.pure v)->Eff P B o (opd x++opd y) X (wrT o.dst (.im (.val v))):=λv hv =>
    Eff.pure hd λX' hag a w Y hs=>by
     have h1:=F7 hs x;have h2:=F7 hs y;rw[E8 (I4 hag)]at h1;rw[E8 (J6 hag)]at h2;refine⟨v,?_,S8 _⟩
     have hg:∀W,(eqGuard op t x y (.int k b) (.int k d)).run P W=.ok () W:=λW=>by
      unfold eqGuard;cases op<;>rfl
     simp only[execOp,hop,T5 hx h1,T5 hy h2,Sem.run_bind,hg,Result.andThen_ok,hv,Sem.run_pure]
   cases op<;>simp only at h
   case add=>exact⟨_,h.out,fin _ (by simp[binOp,Op.intArith])⟩
   case sub=>exact⟨_,h.out,fin _ (by simp[binOp,Op.intArith])⟩
   case mul=>exact⟨_,h.out,fin _ (by simp[binOp,Op.intArith])⟩
   case quo =>
    obtain⟨⟨h1,h2,h3⟩,h⟩:=h.out;exact⟨_,h,fin _ (by simp[binOp,Op.intDiv,Int.tdiv_eq_ediv_of_nonneg h2,rng_wrap h1];omega)⟩
   case rem =>
    obtain⟨⟨h1,h2,h3⟩,h⟩:=h.out;exact⟨_,h,fin _ (by simp[binOp,Op.intDiv,Int.tmod_eq_emod_of_nonneg h2];omega)⟩
   case xor=>exact⟨_,h,fin _ (by simp[binOp,Op.intBits,xorK])⟩
   case eql=>exact⟨_,h,fin _ (by simp[binOp,Op.intCmp];rfl)⟩
   case neq=>exact⟨_,h,fin _ (by simp[binOp,Op.intCmp,bne];rfl)⟩
   case lss=>exact⟨_,h,fin _ (by simp[binOp,Op.intCmp])⟩
   case leq=>exact⟨_,h,fin _ (by simp[binOp,Op.intCmp])⟩
   case gtr=>exact⟨_,h,fin _ (by simp[binOp,Op.intCmp])⟩
   case geq=>exact⟨_,h,fin _ (by simp[binOp,Op.intCmp])⟩
   all_goals exact h.elim
  ·split at h
   ·rename_i b d hx hy
    have fin:∀v:Value,(∀W,(binOp op t (.bool b) (.bool d)).run P W=.ok v W)->Eff P B o (opd x++opd y) X (wrT o.dst (.im (.val v))):=λv hv =>
     Eff.pure hd λX' hag a w Y hs=>by
      have h1:=F7 hs x;have h2:=F7 hs y;rw[E8 (I4 hag)]at h1;rw[E8 (J6 hag)]at h2;refine⟨v,?_,S8 _⟩
      have hg:∀W,(eqGuard op t x y (.bool b) (.bool d)).run P W=.ok () W:=λW=>by
       unfold eqGuard;cases op<;>rfl
      simp only[execOp,hop,rP hx h1,rP hy h2,Sem.run_bind,hg,Result.andThen_ok,hv,Sem.run_pure]
    have a3:isBl P t=true->P.underlying t=some .bool:=λe=>by
     unfold isBl at e;split at e
     ·assumption
     ·cases e
    cases op<;>simp only at h
    case eql=>obtain⟨h1,h⟩:=h.ok;exact⟨_,h,fin _ (λW=>run_eql_bool W t b d (a3 h1))⟩
    case neq=>obtain⟨h1,h⟩:=h.ok;exact⟨_,h,fin _ (λW=>run_neq_bool W t b d (a3 h1))⟩
    all_goals exact h.elim
   ·exact h.elim
def nilP_inv{S:Nat->Prop}{Y:Ly}{E:Nat->Nat}(e:nilP x=some b)(h:RepA w S Y E v x):∃q:Option Addr,v=.pointer q/\q.isNone=b:=by
 unfold nilP at e;split at e
 ·injection e with e
  have h:=h.im_inv;cases h;exact⟨none,rfl,e⟩
 ·injection e with e
  have h:=h.im_inv;cases h;exact⟨_,rfl,e⟩
 ·injection e with e
  have h:=h.im_inv;cases h;exact⟨_,rfl,e⟩
 ·cases e
def run_eq_nil{t:TypeId}(hp:isPt P t=true)(q:Option Addr)(W:World):(Op.equal t (.pointer q) (.pointer none)).run P W=.ok q.isNone W:=by
 unfold isPt at hp;split at hp
 ·rename_i e hu;unfold Op.equal Op.maxDepth Op.equalIn;rw[Sem.run_bind,run_underlying hu];cases q<;>simp
 ·cases hp
def aBinN_ok{op:BinOp}{t z:TypeId}{x y:Operand}(hop:o.op=.binOp op t x y z)(hp:isPt P t=true)(hd:J3 B.n o=true)(h:aBinN o X K op x y):∃fx,K fx/\Eff P B o fx.rd X fx.wr:=by
 unfold aBinN at h;split at h
 ·rename_i b hx hy
  have fin:∀v:Value,(∀q W,q.isNone=b->(binOp op t (.pointer q) (.pointer none)).run P W=.ok v W)->Eff P B o (opd x++opd y) X (wrT o.dst (.im (.val v))):=λv hv =>
   Eff.pure hd λX' hag a w Y hs=>by
    have h1:=F7 hs x;have h2:=F7 hs y;rw[E8 (I4 hag)]at h1;rw[E8 (J6 hag)]at h2;obtain⟨q,e1,e2⟩:=nilP_inv hx h1;obtain⟨q',e3,e4⟩:=nilP_inv hy h2;cases q' with
    |some _=>cases e4
    |none =>
     refine⟨v,?_,S8 _⟩
     have hg:∀W,(eqGuard op t x y (.pointer q) (.pointer none)).run P W=.ok () W:=λW=>by
      unfold eqGuard;cases op<;>rfl
     simp only[execOp,hop,e1,e3,Sem.run_bind,hg,Result.andThen_ok,hv q _ e2,Sem.run_pure]
  cases op<;>simp only at h
  case eql=>exact⟨_,h,fin _ λq W e=>by simp only[binOp,Sem.run_bind,run_eq_nil hp,Result.andThen_ok,Sem.run_pure,e]⟩
  case neq=>exact⟨_,h,fin _ λq W e=>by simp only[binOp,Sem.run_bind,run_eq_nil hp,Result.andThen_ok,Sem.run_pure,e]⟩
  all_goals exact h.elim
 ·exact h.elim
def isNilC_inv{S:Nat->Prop}{Y:Ly}{E:Nat->Nat}(e:isNilC x=true)(h:RepA w S Y E v x):v=.slice none 0 0:=by
 unfold isNilC at e;split at e
 ·have h:=h.im_inv;cases h;rfl
 ·cases e
def nilS_inv{S:Nat->Prop}{Y:Ly}{E:Nat->Nat}(e:nilS x b)(h:RepA w S Y E v x):∃(q:Option Addr) (n c:Nat),v=.slice q n c/\q.isNone=b:=by
 unfold nilS at e;split at e
 ·have h:=h.im_inv;rcases e with⟨rfl,rfl⟩|⟨rfl,es,rfl⟩
  ·cases h;exact⟨none,0,0,rfl,rfl⟩
  ·cases h;exact⟨_,_,_,rfl,rfl⟩
 ·exact e.elim
def zq11{t:TypeId}(hp:isSl P t=true)(q:Option Addr)(n c:Nat)(W:World):(Op.equal t (.slice q n c) (.slice none 0 0)).run P W=.ok q.isNone W:=by
 unfold isSl at hp;split at hp
 ·rename_i e hu;unfold Op.equal Op.maxDepth Op.equalIn;rw[Sem.run_bind,run_underlying hu];cases q<;>simp
 ·cases hp
def aBinZ_ok{op:BinOp}{t z:TypeId}{x y:Operand}(hop:o.op=.binOp op t x y z)(hp:isSl P t=true)(hd:J3 B.n o=true)(h:aBinZ o X K op x y):∃fx,K fx/\Eff P B o fx.rd X fx.wr:=by
 unfold aBinZ at h;split at h
 ·rename_i hy;obtain⟨b,hx,h⟩:=h
  have fin:∀v:Value,(∀q n c W,q.isNone=b->(binOp op t (.slice q n c) (.slice none 0 0)).run P W=.ok v W)->Eff P B o (opd x++opd y) X (wrT o.dst (.im (.val v))):=λv hv =>
   Eff.pure hd λX' hag a w Y hs=>by
    have h1:=F7 hs x;have h2:=F7 hs y;rw[E8 (I4 hag)]at h1;rw[E8 (J6 hag)]at h2;obtain⟨q,n,c,e1,e2⟩:=nilS_inv hx h1;have e3:=isNilC_inv hy h2;refine⟨v,?_,S8 _⟩
    have hg:∀W,(eqGuard op t x y (.slice q n c) (.slice none 0 0)).run P W=.ok () W:=λW=>by
     unfold eqGuard;cases op<;>rfl
    simp only[execOp,hop,e1,e3,Sem.run_bind,hg,Result.andThen_ok,hv q n c _ e2,Sem.run_pure]
  cases op<;>simp only at h
  case eql=>exact⟨_,h,fin _ λq n c W e=>by simp only[binOp,Sem.run_bind,zq11 hp,Result.andThen_ok,Sem.run_pure,e]⟩
  case neq=>exact⟨_,h,fin _ λq n c W e=>by simp only[binOp,Sem.run_bind,zq11 hp,Result.andThen_ok,Sem.run_pure,e]⟩
  all_goals exact h.elim
 ·exact h.elim
def aConvert_ok{s d:TypeId}{x:Operand}(hop:o.op=.convert s d x)(hd:J3 B.n o=true)(hsrc:∃u,P.underlying s=some u)(h:aConvert P o X K d x):∃fx,K fx/\Eff P B o fx.rd X fx.wr:=by
 unfold aConvert at h;split at h
 ·rename_i k0 n k hx hu;obtain⟨h1,h⟩:=h.out;obtain⟨u,a2⟩:=hsrc;refine⟨_,h,Eff.pure hd λX' hag a w Y hs=>⟨.int k n,?_,S8 _⟩⟩;have h2:=F7 hs x;rw[E8 hag]at h2;simp[execOp,hop,T5 hx h2,convert,run_underlying hu,run_underlying a2,Conv.intToInt,rng_wrap h1]
 ·exact h.elim
end
end
section
variable {t:TypeId}{w:World}{b:Nat}
section
variable {P:Program}{B:Base}{o:Oper}{X:St}{K:Fx->Prop}
def agg_run{b:Bool}(h:fO P t=some b)(w:World):(isAgg t).run P w=.ok b w:=by
 unfold fO at h;cases hu:P.underlying t with
 |none=>rw[hu]at h;cases h
 |some d =>
  rw[hu]at h;simp only[L5,D4]at h;cases d<;>simp_all [isAgg,run_underlying hu]
def bH{m:Nat}(h:szOf P t=some m)(w:World):(Go.sizeOf t).run P w=.ok m w:=by
 unfold szOf at h;cases hi:P.info? t with
 |none=>rw[hi]at h;cases h
 |some i =>
  rw[hi]at h;simp only[L5,D4]at h;simp[Go.sizeOf,typeInfo,hi,h]
def fld_spec{f off ft:Nat}(h:fldOf P t f=some (off,ft)):∃fs x,P.underlying t=some (.struct fs)/\fs[f]?=some x/\x.offset=off/\x.type=ft:=by
 unfold fldOf at h;split at h
 ·rename_i fs hu;cases hx:fs[f]? with
  |none=>rw[hx]at h;cases h
  |some x =>
   rw[hx]at h;simp only[L5,D4,G0]at h;exact⟨fs,x,hu,hx,h.1,h.2⟩
 ·cases h
def bX{t e:TypeId}(h:V9 P t=some e):P.underlying t=some (.slice e):=by
 unfold V9 at h;split at h
 ·rename_i e' hu;injection h with h
  rw[<- h];exact hu
 ·cases h
def V1{X':St}(h:X' (.gen b)=X (.gen b)):X'.gn b=X.gn b:=by unfold St.gn;rw[h]
def tA{X':St}(h:X' (.knd b)=X (.knd b)):X'.kd b=X.kd b:=by unfold St.kd;rw[h]
def ce_same{X':St}{b i:Nat}(h:X' (.cel b i)=X (.cel b i)):X'.ce b i=X.ce b i:=by unfold St.ce;rw[h]
def boxLen_same{X':St}(h:X'.kd b=X.kd b):dM X' b=dM X b:=by unfold dM;rw[h]
def toIVs_spec:∀{cs:List AV} {l:List IV},toIVs cs=some l->cs=l.map .im
 |[],l,h=>by simp only[toIVs,D4]at h;subst h;rfl
 | .im x::cs,l,h=>by
  simp only[toIVs]at h;cases hc:toIVs cs with
  |none=>rw[hc]at h;cases h
  |some l' =>
   rw[hc]at h;simp only[L5,D4]at h;subst h;rw[toIVs_spec hc];rfl
 | .own ..::_,_,h=>by cases h
 | .osl ..::_,_,h=>by cases h
 | .elt ..::_,_,h=>by cases h
 | .fn ..::_,_,h=>by cases h
 | .agg ..::_,_,h=>by cases h
 | .tup ..::_,_,h=>by cases h
def Reps(w:World)(S:Nat->Prop)(Y:Ly)(E:Nat->Nat)(us:List Value)(cs:List AV):Prop :=
 us.length=cs.length/\∀(i:Nat) u x,us[i]?=some u->cs[i]?=some x->RepA w S Y E u x
def W9(w:World)(S:Nat->Prop)(us:List Value)(cs:List IV):Prop :=
 us.length=cs.length/\∀(i:Nat) u x,us[i]?=some u->cs[i]?=some x->RepI w S u x
def Reps.ims{S:Nat->Prop}{Y:Ly}{E:Nat->Nat}{us:List Value}{l:List IV}(h:Reps w S Y E us (l.map .im)):W9 w S us l :=
 ⟨by simpa using h.1,λi u x hu hx=>(h.2 i u (.im x) hu (by simp[hx])).im_inv⟩
def tJ{S:Nat->Prop}{Y:Ly}{E:Nat->Nat}{us:List Value}{cs:List AV}(h:Reps w S Y E us cs)(h1:∀u∈us,u.oneCell'=true):RepA w S Y E (.agg us.toArray) (aggA cs):=by
 unfold aggA;split
 ·rename_i l hl;have e:=toIVs_spec hl;rw[e]at h;have h:=h.ims;exact .im _ _ (.agg us l h.1 h1 h.2)
 ·exact .agg us cs h.1 h1 h.2
def lG{a:Act}{Y:Ly}(h:SatR B X a w Y){v:Value}{b g i m:Nat}(hv:RepA w (Imm B X Y w) Y X.gn v (.own b g i))(hg:X.gn b=g)(hk:X.kd b=.box t m) :
  ∃(q:Nat) (us:List Value),v=.pointer (some ⟨q,i,none⟩)/\Y b=.pointer (some ⟨q,0,none⟩)/\w.heap[q]?=some (.cells us.toArray t (0,0))/\us.length=m/\(∀u∈us,u.oneCell'=true) /\
   (∀(j:Nat) u,us[j]?=some u->w.cell? ⟨q,j,none⟩=some u)/\∀(j:Nat) u,us[j]?=some u->RepA w (Imm B X Y w) Y X.gn u (X.ce b j):=by
 cases hv with
 |own _ _ _ _ h1 hgg hh =>
  obtain⟨q,e1,e2⟩:=hh hg;have ho:=h.obs b;rw[hk]at ho;obtain⟨q',us,e3,h3,h4,h5,h6⟩:=ho;rw[e1]at e3;injection e3 with e3
  injection e3 with e3
  injection e3 with e3
  subst e3;refine⟨q,us,e2,e1,h3,h4,h5,λj u hu=>?_,h6⟩;unfold World.cell?;simp only[h3];simpa using hu
def uV{b i:Nat}(h:i<dM X b):∃t m,X.kd b=.box t m/\i<m:=by
 unfold dM at h;split at h
 ·rename_i t m hk;exact⟨t,m,hk,h⟩
 ·omega
def yM{m:Nat}(h:X.kd b=.box t m):dM X b=m:=by unfold dM;rw[h]
def flat_get{V:Type}{k:Nat}:∀{es:List (List V)} {i j:Nat} {e:List V},(∀x∈es,x.length=k)->es[i]?=some e->j<k->es.flatten[i*k+j]?=e[j]?
 |[],i,j,e,_,h,_=>by simp at h
 |x::es,0,j,e,hk,h,hj=>by
  simp only[MJ,D4]at h;subst h;have:=hk x (by simp);rw[V6,pU,J9,T8,if_pos (by omega)]
 |x::es,i+1,j,e,hk,h,hj=>by
  have hx:=hk x (by simp);rw[V6,T8,if_neg (by rw[hx,Nat.add_mul];omega),hx];have e1:(i+1)*k+j-k=i*k+j:=by rw[Nat.add_mul];omega
  rw[e1];exact flat_get (λy hy=>hk y (by simp[hy])) (by simpa using h) hj
def U5{V:Type}{k:Nat}:∀{es:List (List V)},(∀x∈es,x.length=k)->es.flatten.length=es.length*k
 |[],_=>by simp
 |x::es,h=>by
  rw[V6,D7,U5 λy hy=>h y (by simp[hy]),h x (by simp),H7,Nat.add_mul];omega
def esOf_cases{k:Kd}{es:List (List IV)}(h:esOf k=some es):∃t n,k=.row t n es\/k=.que t n es:=by
 cases k with
 |row t n es'=>injection h with h;subst h;exact⟨t,n,.inl rfl⟩
 |que t n es'=>injection h with h;subst h;exact⟨t,n,.inr rfl⟩
 |_=>cases h
def es_form{a:Act}{Y:Ly}(h:SatR B X a w Y){es:List (List IV)}(hk:esOf (X.kd b)=some es):∃(k:Nat) (us:List Value),(∀x∈es,x.length=k)/\us.length=es.flatten.length/\(∀u∈us,u.oneCell'=true)/\(∀(p:Nat) u x,us[p]?=some u->es.flatten[p]?=some x->RepI w (Imm B X Y w) u x) /\
  ((Y b=.slice none 0 0/\es.length=0)\/∃q off cap,Y b=.slice (some ⟨q,off,none⟩) es.length cap/\∀(p:Nat) u,us[p]?=some u->w.cell? ⟨q,off+p,none⟩=some u):=by
 obtain⟨t,n,hk|hk⟩:=esOf_cases hk
 ·have ho:=h.obs b;rw[hk]at ho;obtain⟨us,h2,h3,h4,h5,h6,h7,h8⟩:=ho;refine⟨n,us,h3,h6,h7,h8,?_⟩;rcases h5.2 with⟨e,e0⟩|⟨q,cap,cur,e,e4⟩
  ·exact .inl ⟨e,e0⟩
  ·refine .inr ⟨q,0,cap,e,λp u hu=>?_⟩;have:=h5.cells (g:=q) (by rw[e];rfl) p u hu
   rwa [addr_add]at this
 ·have ho:=h.obs b;rw[hk]at ho;obtain⟨us,h2,h3,h4,h5,h6,h7,h8⟩:=ho;refine⟨n,us,h3,h5,h6,h7,?_⟩;rcases h8 with⟨e,e0⟩|⟨q,off,cap,cur,e,e1,e2,e3,e4,e5⟩
  ·exact .inl ⟨e,by rw[e0];rfl⟩
  ·exact .inr ⟨q,off,cap,e,λp u hu=>by unfold World.cell?;simp only[e1];simpa using e5 p u hu⟩
def elt_read{a:Act}{Y:Ly}(h:SatR B X a w Y){v:Value}{b g k i j:Nat}{es:List (List IV)}{e:List IV}(hv:RepA w (Imm B X Y w) Y X.gn v (.elt b g k i j))(hg:X.gn b=g)(hk:esOf (X.kd b)=some es)
  (he:es[i]?=some e) (hek:e.length=k):∃(q off:Nat) (us:List Value),v=.pointer (some ⟨q,off+(i*k+j),none⟩)/\us.length=es.flatten.length/\(∀x∈es,x.length=k)/\(∀u∈us,u.oneCell'=true) /\
   (∀(p:Nat) u,us[p]?=some u->w.cell? ⟨q,off+p,none⟩=some u)/\∀(p:Nat) u x,us[p]?=some u->es.flatten[p]?=some x->RepI w (Imm B X Y w) u x:=by
 cases hv with
 |elt _ _ _ _ _ _ h1 hgg hh =>
  obtain⟨q,off,n,c,e1,e2⟩:=hh hg;obtain⟨kk,us,h3,h6,h7,h8,h9⟩:=es_form h hk;have a3:kk=k:=by rw[<- hek];exact(h3 e (H8 he)).symm
  subst a3;rcases h9 with⟨f1,f2⟩|⟨q',a2,a4,f1,f2⟩
  ·rw[f1]at e1;cases e1
  ·rw[f1]at e1;injection e1 with e1 _ _
   injection e1 with e1
   injection e1 with e1 e3
   subst e1 e3;exact⟨q',a2,us,e2,h6,h3,h7,f2,h8⟩
def bK{a b:Nat}(h:Nat.blt a b=true):a<b:=by simp[Nat.blt]at h;omega
def iG{a b:Nat}(h:Nat.ble a b=true):a<=b:=by simpa using h
def qP(h:fO P t=some false){ad:Addr}{u:Value}(hu:w.cell? ad=some u):(Instr.loadAt t (.pointer (some ad))).run P w=.ok u w:=by
 simp[Instr.loadAt,Instr.sureAddr,loadVar,agg_run h,hu]
def tT{us:List Value}(h:fO P t=some true)(hs:szOf P t=some us.length){b q:Nat}(hu:∀(j:Nat) u,us[j]?=some u->w.cell? ⟨b,q+j,none⟩=some u):(Instr.loadAt t (.pointer (some ⟨b,q,none⟩))).run P w=.ok (.agg us.toArray) w:=by
 have:=run_loadCells_list (P:=P) (w:=w) ⟨b,q,none⟩ us (λj u hj=>by rw[addr_add];exact hu j u hj);simp[Instr.loadAt,Instr.sureAddr,loadVar,agg_run h,bH hs,this]
def iY{V:Type}{l:List V}{i m j:Nat}{x:V}(h:((l.drop i).take m)[j]?=some x):l[i+j]?=some x/\j<m:=by
 rw[R3]at h;split at h
 ·rename_i hj;rw[W6]at h;exact⟨h,hj⟩
 ·cases h
def Z7{X':St}{l:List Loc}{r:List Loc}(h:∀x∈l++(.gen b::.knd b::r),X' x=X x):(∀x∈l,X' x=X x)/\X'.gn b=X.gn b/\X'.kd b=X.kd b/\∀x∈r,X' x=X x :=
 ⟨I4 h,V1 (J6 h _ (by simp)),tA (J6 h _ (by simp)),λx hx=>J6 h x (by simp[hx])⟩
def aLoad_ok{p:Operand}(hop:o.op=.load t p)(hd:J3 B.n o=true)(h:aLoad P o X K t p):∃fx,K fx/\Eff P B o fx.rd X fx.wr:=by
 have run:∀(a:Act) w v,(Instr.loadAt t (a.eval p)).run P w=.ok v w->(execOp a.eval o).run P w=.ok (.value v) w:=λa w v hv=>by simp[execOp,hop,hv]
 unfold aLoad at h;split at h
 ·rename_i a3;split at h
  ·rename_i c cs hp;refine⟨_,h,Eff.pure hd λX' hag a w Y hs=>?_⟩;have h1:=F7 hs p;rw[E8 hag,hp]at h1;have h1:=h1.im_inv;generalize hv:a.eval p=v at h1;cases h1 with
   |ref b q us _ hS hl a2 hu hr =>
    have b2:0<us.length:=by rw[hl];simp
    obtain⟨u,b4⟩:∃u,us[0]?=some u:=⟨_,L4 b2⟩;exact⟨u,run a w u (by rw[hv];exact qP a3 (hu 0 u b4)),.im _ _ (hr 0 u c b4 rfl)⟩
  ·rename_i b g i hp;obtain⟨hi,h⟩:=h.ok;obtain⟨hg,h⟩:=h.out;obtain⟨t',m,hk,b8⟩:=uV (bK hi);refine⟨_,h,Eff.pure hd λX' hag a w Y hs=>?_⟩;obtain⟨ha,hg',a5,b0⟩:=Z7 hag;have h1:=F7 hs p;rw[E8 ha,hp]at h1;obtain⟨q,us,e,_,_,hl,a2,hc,hr⟩:=lG hs h1 (hg'.trans hg) (a5.trans hk);obtain⟨u,hu⟩:∃u,us[i]?=some u:=⟨_,L4 (by omega)⟩;refine⟨u,run a w u (by rw[e];exact qP a3 (hc i u hu)),?_⟩;rw[<- ce_same (b0 (.cel b i) (by simp))];exact hr i u hu
  ·rename_i b g k i j hp;split at h
   ·rename_i es hk;obtain⟨e,c,⟨hg,he,hc,a6⟩,h⟩:=h;refine⟨_,h,Eff.pure hd λX' hag a w Y hs=>?_⟩;obtain⟨ha,hg',a5,_⟩:=Z7 hag;have h1:=F7 hs p;rw[E8 ha,hp]at h1;obtain⟨q,off,us,ev,hl,a7,a2,a9,hr⟩:=elt_read hs h1 (hg'.trans hg) (by rw[a5];exact hk) he a6;have hj:j<k:=by rw[<- a6];exact(G4.1 hc).1
    have hf:=flat_get a7 he hj;rw[hc]at hf;obtain⟨u,hu⟩:∃u,us[i*k+j]?=some u:=⟨_,L4 (by rw[hl];exact(G4.1 hf).1)⟩;exact⟨u,run a w u (by rw[ev];exact qP a3 (a9 _ u hu)),.im _ _ (hr _ u c hu hf)⟩
   ·exact h.elim
  ·exact h.elim
 ·rename_i a3;split at h
  ·rename_i m hm;split at h
   ·rename_i cs hp;obtain⟨hi,h⟩:=h.ok;have hi:=iG hi;refine⟨_,h,Eff.pure hd λX' hag a w Y hs=>?_⟩;have h1:=F7 hs p;rw[E8 hag,hp]at h1;have h1:=h1.im_inv;generalize hv:a.eval p=v at h1;cases h1 with
    |ref b q us _ hS hl a2 hu hr =>
     have a4:(us.take m).length=m:=by rw[H6];omega
     refine⟨.agg (us.take m).toArray,run a w _ (by
      rw[hv]
      exact tT a3 (by rw[a4];exact hm) λj u hj=>hu j u (by rw[R3]at hj;split at hj;exact hj;cases hj)),.im _ _ (.agg _ _ (by rw[a4,H6];omega) (λu b5=>a2 u (Q1 b5)) λj u x hj hx=>?_)⟩
     rw[R3]at hj hx;split at hj
     ·rename_i a8;rw[if_pos a8]at hx;exact hr j u x hj hx
     ·cases hj
   ·rename_i b g i hp;obtain⟨hi,h⟩:=h.ok;obtain⟨hg,h⟩:=h.out;rw[M7]at hi;have c6:=bK hi.1;have hi:=iG hi.2;refine⟨_,h,Eff.pure hd λX' hag a w Y hs=>?_⟩;have b3:∀x∈opd p++(.gen b::.knd b::(List.range m).map (λj=>Loc.cel b (i+j))),X' x=X x:=λx hx=>hag x (by simpa using hx);obtain⟨ha,hg',a5,b0⟩:=Z7 b3;have h1:=F7 hs p;rw[E8 ha,hp]at h1;obtain⟨t',m',hk,b8⟩:=uV (X:=X) (b:=b) (i:=i) (by omega);obtain⟨q,us,e,_,_,hl,a2,hc,hr⟩:=lG hs h1 (hg'.trans hg) (a5.trans hk);have c8:=yM hk;have a4:((us.drop i).take m).length=m:=by rw[H6,O5];omega
    refine⟨.agg ((us.drop i).take m).toArray,run a w _ (by
     rw[e]
     exact tT a3 (by rw[a4];exact hm) λj u hj=>hc (i+j) u (iY hj).1),tJ ⟨by rw[a4];simp,λj u x hj hx=>?_⟩ λu hu=>a2 u (V7 (Q1 hu))⟩
    obtain⟨h3,a8⟩:=iY hj;simp only[K5,bT a8,L5,D4]at hx;rw[<- hx,<- ce_same (b0 (.cel b (i+j)) (by simp;exact a8))];exact hr _ u h3
   ·rename_i b g k i j hp;split at h
    ·rename_i es hk;obtain⟨e,⟨hg,he,c0,a6⟩,h⟩:=h;refine⟨_,h,Eff.pure hd λX' hag a w Y hs=>?_⟩;obtain⟨ha,hg',a5,_⟩:=Z7 hag;have h1:=F7 hs p;rw[E8 ha,hp]at h1;obtain⟨q,off,us,ev,hl,a7,a2,a9,hr⟩:=elt_read hs h1 (hg'.trans hg) (by rw[a5];exact hk) he a6;have b7:i<es.length:=(G4.1 he).1;have b6:=U5 a7
     have b9:i*k+k<=es.length*k:=by
      have:=bD k (show i+1<=es.length from b7);rw[Nat.add_mul]at this;omega
     have a4:((us.drop (i*k+j)).take m).length=m:=by rw[H6,O5,hl,b6];omega
     refine⟨.agg ((us.drop (i*k+j)).take m).toArray,run a w _ (by
      rw[ev]
      exact tT a3 (by rw[a4];exact hm) λp u hj=>by rw[U7];exact a9 _ u (iY hj).1),.im _ _ (.agg _ _ (by rw[a4,H6,O5];omega) (λu hu=>a2 u (V7 (Q1 hu))) λp u x hj hx=>?_)⟩
     obtain⟨h3,c7⟩:=iY hj;obtain⟨h4,_⟩:=iY hx;have hf:=flat_get a7 he (j:=j+p) (by omega);rw[h4,<- U7]at hf;exact hr _ u x h3 hf
    ·exact h.elim
   ·exact h.elim
  ·exact h.elim
 ·exact h.elim
def aFieldAddr_ok{p:Operand}{f:Nat}(hop:o.op=.fieldAddr t p f)(hd:J3 B.n o=true)(h:DN P o X K t p f):∃fx,K fx/\Eff P B o fx.rd X fx.wr:=by
 unfold DN at h;split at h
 ·rename_i off ft hf;split at h
  ·rename_i m hm;obtain⟨h0,h⟩:=h.ok;have h0:=bK h0;obtain⟨fs,x,hu,hx,a6,a4⟩:=fld_spec hf
   have run:∀(a:Act) w q i,a.eval p=.pointer (some ⟨q,i,none⟩)->(execOp a.eval o).run P w=.ok (.value (.pointer (some ⟨q,i+off,none⟩))) w:=λa w q i hv=>by
    have a5:=bH hm w;have a7:¬m=0:=by omega
    simp[execOp,hop,hv,Instr.fieldAt,run_underlying hu,hx,Instr.sureAddr,fieldPlace,a4,a5,a7,addr_add,a6]
   split at h
   ·rename_i cs hp;refine⟨_,h,Eff.pure hd λX' hag a w Y hs=>?_⟩;have h1:=F7 hs p;rw[E8 hag,hp]at h1;have h1:=h1.im_inv;generalize hv:a.eval p=v at h1;cases h1 with
    |ref b q us _ hS hl a2 hu hr =>
     refine⟨_,run a w b q hv,.im _ _ (.ref b (q+off) (us.drop off) (cs.drop off) hS (by simp[hl]) (λu a3=>a2 u (V7 a3)) (λj u hj=>?_) λj u y hj hy=>?_)⟩
     ·rw[W6]at hj;have:=hu _ u hj
      rwa [<- U7]at this
     ·rw[W6]at hj hy;exact hr _ u y hj hy
   ·rename_i b g i hp;obtain⟨hg,h⟩:=h.out;refine⟨_,h,Eff.pure hd λX' hag a w Y hs=>?_⟩;have h1:=F7 hs p;rw[E8 (I4 hag),hp]at h1;have hg':=(V1 (J6 hag (.gen b) (by simp))).trans hg;generalize hv:a.eval p=v at h1;cases h1 with
    |own _ _ _ _ a2 hgg hh =>
     obtain⟨q,e1,e2⟩:=hh hg';exact⟨_,run a w q i (hv.trans e2),.own _ b g (i+off) rfl hgg λ_=>⟨q,e1,rfl⟩⟩
   ·rename_i b g k i j hp;obtain⟨hg,h⟩:=h.out;refine⟨_,h,Eff.pure hd λX' hag a w Y hs=>?_⟩;have h1:=F7 hs p;rw[E8 (I4 hag),hp]at h1;have hg':=(V1 (J6 hag (.gen b) (by simp))).trans hg;generalize hv:a.eval p=v at h1;cases h1 with
    |elt _ _ _ _ _ _ a2 hgg hh =>
     obtain⟨q,z,n,c,e1,e2⟩:=hh hg';exact⟨_,run a w q (z+(i*k+j)) (hv.trans e2),.elt _ b g k i (j+off) rfl hgg λ_=>⟨q,z,n,c,e1,by rw[U7,U7]⟩⟩
   ·exact h.elim
  ·exact h.elim
 ·exact h.elim
def oO{S:Nat->Prop}{Y:Ly}{E:Nat->Nat}{v:Value}{x:AV}{cs:List AV}(e:jJ x=some cs)(h:RepA w S Y E v x):Reps w S Y E v.cells.toList cs:=by
 unfold jJ at e;split at e
 ·rename_i l;injection e with e
  subst e;cases h.im_inv with
  |agg us _ hl a2 hr =>
   refine⟨by simpa[Value.cells]using hl,λi u y hu hy=>?_⟩;simp only[K5]at hy;cases hc:l[i]? with
   |none=>rw[hc]at hy;cases hy
   |some c =>
    rw[hc]at hy;simp only[L5,D4]at hy;rw[<- hy];exact .im _ _ (hr i u c (by simpa[Value.cells]using hu) hc)
 ·rename_i z;split at e
  case isFalse=>cases e
  injection e with e
  subst e;cases h.im_inv with
  |val _ =>
   refine⟨by simp,λi u y hu hy=>?_⟩;simp only[K5,hu,L5,D4]at hy;rw[<- hy];exact .im _ _ (.val _)
 ·rename_i l;injection e with e
  subst e;cases h with
  |agg us _ hl a2 hr=>exact⟨by simpa[Value.cells]using hl,λi u y hu hy=>hr i u y (by simpa[Value.cells]using hu) hy⟩
 ·cases e
 ·cases e
 ·rename_i a3 a5 a6 a4 a7;injection e with e
  subst e
  have hv:v.cells=#[v]:=by
   cases h with
   |im _ y hy =>
    cases hy with
    |val _=>exact absurd rfl (a5 _)
    |any _=>exact absurd rfl a4
    |ex _ h1=>revert h1;cases v<;>simp[Value.oneCell',Value.cells]
    |emp _ _=>rfl
    |sl _ _ _ _ _ _ _ _ _ _ _ _ _ _ _ _=>rfl
    |agg _ _ _ _ _=>exact absurd rfl (a3 _)
    |ref _ _ _ _ _ _ _ _ _=>rfl
    |fn _ _ _ _ _=>rfl
    |nsl _ _ _ _ _=>rfl
   |own _ _ _ _ a2 _ _=>revert a2;cases v<;>simp[Value.oneCell',Value.cells]
   |osl _ _ _ a2 _ _=>revert a2;cases v<;>simp[Value.oneCell',Value.cells]
   |elt _ _ _ _ _ _ a2 _ _=>revert a2;cases v<;>simp[Value.oneCell',Value.cells]
   |sub _ _ _ _ a2 _ _=>revert a2;cases v<;>simp[Value.oneCell',Value.cells]
   |osv _ _ _ _ _ a2 _ _=>revert a2;cases v<;>simp[Value.oneCell',Value.cells]
   |full _ _ _ _=>rfl
   |elt2 _ _ _ _ _ _ _ a2 _ _=>revert a2;cases v<;>simp[Value.oneCell',Value.cells]
   |fn _ _ _ _ _=>rfl
   |agg _ _ _ _ _=>exact absurd rfl (a6 _)
   |tup _ _ _ _=>exact absurd rfl (a7 _)
  rw[hv];refine⟨rfl,λi u y hu hy=>?_⟩;cases i with
  |zero =>
   simp at hu hy;rw[<- hu,<- hy];exact h
  |succ i=>simp at hy
end
end
section
variable {t:TypeId}{x:Operand}{c:Call}
section
variable {P:Program}{B:Base}{o:Oper}{X:St}{K:Fx->Prop}
def oX{w:World}{S:Nat->Prop}{Y:Ly}{E:Nat->Nat}{v:Value}{x:AV}{cs:List AV}(e:jJ x=some cs)(h:RepA w S Y E v x):∀u∈v.cells.toList,u.oneCell'=true:=by
 have one:v.oneCell'=true->∀u∈v.cells.toList,u.oneCell'=true:=λh1 u hu=>by
  have:v.cells=#[v]:=by revert h1;cases v<;>simp[Value.oneCell',Value.cells]
  rw[this]at hu;simp at hu;rw[hu];exact h1
 cases h with
 |im _ y hy =>
  cases hy with
  |val _ =>
   simp only[jJ]at e;split at e
   ·rename_i hh;intro u hu;exact O0.1 hh u hu
   ·cases e
  |any _=>cases e
  |ex _ h1=>exact one h1
  |emp _ _=>exact one rfl
  |sl _ _ _ _ _ _ _ _ _ _ _ _ _ _ _ _=>exact one rfl
  |agg us _ _ h1 _=>intro u hu;exact h1 u (by simpa[Value.cells]using hu)
  |ref _ _ _ _ _ _ _ _ _=>exact one rfl
  |fn _ _ _ _ _=>exact one rfl
  |nsl _ _ _ _ _=>exact one rfl
 |own _ _ _ _ a2 _ _=>exact one a2
 |osl _ _ _ a2 _ _=>exact one a2
 |elt _ _ _ _ _ _ a2 _ _=>exact one a2
 |sub _ _ _ _ a2 _ _=>exact one a2
 |osv _ _ _ _ _ a2 _ _=>exact one a2
 |full _ _ _ _=>exact one rfl
 |elt2 _ _ _ _ _ _ _ a2 _ _=>exact one a2
 |fn _ _ _ _ _=>exact one rfl
 |agg us _ _ h1 _=>intro u hu;exact h1 u (by simpa[Value.cells]using hu)
 |tup _ _ _ _=>cases e
def CO{w:World}{S:Nat->Prop}{Y:Ly}{E:Nat->Nat}{v:Value}{x:AV}{cs:List AV}(e:aggCs x=some cs)(h:RepA w S Y E v x):∃us:List Value,v=.agg us.toArray/\Reps w S Y E us cs/\∀u∈us,u.oneCell'=true:=by
 unfold aggCs at e;split at e
 ·rename_i l;injection e with e
  subst e;cases h.im_inv with
  |agg us _ hl a2 hr =>
   refine⟨us,rfl,⟨by simpa using hl,λi u y hu hy=>?_⟩,a2⟩;simp only[K5]at hy;cases hc:l[i]? with
   |none=>rw[hc]at hy;cases hy
   |some c =>
    rw[hc]at hy;simp only[L5,D4]at hy;rw[<- hy];exact .im _ _ (hr i u c hu hc)
 ·rename_i vs;split at e
  case isFalse=>cases e
  rename_i hh;injection e with e
  subst e;cases h.im_inv with
  |val _ =>
   refine⟨vs.toList,by simp,⟨by simp,λi u y hu hy=>?_⟩,λu hu=>O0.1 hh u hu⟩;simp only[K5,hu,L5,D4]at hy;rw[<- hy];exact .im _ _ (.val _)
 ·rename_i l;injection e with e
  subst e;cases h with
  |agg us _ hl a2 hr=>exact⟨us,rfl,⟨hl,hr⟩,a2⟩
 ·cases e
def aField_ok{f:Nat}(hop:o.op=.field t x f)(hd:J3 B.n o=true)(h:aField P o X K t x f):∃fx,K fx/\Eff P B o fx.rd X fx.wr:=False.elim h
def aExtract_ok{i:Nat}(hop:o.op=.extract x i)(hd:J3 B.n o=true)(h:aExtract o X K x i):∃fx,K fx/\Eff P B o fx.rd X fx.wr:=by
 unfold aExtract at h;split at h
 ·rename_i l hx;split at h
  ·rename_i v hv;refine⟨_,h,Eff.pure hd λX' hag a w Y hs=>?_⟩;have h1:=F7 hs x;rw[E8 hag,hx]at h1;generalize he:a.eval x=z at h1;cases h1 with
   |tup us _ hl hr =>
    have a2:i<us.length:=by rw[hl];exact(G4.1 hv).1
    obtain⟨u,hu⟩:∃u,us[i]?=some u:=⟨_,L4 a2⟩;exact⟨u,by simp[execOp,hop,he,Instr.extract,hu],hr i u v hu hv⟩
  ·exact h.elim
 ·exact h.elim
def aMax_ok{x y:Operand}(hop:o.op=.call c)(hc:c.callee=.builtin .max)(ha:c.args.toList=[x,y])(hd:J3 B.n o=true)(h:aMax o X K x y):∃fx,K fx/\Eff P B o fx.rd X fx.wr:=by
 unfold aMax at h;split at h
 ·rename_i k b k' d hx hy;obtain⟨hk,h9⟩:=h.ok;have hk:=of_decide_eq_true hk;subst hk;refine⟨_,h9,Eff.pure hd λX' hag a w Y hs=>⟨_,?_,S8 _⟩⟩;have h1:=F7 hs x;have h2:=F7 hs y;rw[E8 (I4 hag)]at h1;rw[E8 (J6 hag)]at h2;have e:(max b d:Int)=if d > b then d else b:=by split<;>omega
  have hm:c.args.toList.map a.eval=[.int k b,.int k d]:=by rw[ha];simp[T5 hx h1,T5 hy h2]
  simp[execOp,hop,resolve,hc,invoke,builtin,Builtin.max_,hm,Builtin.max2,e]
 ·exact h.elim
def aMin_ok{x y:Operand}(hop:o.op=.call c)(hc:c.callee=.builtin .min)(ha:c.args.toList=[x,y])(hd:J3 B.n o=true)(h:aMin o X K x y):∃fx,K fx/\Eff P B o fx.rd X fx.wr:=by
 unfold aMin at h;split at h
 ·rename_i k b k' d hx hy;obtain⟨hk,h9⟩:=h.ok;have hk:=of_decide_eq_true hk;subst hk;refine⟨_,h9,Eff.pure hd λX' hag a w Y hs=>⟨_,?_,S8 _⟩⟩;have h1:=F7 hs x;have h2:=F7 hs y;rw[E8 (I4 hag)]at h1;rw[E8 (J6 hag)]at h2;have e:(min b d:Int)=if d<b then d else b:=by split<;>omega
  have hm:c.args.toList.map a.eval=[.int k b,.int k d]:=by rw[ha];simp[T5 hx h1,T5 hy h2]
  simp[execOp,hop,resolve,hc,invoke,builtin,Builtin.min_,hm,Builtin.min2,e]
 ·exact h.elim
def aMin3_ok{x y z:Operand}(hop:o.op=.call c)(hc:c.callee=.builtin .min)(ha:c.args.toList=[x,y,z])(hd:J3 B.n o=true)(h:aMin3 o X K x y z):∃fx,K fx/\Eff P B o fx.rd X fx.wr:=by
 unfold aMin3 at h;split at h
 ·rename_i k b k' d a4 f hx hy hz;obtain⟨hk,h9⟩:=h.ok;simp only[M7,decide_eq_true_eq]at hk;obtain⟨a3,a2⟩:=hk;subst a3 a2;refine⟨_,h9,Eff.pure hd λX' hag a w Y hs=>⟨_,?_,S8 _⟩⟩;have h1:=F7 hs x;have h2:=F7 hs y;have h3:=F7 hs z;rw[E8 (I4 (I4 hag))]at h1;rw[E8 (J6 (I4 hag))]at h2;rw[E8 (J6 hag)]at h3;have e:(min (min b d) f:Int)=if f<(if d<b then d else b) then f else(if d<b then d else b):=by split<;>split<;>omega
  have hm:c.args.toList.map a.eval=[.int k b,.int k d,.int k f]:=by rw[ha];simp[T5 hx h1,T5 hy h2,T5 hz h3]
  simp[execOp,hop,resolve,hc,invoke,builtin,Builtin.min_,hm,Builtin.min2,e]
 ·exact h.elim
def row_handle{a:Act}{w:World}{Y:Ly}(h:SatR B X a w Y){b kk:Nat}{es:List (List IV)}(hk:X.kd b=.row t kk es):∃A c,Y b=.slice A es.length c:=by
 have ho:=h.obs b;rw[hk]at ho;obtain⟨us,_,_,_,h4,_⟩:=ho;rcases h4.2 with⟨e,h0⟩|⟨g,a2,cur,e,_⟩
 ·exact⟨none,0,by rw[e,h0]⟩
 ·exact⟨_,a2,e⟩
def aLen_ok{ts:List TypeId}(hop:o.op=.call c)(hc:c.callee=.builtin .len)(ha:c.args.toList=[x])(ht:c.argTypes.toList=t::ts)(hd:J3 B.n o=true)(h:aLen P o X K t x):∃fx,K fx/\Eff P B o fx.rd X fx.wr:=by
 have a4:c.argTypes[0]?=some t:=by rw[<- T7,ht];rfl
 have a5:∀a:Act,(c.args.map a.eval)[0]?=some (a.eval x):=λa=>by rw[<- T7,kW,ha];rfl
 unfold aLen at h;split at h
 ·rename_i e he;have hu:=bX he
  have run:∀(a:Act) w A n cp,a.eval x=.slice A n cp->(execOp a.eval o).run P w=.ok (.value (.int .i64 n)) w:=λa w A n cp hv=>by
   simp only[execOp,hop,resolve,hc,invoke,builtin,Builtin.len_,a4,a5,Sem.run_bind,Sem.run_pure,Result.andThen_ok,run_underlying hu,hv,goInt]
  split at h
  ·rename_i es hx;have h:=h.out;refine⟨_,h,Eff.pure hd λX' hag a w Y hs=>?_⟩;have h1:=F7 hs x;rw[E8 hag,hx]at h1;have h1:=h1.im_inv;generalize hv:a.eval x=v at h1;cases h1 with
   |emp A cp=>exact⟨_,run a w _ _ _ hv,S8 _⟩
   |sl b q cp k n _ us hn=>exact⟨_,run a w _ _ _ hv,by rw[hn];exact S8 _⟩
  ·rename_i A n cp hx;refine⟨_,h,Eff.pure hd λX' hag a w Y hs=>?_⟩;have h1:=F7 hs x;rw[E8 hag,hx]at h1;have h1:=h1.im_inv;generalize hv:a.eval x=v at h1;cases h1 with
   |val _=>exact⟨_,run a w _ _ _ hv,S8 _⟩
  ·rename_i b g hx;split at h
   ·rename_i es hk;obtain⟨hg,h⟩:=h.out;have h:=h.out;refine⟨_,h,Eff.pure hd λX' hag a w Y hs=>?_⟩;obtain⟨a6,hg',a7,_⟩:=Z7 hag;have h1:=F7 hs x;rw[E8 a6,hx]at h1
    obtain⟨A,cp,hY⟩:∃A cp,Y b=.slice A es.length cp:=by
     obtain⟨_,_,_,_,_,_,h9⟩:=es_form hs (show esOf (X'.kd b)=some es by rw[a7];exact hk);rcases h9 with⟨f1,f2⟩|⟨_,_,_,f1,_⟩
     ·exact⟨_,_,by rw[f1,f2]⟩
     ·exact⟨_,_,f1⟩
    generalize hv:a.eval x=v at h1;cases h1 with
    |osl _ _ _ a2 hgg hh =>
     rw[hh (hg'.trans hg),hY]at hv;exact⟨_,run a w _ _ _ hv,S8 _⟩
   ·exact h.elim
  ·exact h.elim
 ·split at h
  ·rename_i s hx;obtain⟨a3,h⟩:=h.ok
   have hu:P.underlying t=some .string:=by
    unfold isStr at a3;split at a3
    ·assumption
    ·cases a3
   refine⟨_,h,Eff.pure hd λX' hag a w Y hs=>⟨_,?_,S8 _⟩⟩;have h1:=F7 hs x;rw[E8 hag]at h1;simp only[execOp,hop,resolve,hc,invoke,builtin,Builtin.len_,a4,a5,Sem.run_bind,Sem.run_pure,Result.andThen_ok,run_underlying hu,asStr_inv hx h1,goInt]
  ·exact h.elim
def JS{x i:Operand}(hop:o.op=.indexAddr t x i)(hd:J3 B.n o=true)(h:yY P o X K t x i):∃fx,K fx/\Eff P B o fx.rd X fx.wr:=by
 unfold yY at h;split at h
 ·rename_i kk n et hi a8;have hu:=bX a8
  have run:∀(a:Act) w q l (cp:Nat×Nat) k,a.eval x=.slice (some ⟨q,0+l,none⟩) cp.1 cp.2->a.eval i=.int kk n->0<=n->n.toNat<cp.1->szOf P et=some k->(execOp a.eval o).run P w=.ok (.value (.pointer (some ⟨q,0+l+n.toNat*k,none⟩))) w:=λa w q l cp k hv hn h0 a7 hk=>by
   have hz:=bH hk w;have h3:0<=n/\n<cp.1:=⟨h0,by omega⟩;simp only[execOp,hop,hv,hn,Instr.indexAt,asIntOf,Sem.run_bind,Sem.run_pure,Result.andThen_ok,run_underlying hu,if_pos h3,hz,addr_add]
  split at h
  ·rename_i es hx;obtain⟨e,⟨h0,he,hk⟩,h⟩:=h;refine⟨_,h,Eff.pure hd λX' hag a w Y hs=>?_⟩;have h1:=F7 hs x;have h2:=F7 hs i;rw[E8 (I4 hag),hx]at h1;rw[E8 (J6 hag)]at h2;have hn:=T5 hi h2;have h1:=h1.im_inv;generalize hv:a.eval x=v at h1;cases h1 with
   |emp A cp=>simp at he
   |sl b q cp k m _ us hm hkk hcap hsm hS hl a2 huc hr =>
    have a5:e.length=k:=hkk e (H8 he);have b0:n.toNat<es.length:=(G4.1 he).1;have b4:=U5 hkk
    have b6:n.toNat*k+k<=es.length*k:=by
     have:=bD k (show n.toNat+1<=es.length from b0);rw[Nat.add_mul]at this;omega
    have a3:=run a w b q (m,cp) k (by rw[hv,J9]) hn h0 (by omega) (by rw[hk,a5]);rw[J9]at a3;refine⟨_,a3,.im _ _ (.ref b (q+n.toNat*k) ((us.drop (n.toNat*k)).take k) e hS (by rw[H6,O5,hl,b4,a5];omega) (λu a9=>a2 u (V7 (Q1 a9))) (λj u hj=>?_) λj u y hj hy=>?_)⟩
    ·have:=huc _ u (iY hj).1
     rwa [<- U7]at this
    ·obtain⟨h3,b5⟩:=iY hj;have hf:=flat_get hkk he b5;rw[hy]at hf;exact hr _ u y h3 hf
  ·rename_i b g hx;split at h
   ·rename_i es b3;split at h
    ·rename_i k hk;obtain⟨⟨h0,hg,a7⟩,h⟩:=h.out;refine⟨_,h,Eff.pure hd λX' hag a w Y hs=>?_⟩;obtain⟨a6,hg',b2,_⟩:=Z7 hag;have h1:=F7 hs x;have h2:=F7 hs i;rw[E8 (I4 a6),hx]at h1;rw[E8 (J6 a6)]at h2;have hn:=T5 hi h2
     obtain⟨q,off,cp',a4⟩:∃q off cp',Y b=.slice (some ⟨q,off,none⟩) es.length cp':=by
      obtain⟨_,_,_,_,_,_,h9⟩:=es_form hs (show esOf (X'.kd b)=some es by rw[b2];exact b3);rcases h9 with⟨_,f2⟩|⟨q,off,cp',f1,_⟩
      ·omega
      ·exact⟨q,off,cp',f1⟩
     generalize hv:a.eval x=v at h1;cases h1 with
     |osl _ _ _ a2 hgg hh =>
      rw[hh (hg'.trans hg),a4]at hv;have a3:=run a w q off (es.length,cp') k (by rw[hv,J9]) hn h0 a7 hk;rw[J9]at a3;exact⟨_,a3,.elt _ b g k n.toNat 0 rfl hgg λ_=>⟨q,off,_,cp',a4,by rw[W7]⟩⟩
    ·exact h.elim
   ·exact h.elim
  ·exact h.elim
 ·exact h.elim
def tV{V:Type}{k:Nat}:∀{es:List (List V)} {n:Nat},(∀x∈es,x.length=k)->(es.take n).flatten=es.flatten.take (n*k)
 |[],n,_=>by simp
 |x::es,0,_=>by simp
 |x::es,n+1,h=>by
  have hx:=h x (by simp);rw[wZ,V6,tV λy hy=>h y (by simp[hy]),V6,BO,hx,Nat.add_mul,BJ,xG,X6 (l:=x) (by omega)]
def flat_drop{V:Type}{k:Nat}:∀{es:List (List V)} {n:Nat},(∀x∈es,x.length=k)->(es.drop n).flatten=es.flatten.drop (n*k)
 |[],n,_=>by simp
 |x::es,0,_=>by simp
 |x::es,n+1,h=>by
  have hx:=h x (by simp);rw[List.drop_succ_cons,flat_drop λy hy=>h y (by simp[hy]),V6,GX,hx,Nat.add_mul,BJ,xG,jG (l:=x) (by omega),Y9]
def flat_cut{V:Type}{k:Nat}{es:List (List V)}{l r:Nat}(h:∀x∈es,x.length=k)(_:l<=r):((es.take r).drop l).flatten=(es.flatten.take (r*k)).drop (l*k):=by
 rw[flat_drop λx hx=>h x (Q1 hx),tV h]
def optI_same{X':St}{d:Int}{x:Option Operand}(h:∀l∈(x.map opd).getD [],X' l=X l):optI X' d x=optI X d x:=by
 cases x with
 |none=>rfl
 |some y =>
  show(Sym.asInt (evA X' y)).map (·.2)=(Sym.asInt (evA X y)).map (·.2);rw[E8 (x:=y) (by simpa using h)]
def aSlice_ok{lo hi:Option Operand}(hop:o.op=.slice t x lo hi none)(hd:J3 B.n o=true)(h:aSlice P o X K t x lo hi):∃fx,K fx/\Eff P B o fx.rd X fx.wr:=by
 unfold aSlice at h;split at h
 ·rename_i et b8;have hu:=bX b8;split at h
  case h_2=>exact h.elim
  rename_i k hz;split at h
  ·rename_i es hx;split at h
   ·rename_i l r hl hr;obtain⟨⟨h0,c7,b5,hk⟩,h⟩:=h.out;have h:=h.out;refine⟨_,h,Eff.pure hd λX' hag a w Y hs=>?_⟩;have b6:=I4 (I4 hag);have a7:=optI_same (d:=0) (J6 (I4 hag));have a8:=optI_same (d:=es.length) (J6 hag);rw[hl]at a7;rw[hr]at a8
    have a6:∀(y:Operand) (n:Int) (m:Nat) (c:BoundsCode),(Sym.asInt (evA X' y)).map (·.2)=some n->0<=n->n<=m->(Instr.sliceBound (a.eval y) m c).run P w=.ok n.toNat w:=λy n m c e e0 em=>by
     have h2:=F7 hs y;cases hy:Sym.asInt (evA X' y) with
     |none=>rw[hy]at e;cases e
     |some p =>
      obtain⟨k1,n1⟩:=p;rw[hy]at e;simp only[L5,D4]at e;subst e;have h3:0<=n1/\n1<=m:=⟨e0,em⟩;simp only[T5 hy h2,Instr.sliceBound,asIntOf,Sem.run_bind,Sem.run_pure,Result.andThen_ok,if_pos h3]
    have b3:∀n cp:Nat,n=es.length->n<=cp->(Instr.sliceBounds true n cp (lo.map a.eval) (hi.map a.eval) none).run P w=.ok (l.toNat,r.toNat,cp) w:=λn cp e1 e2=>by
     have bh:∀y c,hi=some y->(Instr.sliceBound (a.eval y) cp c).run P w=.ok r.toNat w:=λy c e=>a6 y r cp c (by rw[<- a8,e];rfl) (by omega) (by omega);have bl:∀y c,lo=some y->(Instr.sliceBound (a.eval y) r.toNat c).run P w=.ok l.toNat w:=λy c e=>a6 y l r.toNat c (by rw[<- a7,e];rfl) h0 (by omega)
     have nh:hi=none->r.toNat=n:=λe=>by
      rw[e]at a8;simp only[optI,D4]at a8;rw[<- a8,e1];rfl
     have nl:lo=none->l.toNat=0:=λe=>by
      rw[e]at a7;simp only[optI,D4]at a7;rw[<- a7];rfl
     unfold Instr.sliceBounds;cases hi with
     |none =>
      have e3:=nh rfl;cases lo with
      |none =>
       have e4:=nl rfl;simp[e3,e4]
      |some y =>
       have b1:=λc=>bl y c rfl;rw[e3]at b1;simp[e3,b1]
     |some z =>
      have b2:=λc=>bh z c rfl;cases lo with
      |none =>
       have e4:=nl rfl;simp[e4,b2]
      |some y =>
       have b1:=λc=>bl y c rfl;simp[b1,b2]
    have run:∀A n cp,a.eval x=.slice A n cp->n=es.length->n<=cp->(execOp a.eval o).run P w=.ok (.value (.slice (if cp=l.toNat then A else A.map (·.add (l.toNat*k))) (r.toNat-l.toNat) (cp-l.toNat))) w:=λA n cp hv hn b7=>by
     have hz:=bH hz w;have hb:=b3 n cp hn b7;simp only[execOp,hop,hv,Instr.sliceAt,Instr.slice,Sem.run_bind,Sem.run_pure,Result.andThen_ok,run_underlying hu,sY,hb,hz]
    have h1:=F7 hs x;rw[E8 b6]at h1;cases hxx:evA X x with
    |im y =>
     rw[hxx]at h1 hx;have hx:nz y=.sl es:=hx;have h1:=h1.im_inv
     have a4:∀A cp,a.eval x=.slice A 0 cp->es=[]->∃u,(execOp a.eval o).run P w=.ok (.value u) w/\RepA w (Imm B X' Y w) Y X'.gn u (.im (.sl ((es.take r.toNat).drop l.toNat))):=λA cp e1 e2=>by
      have hr:=run A 0 cp e1 (by rw[e2];rfl) (F8 _);have er:r.toNat=0:=by rw[e2]at b5;simp at b5;omega
      have el:l.toNat=0:=by omega
      rw[er,el]at hr;exact⟨_,hr,by rw[e2];simp only[List.take_nil,List.drop_nil];exact .im _ _ (.emp _ _)⟩
     have a3:∀v,a.eval x=v->RepI w (Imm B X' Y w) v (.sl es)->∃u,(execOp a.eval o).run P w=.ok (.value u) w/\RepA w (Imm B X' Y w) Y X'.gn u (.im (.sl ((es.take r.toNat).drop l.toNat))):=λv hv h1=>by
      cases h1 with
      |emp A cp=>exact a4 _ _ hv rfl
      |sl b q cp k' m _ us hm hkk hcap hsm hS hll a2 huc hrr =>
       by_cases a9:r.toNat=l.toNat
       ·have a5:=run _ m cp hv hm.symm hcap;have e0:(es.take r.toNat).drop l.toNat=[]:=CH (by rw[H6];omega);rw[e0];rw[a9,sO]at a5;exact⟨_,a5,.im _ _ (.emp _ _)⟩
       ·have a5:=run _ m cp hv hm.symm hcap;have c0:¬cp=l.toNat:=by omega
        rw[if_neg c0,L5,addr_add]at a5;have b4:∀e∈(es.take r.toNat).drop l.toNat,e∈es:=λe he=>Q1 (V7 he);have b0:((es.take r.toNat).drop l.toNat).flatten=(es.flatten.take (r.toNat*k)).drop (l.toNat*k):=flat_cut hk (by omega);have c8:=U5 hk;refine⟨_,a5,.im _ _ (.sl b (q+l.toNat*k) (cp-l.toNat) k (r.toNat-l.toNat) _ ((us.take (r.toNat*k)).drop (l.toNat*k)) ?_ (λe he=>hk e (b4 e he)) (by omega) (by omega) hS ?_ (λu b9=>a2 u (Q1 (V7 b9))) (λj u hj=>?_) λj u y hj hy=>?_)⟩
        ·rw[O5,H6];omega
        ·rw[b0,O5,H6,O5,H6,hll]
        ·rw[W6,R3]at hj;split at hj
         ·have:=huc _ u hj
          rwa [<- U7]at this
         ·cases hj
        ·rw[b0,W6,R3]at hy;rw[W6,R3]at hj;split at hj
         ·rename_i c6;rw[if_pos c6]at hy;exact hrr _ u y hj hy
         ·cases hj
     generalize hv:a.eval x=v at h1;cases h1 with
     |val _ =>
      obtain⟨rfl,rfl⟩:v=.slice none 0 0/\es=[]:=by
       unfold nz nz1 at hx;split at hx
       ·cases hx
       ·split at hx
        ·cases hx
        ·cases hx
       ·split at hx
        ·rename_i e;injection e with e
         injection hx with hx
         exact⟨e,hx.symm⟩
        ·cases hx
        ·rename_i e;cases e
        ·cases hx
      exact a4 _ _ hv rfl
     |emp A cp =>
      injection hx with hx
      exact a3 _ hv (hx ▸ .emp A cp)
     |sl b q cp k' m ees us hm hkk hcap hsm hS hll a2 huc hrr =>
      injection hx with hx
      exact a3 _ hv (hx ▸ .sl b q cp k' m ees us hm hkk hcap hsm hS hll a2 huc hrr)
     |nsl _ _ _ ees hh =>
      injection hx with hx
      exact a3 _ hv (hx ▸ hh)
     |_=>cases hx
    |_=>rw[hxx]at hx;cases hx
   ·exact h.elim
  ·exact h.elim
 ·exact h.elim
end
end
section
section
variable {P:Program}{B:Base}{o:Oper}{X:St}{K:Fx->Prop}
def aJ{d:Tmp}(hd:J3 B.n o=true)(e:o.dst=some d):d<B.n:=gW hd d e
def making_alloc(X:St)(w:World)(Y:Ly)(ob:Obj):mJ X w (w.alloc ob) Y none (.pointer (some ⟨w.heap.size,0,none⟩)) none :=
 ⟨World.grownBy_alloc w ob none,(λb e=>by cases e),λb e=>.inr (by simp only[G3,D4]at e;omega)⟩
def SatR.box{a:Act}{w:World}{Y:Ly}(h:SatR B X a w Y)(d:Nat)(t:TypeId){us:List Value}{cs:List AV}(hr:Reps w (Imm B X Y w) Y X.gn us cs)(h1:∀u∈us,u.oneCell'=true) :
  SatR B (R5 X none d (.box t cs.length) cs) a (w.alloc (.cells us.toArray t)) (setY Y d (.pointer (some ⟨w.heap.size,0,none⟩))):=by
 have m:=making_alloc X w Y (.cells us.toArray t);refine h.new m rfl λhI hA=>⟨w.heap.size,us,by simp[setY],heap_alloc_new w _,hr.1,h1,λi u hu=>?_⟩;have hi:i<cs.length:=by rw[<- hr.1];exact(G4.1 hu).1
 obtain⟨c,hc⟩:∃c,cs[i]?=some c:=⟨_,L4 hi⟩;rw[newSt_new X none d _ cs i hi,zV hc];exact hA _ _ (hr.2 i u c hu hc)
def newObj_own{a:Act}{w:World}{Y:Ly}{used:Option Nat}{d:Nat}{k:Kd}{cs:List AV}{hv:Value}(h:SatR B (R5 X used d k cs) a w (setY Y d hv))(q:Nat)(e:hv=.pointer (some ⟨q,0,none⟩))(hd:d<B.n) :
  SatR B (app (R5 X used d k cs) [(.tmp d,.av (.own d (X.gn d+1) 0))]) (a.put (some d) hv) w (setY Y d hv) :=
 h.put (d:=some d) (λt e=>by injection e with e;subst e;exact hd) (.own _ _ _ _ (by rw[e];rfl) (by rw[oH,if_pos rfl];omega) λ_=>⟨q,by simp[setY,e],by rw[e]⟩)
def uT{a:Act}{w:World}{Y:Ly}{used:Option Nat}{d:Nat}{k:Kd}{cs:List AV}{hv:Value}(h:SatR B (R5 X used d k cs) a w (setY Y d hv))(h1:hv.oneCell'=true)(hd:d<B.n) :
  SatR B (app (R5 X used d k cs) [(.tmp d,.av (.osl d (X.gn d+1)))]) (a.put (some d) hv) w (setY Y d hv) :=
 h.put (d:=some d) (λt e=>by injection e with e;subst e;exact hd) (.osl _ _ _ h1 (by rw[oH,if_pos rfl];omega) λ_=>by simp[setY])
def zq27{a:Act}{w:World}{Y:Ly}{used:Option Nat}{d b:Nat}{k:Kd}{cs:List AV}{hv:Value}(h:SatR B (R5 X used b k cs) a w (setY Y b hv))(h1:hv.oneCell'=true)(hd:d<B.n) :
  SatR B (app (R5 X used b k cs) [(.tmp d,.av (.osl b (X.gn b+1)))]) (a.put (some d) hv) w (setY Y b hv) :=
 h.put (d:=some d) (λt e=>by injection e with e;subst e;exact hd) (.osl _ _ _ h1 (by rw[oH,if_pos rfl];omega) λ_=>by simp[setY])
def mQ{k:Kd}{d:Nat}{cs:List AV}{v:AV}{X':St}(hg:X'.gn d=X.gn d):app X' (M9 X d k++P8 d 0 cs++[(.tmp d,.av v)])=app (R5 X' none d k cs) [(.tmp d,.av v)]:=by
 rw[O8,O8];unfold R5 M9;rw[hg]
def aAlloc_ok{t:TypeId}(hop:o.op=.alloc t)(hd:J3 B.n o=true)(h:aAlloc P o X K t):∃fx,K fx/\Eff P B o fx.rd X fx.wr:=by
 unfold aAlloc at h;split at h
 ·rename_i d cs a2 hz;obtain⟨a3,h⟩:=h.ok;refine⟨_,h,λX' hag a w ⟨Y,hs⟩ K' Q hK=>?_⟩;have hg:=V1 (hag (.gen d) (by simp))
  obtain⟨z,a5,a4⟩:∃z:Value,(∀w,(zeroValue t).run P w=.ok z w)/\z.cells.toList=cs:=by
   unfold zeroOf at hz;split at hz
   ·rename_i i hi;cases hz0:i.zero with
    |none=>rw[hz0]at hz;cases hz
    |some z =>
     rw[hz0]at hz;simp only[L5,D4]at hz;exact⟨z,λw=>by simp[zeroValue,typeInfo,hi,hz0],hz⟩
   ·cases hz
  have run:(execOp a.eval o).run P w=.ok (.value (.pointer (some ⟨w.heap.size,0,none⟩))) (w.alloc (.cells cs.toArray t)):=by
   rw[<- a4];simp[execOp,hop,Instr.alloc,a5,newVar,newRow]
  unfold Oper.wp;rw[run,Oper.upon_value,a2];refine hK _ _ ⟨setY Y d (.pointer (some ⟨w.heap.size,0,none⟩)),?_⟩
  have hr:Reps w (Imm B X' Y w) Y X'.gn cs (cs.map λv=>.im (.val v)):=⟨by simp,λi u y hu hy=>by
   simp only[K5,hu,L5,D4]at hy
   rw[<- hy]
   exact .im _ _ (.val _)⟩
  have hb:=hs.box d t hr (λu hu=>O0.1 a3 u hu);rw[E1]at hb;show SatR B (app X' (M9 X d (.box t cs.length)++P8 d 0 (cs.map λv=>.im (.val v))++[(.tmp d,.av (.own d (X.gn d+1) 0))])) _ _ _;rw[mQ hg,<- hg];exact newObj_own hb _ rfl (aJ hd a2)
 ·exact h.elim
def SatR.store{a:Act}{w w':World}{Y:Ly}(h:SatR B X a w Y){b q i m:Nat}{t:TypeId}{cs:List AV}{us vs:List Value}(hk:X.kd b=.box t m)(hY:Y b=.pointer (some ⟨q,0,none⟩))(hl:us.length=m)
  (h1:∀u∈us,u.oneCell'=true) (hus:∀(j:Nat) u,us[j]?=some u->RepA w (Imm B X Y w) Y X.gn u (X.ce b j)) (hg:w.grownBy w' (some q))
  (hw':w'.heap[q]?=some (.cells (us.take i++vs++us.drop (i+vs.length)).toArray t (0,0))) (hfit:i+vs.length<=m) (hv:Reps w (Imm B X Y w) Y X.gn vs cs) (hv1:∀u∈vs,u.oneCell'=true):SatR B (app X (P8 b i cs)) a w' Y:=by
 have a4:=xR b cs i X;have a2:=tF b cs i X;have a3:live X b:=by unfold live;rw[hk];exact λe=>by cases e
 have a7:Owns X Y b q:=.root a3 (by rw[hY];rfl);have a6:∀o c,Owns (app X (P8 b i cs)) Y o c↔Owns X Y o c:=λo c=>by unfold Owns;rw[a2]
 refine(h.step (λo=>o=b) (λt=>by rw[xS]) (λo hd=>⟨by rw[a2],by rw[a4],λj=>by rw[qJ,if_neg (λz=>hd z.1)],rfl,rfl,rfl⟩) (λo _=>⟨⟨by rw[a4];exact H4 _,λ_=>rfl⟩,H4 _,λ_=>rfl⟩)
  (λo=>by rw[celWr_ig];exact h.igs o) ⟨hg.os,hg.tape,hg.output,hg.size,λc hc hn=>hg.block c hc λe=>?_⟩ (λo c hd ho=>.inr ⟨o,hd,(a6 o c).1 ho⟩) (λo p c hd hp _ _=>hd.trans hp.symm) λhI hA o hd=>?_).1
 ·injection e with e
  subst e;exact hn ⟨b,rfl,a7⟩
 ·subst hd;rw[a2,hk];refine⟨q,_,hY,hw',by simp;omega,λu hu=>?_,λj u hu=>?_⟩
  ·rcases K0.1 hu with hu|hu
   ·rcases K0.1 hu with hu|hu
    ·exact h1 u (Q1 hu)
    ·exact hv1 u hu
   ·exact h1 u (V7 hu)
  ·rw[qJ];have a8:=hv.1;rw[U8,T8,H6]at hu;by_cases hj:j<i
   ·rw[if_pos (by omega),R3,if_pos hj]at hu;rw[if_neg (by omega)];exact hA _ _ (hus j u hu)
   ·rw[if_neg (by omega),T8,mF (by omega)]at hu;by_cases a5:j-i<vs.length
    ·rw[if_pos a5]at hu;rw[if_pos ⟨rfl,by omega,by omega⟩];obtain⟨c,hc⟩:∃c,cs[j-i]?=some c:=⟨_,L4 (by omega)⟩;rw[zV hc];exact hA _ _ (hv.2 _ u c hu hc)
    ·rw[if_neg a5,W6]at hu;rw[if_neg (by omega)];have e3:i+vs.length+(j-i-vs.length)=j:=by omega
     rw[e3]at hu;exact hA _ _ (hus j u hu)
def aStore_ok{t:TypeId}{p x:Operand}(hop:o.op=.store t p x)(hd:J3 B.n o=true)(h:aStore P o X K t p x):∃fx,K fx/\Eff P B o fx.rd X fx.wr:=by
 unfold aStore at h;split at h
 ·rename_i m cs hm a7;obtain⟨a2,h⟩:=h.ok;have a2:cs.length=m:=by simpa using a2
  split at h
  ·rename_i b g i hp;obtain⟨hi,h⟩:=h.ok;obtain⟨hg,h⟩:=h.out;rw[M7]at hi;have b3:=bK hi.1;have hi:=iG hi.2;refine⟨_,h,λX' hag a w ⟨Y,hs⟩ K' Q hK=>?_⟩;obtain⟨ha,hg',a8,_⟩:=Z7 hag;have h1:=F7 hs p;have h2:=F7 hs x;rw[E8 (I4 ha),hp]at h1;rw[E8 (J6 ha)]at h2;have hr:=oO a7 h2;have a3:=oX a7 h2;obtain⟨t',n,a5,b2⟩:=uV (X:=X) (b:=b) (i:=i) (by omega);have b4:=yM a5;obtain⟨q,us,e1,e2,e3,e4,e5,_,e7⟩:=lG hs h1 (hg'.trans hg) (a8.trans a5);have a6:(a.eval x).cells.toList.length=m:=by rw[hr.1,a2]
   have a4:=run_storeCells_at (P:=P) q i t' (a.eval x).cells.toList 0 us.toArray w e3 (by simp;simp at a6;omega) a3;simp only[W7]at a4;have hz:=bH hm w;have a9:(a.eval x).cells.size=m:=by rw[<- a6];simp
   have run:(execOp a.eval o).run P w=.ok .skip (w.setRow q (us.take i++(a.eval x).cells.toList++us.drop (i+(a.eval x).cells.toList.length)).toArray):=by
    simp only[execOp,hop,Instr.storeAt,e1,Instr.sureAddr,storeVar,Sem.run_bind,Sem.run_pure,Result.andThen_ok,hz,a9];rw[if_neg (by simp),a4];simp
   unfold Oper.wp;rw[run,Oper.upon_skip];refine hK _ _ ⟨Y,?_⟩;have b0:=hs.store (vs:=(a.eval x).cells.toList) (w':=w.setRow q (us.take i++(a.eval x).cells.toList++us.drop (i+(a.eval x).cells.toList.length)).toArray) (a8.trans a5) e2 e4 e5 e7 ⟨rfl,rfl,rfl,by simp,λk _ hk=>setRow_other w q k _ (λe=>hk (by rw[e]))⟩ (setRow_heap w q us.toArray _ t' _ e3) (by omega) hr a3;rw[O8];exact b0.put (gW hd) (S8 _)
  ·exact h.elim
 ·exact h.elim
end
end
section
variable {w:World}{a:Act}{x:IV}{bs:E7}{v:Value}{c:AV}
section
variable {P:Program}{B:Base}{o:Oper}{X:St}{K:Fx->Prop}
def jK(bs:E7):∀(X:St) (o:Nat),(app X (fwr bs)).kd o=if o∈bs.map (·.1) then .dead else X.kd o:=by
 induction bs with
 |nil=>intro X o;simp[fwr,app]
 |cons b bs ih =>
  intro X o;show(app (upd X (.knd b.1) (.kd .dead)) (fwr bs)).kd o=_;rw[ih,W0,L0];by_cases h:o∈bs.map (·.1)
  ·rw[if_pos h,if_pos (K3 _ h)]
  ·rw[if_neg h];by_cases e:o=b.1
   ·rw[if_pos e,if_pos (by rw[e];exact aP)]
   ·rw[if_neg e,if_neg (λhm=>by rcases I2.1 hm with h1|h1;exact e h1;exact h h1)]
def fwr_live{o:Nat}(h:live (app X (fwr bs)) o):live X o/\o∉bs.map (·.1):=by
 unfold live at h;rw[jK]at h;by_cases e:o∈bs.map (·.1)
 ·rw[if_pos e]at h;exact absurd rfl h
 ·rw[if_neg e]at h;exact⟨h,e⟩
def mL(bs:E7):∀(X:St),(app X (fwr bs)).gn=X.gn:=by
 induction bs with
 |nil=>intro X;rfl
 |cons b bs ih =>
  intro X;show(app (upd X (.knd b.1) (.kd .dead)) (fwr bs)).gn=_;rw[ih];exact funext λt=>aT X b.1 t _
def fwr_av(bs:E7)(t:Nat):∀(X:St),(app X (fwr bs)).av t=X.av t:=by
 induction bs with
 |nil=>intro X;rfl
 |cons b bs ih=>intro X;show(app (upd X (.knd b.1) (.kd .dead)) (fwr bs)).av t=_;rw[ih,dO]
def gok_mem:∀{bs:E7},gok X bs->∀p∈bs,X.gn p.1=p.2
 |(b,g)::bs,h,p,hp=>by
  rcases I2.1 hp with rfl|hp
  ·exact h.1
  ·exact gok_mem h.2 p hp
def fR.out{A:Prop}(h:fR X bs A):(∀p∈bs,X.gn p.1=p.2)/\A:=by
 unfold fR at h;split at h
 ·exact⟨λp hp=>by simp at hp,h⟩
 ·exact⟨gok_mem h.out.1,h.out.2⟩
def lE{S:Nat->Prop}(h:RepI w S v x):RepI w S v (nz1 x):=by
 unfold nz1;split
 ·cases h with
  |val _=>exact .emp _ _
 ·exact .any _
 ·cases h with
  |nsl _ _ _ _ h=>exact h
 ·exact h
def nz_rep{S:Nat->Prop}(h:RepI w S v x):RepI w S v (nz x):=by
 unfold nz;split
 ·rename_i cs;cases h with
  |agg us _ hl h1' hr =>
   refine .agg us _ (by simpa using hl) h1' λi u x hu hx=>?_;simp only[K5]at hx;cases hc:cs[i]? with
   |none=>rw[hc]at hx;cases hx
   |some c =>
    rw[hc]at hx;simp only[L5,D4]at hx;rw[<- hx];exact lE (hr i u c hu hc)
 ·rename_i vs;split
  case isFalse=>exact .any _
  rename_i a2;cases h with
  |val _ =>
   have:=RepI.agg (w:=w) (S:=S) vs.toList (vs.toList.map λv=>nz1 (.val v)) (by simp) (λu hu=>O0.1 a2 u hu) λi u x hu hx=>by
    simp only[K5,hu,L5,D4]at hx;rw[<- hx];exact lE (.val _)
   simpa using this
 ·exact lE h
def xO{Y:Ly}{o q:Nat}(h:Owns (app X (fwr bs)) Y o q):Owns X Y o q/\o∉bs.map (·.1):=by
 have hl:=(fwr_live h.lv).2;unfold Owns at h ⊢;rw[jK,if_neg hl]at h;exact⟨h,hl⟩
def kill_blk{Y:Ly}(h:SatR B X a w Y){b q:Nat}(hb:Owns X Y b q)(hm:b∈bs.map (·.1)):Imm B (app X (fwr bs)) Y w q:=by
 have hq:=h.own b q hb;refine⟨.inr hq.1,hq.2,λo ho=>?_,λhz=>(h.res q hz).2 b hb⟩;obtain⟨h1,h2⟩:=xO ho;have:=h.dis o b q h1 hb;subst this;exact h2 hm
def Z6.repI{w w':World}{S S':Nat->Prop}{e:TypeId}{k:Nat}{es:List (List IV)}(h:Z6 w S v e k es)(hb:∀b,G3 v=some b->S' b/\w'.heap[b]?=w.heap[b]?)(hI:∀u x,RepI w S u x->RepI w' S' u x):RepI w' S' v (.sl es):=by
 obtain⟨us,b0,a7,a8,a4,a5,a2,hr⟩:=h;have a3:=vK a4 λb h=>(hb b h).2;rcases a3.2 with⟨e1,e2⟩|⟨q,a9,cur,e1,_,_,a6,_⟩
 ·have:es=[]:=S9 e2;subst this;rw[e1];exact .emp _ _
 ·have hc:=a3.cells (g:=q) (by rw[e1];rfl);have hS:=(hb q (by rw[e1];rfl)).1;rw[e1];refine .sl q 0 a9 k _ es us rfl a7 a6 a8 hS a5 a2 (λi u hu=>?_) λi u x hu hx=>hI _ _ (hr i u x hu hx);have:=hc i u hu
  rwa [addr_add]at this
def fS.repI{w w':World}{S S':Nat->Prop}{inn:List Value}{e e':TypeId}{k:Nat}{gs:List (List IV)}(h:fS w S v inn e e' k gs none)(hb:∀b,b∈fpv v inn->S' b/\w'.heap[b]?=w.heap[b]?)(hI:∀u x,RepI w S u x->RepI w' S' u x):RepI w' S' v (.sl gs):=by
 obtain⟨h0,h1,us,h2,h3,h4,h5⟩:=h;have a9:us.length=gs.length:=by have:=h3.1;omega
 have a2:∀(i:Nat) x,gs[i]?=some x->∃u es,us[i]?=some u/\x=[.sl es]/\RepI w' S' u (.sl es):=λi x hx=>by
  have hi:i<inn.length:=by rw[h1];exact(G4.1 hx).1
  obtain⟨u,hu⟩:∃u,inn[i]?=some u:=⟨_,L4 hi⟩;rcases h5 i u hu with⟨h6,_⟩|⟨h6,es,h7,h8⟩
  ·cases h6
  ·rw[hx]at h7;injection h7 with h7
   exact⟨u,es,h6,h7,h8.repI (λb a6=>hb b (kZ.2 ⟨u,K3 _ (H8 hu),a6⟩)) hI⟩
 have a5:∀x∈gs,x.length=1:=λx hx=>by
  obtain⟨i,hi⟩:=qB hx;obtain⟨u,es,_,rfl,_⟩:=a2 i x hi;rfl
 have b0:=U5 a5;have a4:=vK h3 λb a6=>(hb b (by simp[fpv,a6])).2;rcases a4.2 with⟨e1,e2⟩|⟨q,a8,cur,e1,_,_,a7,_⟩
 ·have:gs=[]:=S9 e2;subst this;rw[e1];exact .emp _ _
 ·have hc:=a4.cells (g:=q) (by rw[e1];rfl);have hS:=(hb q (by simp[fpv,e1,G3])).1;rw[e1];refine .sl q 0 a8 1 _ gs us rfl a5 a7 h2 hS (by omega) h4 (λi u hu=>?_) λi u x hu hx=>?_
  ·have:=hc i u hu
   rwa [addr_add]at this
  ·have hi:i<gs.length:=by rw[<- a9];exact(G4.1 hu).1
   obtain⟨y,hy⟩:∃y,gs[i]?=some y:=⟨_,L4 hi⟩;obtain⟨u',es,a3,rfl,hr⟩:=a2 i y hy;rw[hu]at a3;injection a3 with a3
   subst a3;have hf:=flat_get a5 hy (j:=0) (by omega);rw[mB,W7,hx]at hf;simp at hf;rw[hf];exact hr
def fz1_ok{Y:Ly}(h:SatR B X a w Y){bs bs':E7}(hgk:∀p∈bs',X.gn p.1=p.2)(hv:RepA w (Imm B X Y w) Y X.gn v c)(e:fz1 X c=some (x,bs))(hs:∀b∈bs,b∈bs'):RepI w (Imm B (app X (fwr bs')) Y w) v x:=by
 have hI:=(h.kills bs').2;unfold fz1 at e;split at e
 ·simp only[D4,G0]at e;rw[<- e.1];exact lE (hI _ _ hv.im_inv)
 ·rename_i b g
  have key:∀{k:Kd},X.kd b=k->k≠.dead->(b,g)∈bs'->v=Y b/\∀q,q∈fpk (Y b) (Y.inn b) k->Imm B (app X (fwr bs')) Y w q/\w.heap[q]?=w.heap[q]?:=λhk hd a2=>by
   have hg:=hgk _ a2;have a2:b∈bs'.map (·.1):=D8.2 ⟨_,a2,rfl⟩;refine⟨?_,λq hq=>⟨kill_blk h (b:=b) (by unfold Owns;rw[hk];exact hq) a2,rfl⟩⟩;cases hv with
   |osl _ _ _ _ _ hh=>exact hh hg
  have ho:=h.obs b;split at e
  ·rename_i t k es hk;simp only[D4,G0]at e;obtain⟨rfl,rfl⟩:=e;obtain⟨h1,h2⟩:=key hk (λz=>by cases z) (hs (b,g) (by simp));rw[hk]at ho;rw[h1];exact Z6.repI ho (λq hq=>h2 q (by simp[fpk,hq])) hI
  ·rename_i t t' k gs hk;simp only[D4,G0]at e;obtain⟨rfl,rfl⟩:=e;obtain⟨h1,h2⟩:=key hk (λz=>by cases z) (hs (b,g) (by simp));rw[hk]at ho;rw[h1];exact fS.repI ho (λq hq=>h2 q hq) hI
  ·rename_i l hk;simp only[D4,G0]at e;obtain⟨rfl,rfl⟩:=e;exact .any _
  ·cases e
 ·rename_i b g i;have ho:=h.obs b;split at e
  ·rename_i t t' k gs hk a5;simp only[D4,G0]at e;obtain⟨rfl,rfl⟩:=e;have a2:b∈bs'.map (·.1):=D8.2 ⟨_,hs (b,X.gn b) (by simp),rfl⟩;have hg:X.ig b=g:=S2 a5
   have a3:(Y.inn b)[i]?=some v:=by
    cases hv with
    |sub _ _ _ _ _ _ hh=>exact hh ((h.igs b).trans hg)
   have a4:∀q,q∈fpk (Y b) (Y.inn b) (.grid t t' k gs none)->Imm B (app X (fwr bs')) Y w q:=λq hq=>kill_blk h (b:=b) (by unfold Owns;rw[hk];exact hq) a2;rw[hk]at ho;obtain⟨h0,h1,us,h2,h3,h4,h5⟩:=ho;rcases h5 i v a3 with⟨h6,_⟩|⟨h6,es,h7,h8⟩
   ·cases h6
   ·have er:rowAt gs i=es:=by unfold rowAt;rw[h7]
    rw[er];exact h8.repI (λq hq=>⟨a4 q (kZ.2 ⟨v,K3 _ (H8 a3),hq⟩),rfl⟩) hI
  ·cases e
 ·cases e
def fzL_ok{Y:Ly}(h:SatR B X a w Y){bs':E7}(hgk:∀p∈bs',X.gn p.1=p.2):∀{us:List Value} {cs:List AV} {xs:List IV} {bs:E7},Reps w (Imm B X Y w) Y X.gn us cs->fzL X cs=some (xs,bs)->(∀b∈bs,b∈bs')->W9 w (Imm B (app X (fwr bs')) Y w) us xs
 |[],[],xs,bs,_,e,_=>by
  simp only[fzL,D4,G0]at e;rw[<- e.1];exact⟨rfl,λi u x hu=>by simp at hu⟩
 |u::us,c::cs,xs,bs,hr,e,hs=>by
  simp only[fzL]at e;split at e
  ·rename_i x b1 xs1 bs1 h1 h2;simp only[D4,G0]at e;obtain⟨rfl,rfl⟩:=e;have r1:=fz1_ok h hgk (hr.2 0 u c rfl rfl) h1 λb hb=>hs b (M1 _ hb);have r2:=fzL_ok h hgk (us:=us) (cs:=cs) ⟨by simpa using hr.1,λi u c hu hc=>hr.2 (i+1) u c (by simpa using hu) (by simpa using hc)⟩ h2 λb hb=>hs b (M2 _ hb);refine⟨by simp[r2.1],λi u' x' hu hx=>?_⟩;cases i with
   |zero=>simp at hu hx;rw[<- hu,<- hx];exact r1
   |succ i=>exact r2.2 i u' x' (by simpa using hu) (by simpa using hx)
  ·cases e
 |[],_::_,_,_,hr,_,_=>by have:=hr.1;simp at this
 |_::_,[],_,_,hr,_,_=>by have:=hr.1;simp at this
def CY{Y:Ly}{us:List Value}{b:Nat}{t:TypeId}(hk:X.kd b=.box t us.length)(h:∀(j:Nat) u,us[j]?=some u->RepA w (Imm B X Y w) Y X.gn u (X.ce b j)):Reps w (Imm B X Y w) Y X.gn us (eJ X b):=by
 have hl:=yM hk;unfold eJ;rw[hl];refine⟨by simp,λi u c hu hc=>?_⟩;have hi:i<us.length:=(G4.1 hu).1;simp only[K5,bT hi,L5,D4]at hc;rw[<- hc];exact h i u hu
def W9.drop{S:Nat->Prop}{us:List Value}{xs:List IV}(h:W9 w S us xs)(i:Nat):W9 w S (us.drop i) (xs.drop i) :=
 ⟨by simp[h.1],λj u x hu hx=>h.2 (i+j) u x (by rwa [W6]at hu) (by rwa [W6]at hx)⟩
def fz2_ok{Y:Ly}(h:SatR B X a w Y){bs bs':E7}(hgk:∀p∈bs',X.gn p.1=p.2)(hv:RepA w (Imm B X Y w) Y X.gn v c)(e:fz2 X c=some (x,bs))(hs:∀b∈bs,b∈bs'):RepI w (Imm B (app X (fwr bs')) Y w) v x:=by
 have hI:=(h.kills bs').2;unfold fz2 at e;split at e
 ·simp only[D4,G0]at e;rw[<- e.1];exact nz_rep (hI _ _ hv.im_inv)
 ·rename_i cs;cases hf:fzL X cs with
  |none=>rw[hf]at e;cases e
  |some p =>
   rw[hf]at e;simp only[L5,D4,G0]at e;cases hv with
   |agg us _ hl a2 hr =>
    have r:=fzL_ok h (bs':=bs') hgk ⟨hl,hr⟩ (xs:=p.1) (bs:=p.2) hf (by rw[e.2];exact hs);rw[<- e.1];exact .agg us _ r.1 a2 r.2
 ·rename_i b g i;split at e
  ·rename_i t m a4;cases hf:fzL X (eJ X b) with
   |none=>rw[hf]at e;cases e
   |some p =>
    rw[hf]at e;simp only[L5,D4,G0]at e;obtain⟨e1,e2⟩:=e;have a3:=hs (b,g) (by rw[<- e2];simp);have hg:=hgk _ a3;have a3:b∈bs'.map (·.1):=D8.2 ⟨_,a3,rfl⟩;have a5:∀b∈p.2,b∈bs':=λc hc=>hs c (by rw[<- e2];simp[hc]);have hl:live X b:=by unfold live;rw[a4];exact λz=>by cases z
    obtain⟨q,us,e3,e4,e5,e6,e7,e8,e9⟩:=lG h hv hg a4;have r:=(fzL_ok h (bs':=bs') hgk (CY (by rw[e6];exact a4) e9) (xs:=p.1) (bs:=p.2) hf a5).drop i;have hb:G3 (Y b)=some q:=by rw[e4];rfl
    rw[<- e1,e3];exact .ref q i (us.drop i) _ (kill_blk h (.root hl hb) a3) r.1 (λu hu=>e7 u (V7 hu)) (λj u hu=>e8 _ u (by rwa [W6]at hu)) r.2
  ·cases e
 ·exact fz1_ok h hgk hv e hs
def fzM_ok{Y:Ly}(h:SatR B X a w Y){bs':E7}(hgk:∀p∈bs',X.gn p.1=p.2):∀{us:List Value} {cs:List AV} {xs:List IV} {bs:E7},Reps w (Imm B X Y w) Y X.gn us cs->fzM X cs=some (xs,bs)->(∀b∈bs,b∈bs')->W9 w (Imm B (app X (fwr bs')) Y w) us xs
 |[],[],xs,bs,_,e,_=>by
  simp only[fzM,D4,G0]at e;rw[<- e.1];exact⟨rfl,λi u x hu=>by simp at hu⟩
 |u::us,c::cs,xs,bs,hr,e,hs=>by
  simp only[fzM]at e;split at e
  ·rename_i x b1 xs1 bs1 h1 h2;simp only[D4,G0]at e;obtain⟨rfl,rfl⟩:=e;have r1:=fz2_ok h hgk (hr.2 0 u c rfl rfl) h1 λb hb=>hs b (M1 _ hb);have r2:=fzM_ok h hgk (us:=us) (cs:=cs) ⟨by simpa using hr.1,λi u c hu hc=>hr.2 (i+1) u c (by simpa using hu) (by simpa using hc)⟩ h2 λb hb=>hs b (M2 _ hb);refine⟨by simp[r2.1],λi u' x' hu hx=>?_⟩;cases i with
   |zero=>simp at hu hx;rw[<- hu,<- hx];exact r1
   |succ i=>exact r2.2 i u' x' (by simpa using hu) (by simpa using hx)
  ·cases e
 |[],_::_,_,_,hr,_,_=>by have:=hr.1;simp at this
 |_::_,[],_,_,hr,_,_=>by have:=hr.1;simp at this
def fz_ok{Y:Ly}(h:SatR B X a w Y){bs bs':E7}(hgk:∀p∈bs',X.gn p.1=p.2)(hv:RepA w (Imm B X Y w) Y X.gn v c)(e:fz X c=some (x,bs))(hs:∀b∈bs,b∈bs'):RepI w (Imm B (app X (fwr bs')) Y w) v x:=by
 unfold fz at e;split at e
 ·rename_i f caps;cases hf:fzM X caps with
  |none=>rw[hf]at e;cases e
  |some p =>
   rw[hf]at e;simp only[L5,D4,G0]at e;cases hv with
   |fn _ us _ hl hr =>
    have r:=fzM_ok h (bs':=bs') hgk ⟨hl,hr⟩ (xs:=p.1) (bs:=p.2) hf (by rw[e.2];exact hs);rw[<- e.1];exact .fn f us _ r.1 r.2
 ·exact fz2_ok h hgk hv e hs
def O3(X X':St)(bs:E7):Prop:=∀l∈frd X bs,X' l=X l
def O3.left{X':St}{b c:E7}(h:O3 X X' (b++c)):O3 X X' b:=λl hl=>h l (by unfold frd at *;rw[eF];exact M1 _ hl)
def O3.right{X':St}{b c:E7}(h:O3 X X' (b++c)):O3 X X' c:=λl hl=>h l (by unfold frd at *;rw[eF];exact M2 _ hl)
def O3.head{X':St}{p:Nat×Nat}{c:E7}(h:O3 X X' (p::c)):X'.gn p.1=X.gn p.1/\X'.kd p.1=X.kd p.1/\eJ X' p.1=eJ X p.1/\X'.ig p.1=X.ig p.1:=by
 have h1:=V1 (h (.gen p.1) (by simp[frd]));have h2:=tA (h (.knd p.1) (by simp[frd]))
 have h3:X'.ig p.1=X.ig p.1:=by
  have:=h (.ign p.1) (by simp[frd]);unfold St.ig;rw[this]
 refine⟨h1,h2,?_,h3⟩;unfold eJ;rw[boxLen_same h2];refine nV λi hi=>ce_same (h (.cel p.1 i) ?_);simp only[frd,P1,eD,I2,K0];refine .inr (.inr (.inr (.inl ?_)));unfold boxRd;exact D8.2 ⟨i,hi,rfl⟩
def fz1_same{X':St}(e:fz1 X c=some (x,bs))(h:O3 X X' bs):fz1 X' c=some (x,bs):=by
 unfold fz1 at e ⊢;split at e
 ·exact e
 ·rename_i b g;split at e
  ·rename_i t k es hk;simp only[D4,G0]at e;obtain⟨rfl,rfl⟩:=e;rw[show X'.kd b=_ from(O3.head h).2.1.trans hk]
  ·rename_i t t' k gs hk;simp only[D4,G0]at e;obtain⟨rfl,rfl⟩:=e;rw[show X'.kd b=_ from(O3.head h).2.1.trans hk]
  ·rename_i l hk;simp only[D4,G0]at e;obtain⟨rfl,rfl⟩:=e;rw[show X'.kd b=_ from(O3.head h).2.1.trans hk]
  ·cases e
 ·rename_i b g i;split at e
  ·rename_i t t' k gs hk a2;simp only[D4,G0]at e;obtain⟨rfl,rfl⟩:=e;have hh:=O3.head h;rw[show X'.kd b=_ from hh.2.1.trans hk,show Nat.beq (X'.ig b) g=true by rw[show X'.ig b=X.ig b from hh.2.2.2];exact a2,show X'.gn b=X.gn b from hh.1]
  ·cases e
 ·cases e
def qL{X':St}:∀{cs:List AV} {xs:List IV} {bs:E7},fzL X cs=some (xs,bs)->O3 X X' bs->fzL X' cs=some (xs,bs)
 |[],_,_,e,_=>e
 |c::cs,xs,bs,e,h=>by
  simp only[fzL]at e;split at e
  ·rename_i x b1 xs1 bs1 h1 h2;simp only[D4,G0]at e;obtain⟨rfl,rfl⟩:=e;simp only[fzL,fz1_same h1 h.left,qL h2 h.right]
  ·cases e
def fz2_same{X':St}(e:fz2 X c=some (x,bs))(h:O3 X X' bs):fz2 X' c=some (x,bs):=by
 unfold fz2 at e ⊢;split at e
 ·exact e
 ·rename_i cs;cases hf:fzL X cs with
  |none=>rw[hf]at e;cases e
  |some p =>
   rw[hf]at e;simp only[L5,D4,G0]at e;obtain⟨rfl,rfl⟩:=e;rw[qL (xs:=p.1) (bs:=p.2) hf h];rfl
 ·rename_i b g i;split at e
  ·rename_i t m a2;cases hf:fzL X (eJ X b) with
   |none=>rw[hf]at e;cases e
   |some p =>
    rw[hf]at e;simp only[L5,D4,G0]at e;obtain⟨rfl,rfl⟩:=e;have hh:=O3.head h;rw[show X'.kd b=_ from hh.2.1.trans a2];simp only;rw[show eJ X' b=_ from hh.2.2.1,qL (xs:=p.1) (bs:=p.2) hf (O3.right (b:=[(b,g)]) h)];rfl
  ·cases e
 ·exact fz1_same e h
def fzM_same{X':St}:∀{cs:List AV} {xs:List IV} {bs:E7},fzM X cs=some (xs,bs)->O3 X X' bs->fzM X' cs=some (xs,bs)
 |[],_,_,e,_=>e
 |c::cs,xs,bs,e,h=>by
  simp only[fzM]at e;split at e
  ·rename_i x b1 xs1 bs1 h1 h2;simp only[D4,G0]at e;obtain⟨rfl,rfl⟩:=e;simp only[fzM,fz2_same h1 h.left,fzM_same h2 h.right]
  ·cases e
def qE{X':St}(e:fz X c=some (x,bs))(h:O3 X X' bs):fz X' c=some (x,bs):=by
 unfold fz at e ⊢;split at e
 ·rename_i f caps;cases hf:fzM X caps with
  |none=>rw[hf]at e;cases e
  |some p =>
   rw[hf]at e;simp only[L5,D4,G0]at e;obtain⟨rfl,rfl⟩:=e;rw[fzM_same (xs:=p.1) (bs:=p.2) hf h];rfl
 ·exact fz2_same e h
def SatR.reav{B:Base}{X:St}{Y:Ly}(h:SatR B X a w Y){t:Nat}{v:AV}(hv:RepA w (Imm B X Y w) Y X.gn (a.tmps.getD t undef) v):SatR B (upd X (.tmp t) (.av v)) a w Y:=by
 refine h.slots (lF.tmp X t (.av v)) (λs=>?_) h.siz h.dfr;rw[av_tmp];by_cases e:s=t
 ·rw[if_pos e,e];exact hv
 ·rw[if_neg e];exact h.tms s
def SatR.reavs{B:Base}{Y:Ly}:∀(ws:List (Nat×IV)) {X:St},SatR B X a w Y->(∀p∈ws,RepI w (Imm B X Y w) (a.tmps.getD p.1 undef) p.2) ->
  SatR B (app X (wrI ws)) a w Y/\Imm B (app X (wrI ws)) Y w=Imm B X Y w/\(app X (wrI ws)).gn=X.gn
 |[],_,h,_=>⟨h,rfl,rfl⟩
 |p::ws,X,h,hp=>by
  have hs:=lF.tmp X p.1 (.av (.im p.2));have h1:=h.reav (t:=p.1) (.im _ _ (hp p (aP ..)));have hi:Imm B (upd X (.tmp p.1) (.av (.im p.2))) Y w=Imm B X Y w:=Imm.same hs.kd _ _;obtain⟨h2,h3,h4⟩:=SatR.reavs ws h1 λq hq=>by rw[hi];exact hp q (K3 _ hq)
  exact⟨h2,h3.trans hi,h4.trans hs.gn⟩
def capF_same{own:List Nat}{X':St}:∀{l:List Operand} {vs:List AV} {bs:E7} {ws:List (Nat×IV)},capF X own l=some (vs,bs,ws)->O3 X X' bs->(∀x∈l,evA X' x=evA X x)->capF X' own l=some (vs,bs,ws)
 |[],_,_,_,h,_,_=>h
 |x::l,vs,bs,ws,h,hs,he=>by
  unfold capF at h ⊢;split at h
  ·rename_i vs0 bs0 ws0 h0;have hrec:O3 X X' bs0->capF X' own l=some (vs0,bs0,ws0):=λhs0=>capF_same h0 hs0 λy hy=>he y (K3 _ hy);have hx:=he x (aP ..);split at h
   ·rename_i t;have hx:X'.av t=X.av t:=hx;split at h
    ·rename_i hown;split at h
     ·rename_i y b hy;simp only[D4,G0]at h;obtain⟨rfl,rfl,rfl⟩:=h;rw[hrec λl' hl'=>hs l' (by unfold frd at hl' ⊢;rw[eF];exact M2 _ hl')];simp only[hown];rw[hx,fz2_same hy λl' hl'=>hs l' (by unfold frd at hl' ⊢;rw[eF];exact M1 _ hl')]
     ·cases h
    ·rename_i hown;simp only[D4,G0]at h;obtain⟨rfl,rfl,rfl⟩:=h;rw[hrec hs];simp only[hown];rw[hx]
   ·rename_i hne;simp only[D4,G0]at h;obtain⟨rfl,rfl,rfl⟩:=h;rw[hrec hs];cases x with
    |tmp t=>exact absurd rfl (hne _)
    |_=>rfl
  ·cases h
def capF_ok{own:List Nat}{Y:Ly}(h:SatR B X a w Y){bs':E7}(hgk:∀p∈bs',X.gn p.1=p.2):∀{l:List Operand} {vs:List AV} {bs:E7} {ws:List (Nat×IV)},capF X own l=some (vs,bs,ws)->(∀b∈bs,b∈bs') ->
  Reps w (Imm B (app X (fwr bs')) Y w) Y (app X (fwr bs')).gn (l.map a.eval) vs/\∀p∈ws,RepI w (Imm B (app X (fwr bs')) Y w) (a.tmps.getD p.1 undef) p.2
 |[],_,_,_,e,_=>by
  simp only[capF,D4,G0]at e;obtain⟨rfl,rfl,rfl⟩:=e;exact⟨⟨rfl,λi u y hu=>by simp at hu⟩,λp hp=>by simp at hp⟩
 |x::l,vs,bs,ws,e,hb=>by
  unfold capF at e;obtain⟨hk,_⟩:=h.kills bs';have hgn:(app X (fwr bs')).gn=X.gn:=mL bs' X
  have cons:∀{u:Value} {y:AV} {us:List Value} {ys:List AV},RepA w (Imm B (app X (fwr bs')) Y w) Y (app X (fwr bs')).gn u y->Reps w (Imm B (app X (fwr bs')) Y w) Y (app X (fwr bs')).gn us ys->Reps w (Imm B (app X (fwr bs')) Y w) Y (app X (fwr bs')).gn (u::us) (y::ys):=λh1 h2 =>
   ⟨by simp[h2.1],λi u' y' hu hy=>by
    cases i with
    |zero=>simp at hu hy;rw[<- hu,<- hy];exact h1
    |succ i=>exact h2.2 i u' y' (by simpa using hu) (by simpa using hy)⟩
  split at e
  ·rename_i vs0 bs0 ws0 h0;split at e
   ·rename_i t;split at e
    ·split at e
     ·rename_i y b hy;simp only[D4,G0]at e;obtain⟨rfl,rfl,rfl⟩:=e;obtain⟨r1,r2⟩:=capF_ok h hgk h0 λp hp=>hb p (M2 _ hp);have h1:=fz2_ok h (bs':=bs') hgk (h.tms t) hy λp hp=>hb p (M1 _ hp)
      exact⟨cons (.im _ _ h1) r1,λp hp=>by
       rcases I2.1 hp with rfl|hp
       ·exact h1
       ·exact r2 p hp⟩
     ·cases e
    ·simp only[D4,G0]at e;obtain⟨rfl,rfl,rfl⟩:=e;obtain⟨r1,r2⟩:=capF_ok h hgk h0 hb;have:=hk.tms t;rw[fwr_av]at this;exact⟨cons this r1,r2⟩
   ·rename_i hne;simp only[D4,G0]at e;obtain⟨rfl,rfl,rfl⟩:=e;obtain⟨r1,r2⟩:=capF_ok h hgk h0 hb;have:=F7 hk x;cases x with
    |tmp t=>exact absurd rfl (hne _)
    |_=>exact⟨cons this r1,r2⟩
  ·cases e
def aMakeFunc_ok{own:List Nat}{fn:Fn}{first captured:Array Operand}(hop:o.op=.makeFunc fn first captured)(hd:J3 B.n o=true)(h:aMakeFunc own o X K fn first captured):∃fx,K fx/\Eff P B o fx.rd X fx.wr:=by
 unfold aMakeFunc at h;split at h
 ·rename_i g;split at h
  ·rename_i vs bs ws a5;obtain⟨h0,h⟩:=h.ok;obtain⟨a4,h⟩:=h.out;refine⟨_,h,λX' hag a w ⟨Y,hs⟩ K' Q hK=>?_⟩;have hf:first=#[]:=by simpa using h0
   subst hf;have a2:O3 X X' bs:=J6 hag
   have a7:∀p∈bs,X'.gn p.1=p.2:=λp hp=>by
    rw[<- a4 p hp];exact V1 (a2 (.gen p.1) (by unfold frd;exact L6.2 ⟨p,hp,by simp⟩))
   have a3:=capF_same a5 a2 λx hx=>E8 λl hl=>I4 hag l (by unfold opdL;exact L6.2 ⟨x,hx,hl⟩);obtain⟨a6,_⟩:=hs.kills bs;obtain⟨r1,r2⟩:=capF_ok hs (bs':=bs) a7 a3 λ_ h=>h;obtain⟨h5,h6,h7⟩:=a6.reavs ws r2
   have run:(execOp a.eval o).run P w=.ok (.value (.func (.func g) #[] (captured.toList.map a.eval).toArray)) w:=by
    simp[execOp,hop,Instr.makeFunc];rw[<- kW]
   unfold Oper.wp;rw[run,Oper.upon_value];refine hK _ _ ⟨Y,?_⟩;rw[O8,O8];exact h5.put (λt e=>aJ hd e) (.fn g _ _ (by simpa using r1.1) λi u y hu hy=>by rw[h6,h7];exact r1.2 i u y hu hy)
  ·exact h.elim
 ·exact h.elim
def aBox_ok{own:List Nat}{t:TypeId}{x:Operand}(hop:o.op=.box t x)(hd:J3 B.n o=true)(h:aBox own o X K t x):∃fx,K fx/\Eff P B o fx.rd X fx.wr:=by
 unfold aBox at h;split at h
 ·rename_i d cs a2 a5
  have run:∀(a:Act) w,(execOp a.eval o).run P w=.ok (.value (.pointer (some ⟨w.heap.size,0,none⟩))) (w.alloc (.cells (a.eval x).cells.toList.toArray t)):=λa w=>by
   simp[execOp,hop,Instr.box,newVar,newRow]
  split at h
  ·split at h
   ·rename_i xs bs b3;obtain⟨a8,h⟩:=h.out;refine⟨_,h,λX' hag a w ⟨Y,hs⟩ K' Q hK=>?_⟩;have a4:O3 X X' bs:=J6 hag
    have b2:∀p∈bs,X'.gn p.1=p.2:=λp hp=>by
     rw[<- a8 p hp];exact V1 (a4 (.gen p.1) (by unfold frd;exact L6.2 ⟨p,hp,by simp⟩))
    have h1:=F7 hs x;rw[E8 (I4 hag)]at h1;have hr:=oO a5 h1;have a3:=oX a5 h1;have hf:=fzL_ok hs (bs':=bs) b2 hr (qL b3 a4) λ_ h=>h;obtain⟨a6,_⟩:=hs.kills bs;have a7:Below w.heap.size w (w.alloc (.cells (a.eval x).cells.toList.toArray t)):=(Below.refl _ _).alloc (H4 _) _;obtain⟨b0,hI⟩:=a6.world a7;unfold Oper.wp;rw[run,Oper.upon_value,a2];refine hK _ _ ⟨Y,?_⟩;rw[O8];refine b0.put (d:=some d) (λt e=>by injection e with e;subst e;exact aJ hd a2) (.im _ _ (.ref _ _ _ _ ⟨.inr (.inl hs.bel.size),by simp,λp a9=>?_,λhz=>?_⟩ hf.1 a3 (λi u hu=>?_) λi u y hu hy=>hI _ _ (hf.2 i u y hu hy)))
    ·have:=(a6.own p _ a9).2;omega
    ·have:=(a6.res _ hz).1.2;omega
    ·rw[J9];unfold World.cell?;simp only[heap_alloc_new];simpa using hu
   ·exact h.elim
  refine⟨_,h,λX' hag a w ⟨Y,hs⟩ K' Q hK=>?_⟩;have h1:=F7 hs x;rw[E8 (I4 hag)]at h1;have hg:=V1 (J6 hag (.gen d) (by simp));have hr:=oO a5 h1;have a3:=oX a5 h1;unfold Oper.wp;rw[run,Oper.upon_value,a2];refine hK _ _ ⟨setY Y d (.pointer (some ⟨w.heap.size,0,none⟩)),?_⟩;show SatR B (app X' (M9 X d (.box t cs.length)++P8 d 0 cs++[(.tmp d,.av (.own d (X.gn d+1) 0))])) _ _ _;rw[mQ hg,<- hg];exact newObj_own (hs.box d t hr a3) _ rfl (aJ hd a2)
 ·exact h.elim
end
end
section
section
variable {P:Program}{B:Base}{o:Oper}{X:St}{K:Fx->Prop}
def tK{t:TypeId}{k by_:Nat}(hz:nM P t k=true)(hk:szOf P t=some k)(hb:byteOf P t=some by_):∃i z,P.info? t=some i/\i.zero=some z/\i.size=k/\i.bytes=by_/\z.cells.size=k:=by
 unfold szOf at hk;unfold byteOf at hb;cases hi:P.info? t with
 |none=>rw[hi]at hk;cases hk
 |some i =>
  rw[hi]at hk hb;simp only[L5,D4]at hk hb;unfold nM at hz;split at hz
  ·rename_i zs a2;unfold zeroOf at a2;simp only[hi]at a2;cases hz0:i.zero with
   |none=>rw[hz0]at a2;cases a2
   |some z =>
    rw[hz0]at a2;simp only[L5,D4]at a2;refine⟨i,z,rfl,hz0,hk,hb,?_⟩;rw[<- a2]at hz;simpa using hz
  ·cases hz
def sl_src{w:World}{S:Nat->Prop}{v:Value}{es:List (List IV)}{k:Nat}(h:RepI w S v (.sl es))(hk:∀e∈es,e.length=k) :
  ∃(A:Option Addr) (c:Nat) (us:List Value),v=.slice A es.length c/\us.length=es.flatten.length/\(∀u∈us,u.oneCell'=true)/\es.length<=17592186044416 /\
   (0<es.length->∃b q,A=some ⟨b,q,none⟩/\∀(j:Nat) u,us[j]?=some u->w.cell? ⟨b,q+j,none⟩=some u)/\∀(i:Nat) u x,us[i]?=some u->es.flatten[i]?=some x->RepI w S u x:=by
 cases h with
 |emp A c=>exact⟨A,c,[],rfl,rfl,by simp,by simp,λh=>by simp at h,by simp⟩
 |sl b q c k' n _ us hn hkk hcap hs hS hl h1 hu hr=>exact⟨_,c,us,by rw[hn],hl,h1,by omega,λ_=>⟨b,q,rfl,hu⟩,hr⟩
def EY{w:World}(base:Nat)(t ty e:TypeId)(i:TypeInfo)(z:Value)(size bytes:Nat)(ht:P.underlying t=some (.slice e))(hi:P.info? e=some i)(hz:i.zero=some z)
  (hsize:i.size=size) (hby:i.bytes=bytes) (hzs:z.cells.size=size) (hsz:0<size) (v:Value) (n:Nat) (xs:List Value) (hown:w.ownsRow base e size v n xs)
  (A:Option Addr) (m c:Nat) (news:List Value) (hl:news.length=m*size) (hs:0<m->∃b q,A=some ⟨b,q,none⟩/\∀(j:Nat) u,news[j]?=some u->w.cell? ⟨b,q+j,none⟩=some u) (h1:∀u∈news,u.oneCell'=true)
  (a2:n+m<=maxLen) (hbytes:(n+m)*bytes<=140737488355328) (hbase:base<=w.heap.size) :
  ∃v' w',(Builtin.append_ #[t,t] ty #[v,.slice A m c]).run P w=.ok v' w'/\w'.ownsRow base e size v' (n+m) (xs++news)/\w.grownBy w' v.ownBlock /\
   (v'.ownBlock=v.ownBlock\/v'.ownBlock=some w.heap.size):=by
 cases A with
 |none =>
  have hm:m=0:=by
   rcases gR m with h0|h0
   ·exact h0
   ·obtain⟨b,q,h,_⟩:=hs h0;cases h
  subst hm;have hn:news=[]:=S9 (by simpa using hl);subst hn;refine⟨v,w,?_,by simpa using hown,World.grownBy.refl w _,.inl rfl⟩;rcases hown.2 with⟨rfl,rfl⟩|⟨g,a7,cur,rfl,_,_,a6,_⟩
  ·simp[Builtin.append_,run_underlying ht,sizeOf,typeInfo,hi,Builtin.lenOf,Builtin.firstCells]
  ·simp[Builtin.append_,run_underlying ht,sizeOf,typeInfo,hi,Builtin.lenOf,Builtin.firstCells,a6,storeCells]
 |some ad =>
  have a3:∀(j:Nat) u,news[j]?=some u->w.cell? (ad.add j)=some u:=by
   intro j u hu;rcases gR m with h0|h0
   ·subst h0;have hn:news=[]:=S9 (by simpa using hl);subst hn;simp at hu
   ·obtain⟨b,q,h,a5⟩:=hs h0;injection h with h
    subst h;rw[addr_add];exact a5 j u hu
  obtain⟨v',w',a4,h2,h3,_,h5⟩:=run_append_own_at (P:=P) w base t ty e i z size bytes ht hi hz hsize hby hzs hsz v n xs hown ad m c news hl a3 h1 a2 hbytes hbase;exact⟨v',w',a4,h2,h3,h5⟩
def row_one{w:World}{base:Nat}{e:TypeId}{k n:Nat}{v:Value}{us:List Value}(h:w.ownsRow base e k v n us):v.oneCell'=true:=by
 rcases h.2 with⟨rfl,_⟩|⟨_,_,_,rfl,_⟩<;>rfl
def zq19{w:World}(t ty e:TypeId)(i:TypeInfo)(z:Value)(size bytes:Nat)(ht:P.underlying t=some (.slice e))(hi:P.info? e=some i)(hz:i.zero=some z)
  (hsize:i.size=size) (hby:i.bytes=bytes) (hzs:z.cells.size=size) (A:Option Addr) (n:Nat) (olds:List Value) (hlo:olds.length=n*size)
  (ho:0<n->∃b q,A=some ⟨b,q,none⟩/\∀(j:Nat) u,olds[j]?=some u->w.cell? ⟨b,q+j,none⟩=some u)
  (A':Option Addr) (m c:Nat) (news:List Value) (hl:news.length=m*size) (hs:0<m->∃b q,A'=some ⟨b,q,none⟩/\∀(j:Nat) u,news[j]?=some u->w.cell? ⟨b,q+j,none⟩=some u) (hm:0<m)
  (a2:n+m<=maxLen) (hbytes:(n+m)*bytes<=140737488355328) :
  ∃v' w',(Builtin.append_ #[t,t] ty #[.slice A n n,.slice A' m c]).run P w=.ok v' w'/\w'.ownsRow 0 e size v' (n+m) (olds++news)/\w.grownBy w' none/\v'.ownBlock=some w.heap.size:=by
 subst hsize;subst hby;obtain⟨b',q',rfl,a9⟩:=hs hm;have a4:∀j u,news[j]?=some u->w.cell? ((⟨b',q',none⟩:Addr).add j)=some u:=λj u h=>by rw[addr_add];exact a9 j u h
 have a8:n+m<=9223372036854775807:=by simp only[maxLen]at a2;omega
 have a3:(olds++news).length=(n+m)*i.size:=by rw[D7,hlo,hl,Nat.add_mul]
 have a5:=grownCap_ge w (n+m) n e;have a6:grownCap w (n+m) n e<=maxLen:=grownCap_le_maxLen w (n+m) n e a2;cases A with
 |none =>
  have hn:n=0:=by
   rcases gR n with h0|h0
   ·exact h0
   ·obtain⟨_,_,h,_⟩:=ho h0;cases h
  subst hn;have hx:olds=[]:=S9 (by simpa using hlo);subst hx;have hr:=run_append_nil (P:=P) w t ty e i z ht hi hz ⟨b',q',none⟩ m c news hl a4 hm (by omega) (by simp only[J9]at hbytes;omega);simp only[J9,Y9]at a3 a5 a6 ⊢;refine⟨_,_,hr,⟨a3,.inr ⟨w.heap.size,_,_,rfl,F8 _,heap_alloc_new w.drew _,a5,a6,?_,?_⟩⟩,⟨rfl,rfl,rfl,by simp,λk hk _=>heap_alloc_old w.drew _ hk⟩,rfl⟩
  ·simp only[HM,kX,size_zeroCells,hzs,hl,<- Nat.add_mul];congr 1;omega
  ·simp only[BR];rw[<- a3];exact GR
 |some b0 =>
  have a7:∀j u,olds[j]?=some u->w.cell? (b0.add j)=some u:=λj u h=>by
   rcases gR n with h0|h0
   ·subst h0;have hx:olds=[]:=S9 (by simpa using hlo);subst hx;simp at h
   ·obtain⟨b,q,e,h2⟩:=ho h0;injection e with e
    subst e;rw[addr_add];exact h2 j u h
  have hr:=run_append_grow (P:=P) w t ty e i z ht hi hz b0 n n olds hlo a7 ⟨b',q',none⟩ m c news hl a4 (by omega) (by omega) (growslice_fits (by omega) hbytes);refine⟨_,_,hr,⟨a3,.inr ⟨w.heap.size,_,_,rfl,F8 _,heap_alloc_new w.drew _,a5,a6,?_,?_⟩⟩,⟨rfl,rfl,rfl,by simp,λk hk _=>heap_alloc_old w.drew _ hk⟩,rfl⟩
  ·simp only[HM,kX,size_zeroCells,hzs,hlo,hl,<- Nat.add_mul];congr 1;omega
  ·simp only[BR,U8];rw[<- U8,<- a3];exact GR
def SatR.rowed{a:Act}{w w':World}{Y:Ly}(h:SatR B X a w Y){used:Option Nat}{d k:Nat}{e:TypeId}{es new:List (List IV)}{v v':Value}{us news:List Value}(hu:∀q,G3 v=some q->∃b,used=some b/\Owns X Y b q)
  (hk0:0<k) (hes:∀x∈es,x.length=k) (hnew:∀x∈new,x.length=k) (hlim:es.length+new.length<=17592186044416) (hown0:w.ownsRow 0 e k v es.length us)
  (hown:w'.ownsRow 0 e k v' (es.length+new.length) (us++news)) (hg:w.grownBy w' v.ownBlock) (hlie:v'.ownBlock=v.ownBlock\/v'.ownBlock=some w.heap.size)
  (hl:us.length=es.flatten.length) (hl2:news.length=new.flatten.length) (h1:∀u∈us,u.oneCell'=true) (h2:∀u∈news,u.oneCell'=true)
  (hr:∀(i:Nat) u x,us[i]?=some u->es.flatten[i]?=some x->RepI w (Imm B X Y w) u x) (hr2:∀(i:Nat) u x,news[i]?=some u->new.flatten[i]?=some x->RepI w (Imm B X Y w) u x) :
  SatR B (R5 X used d (.row e k (es++new)) []) a w' (setY Y d v'):=by
 have m:mJ X w w' Y used v' v.ownBlock:=by
  refine⟨hg,λb hb=>?_,λb hb=>?_⟩
  ·rw[nX hown0]at hb;exact hu b hb
  ·rw[<- nX hown]at hb;rcases hlie with e1|e1
   ·exact .inl (by rw[<- e1];exact hb)
   ·rw[e1]at hb;injection hb with hb
    exact .inr (by omega)
 refine h.new m rfl λhI _=>⟨us++news,hk0,λx hx=>?_,by simpa using hlim,?_,by simp[hl,hl2],λu a2=>?_,λi u x a2 hx=>?_⟩
 ·rcases K0.1 hx with hx|hx
  ·exact hes x hx
  ·exact hnew x hx
 ·simpa[setY]using hown
 ·rcases K0.1 a2 with a2|a2
  ·exact h1 u a2
  ·exact h2 u a2
 ·rw[nU,T8]at hx;rw[T8,hl]at a2;split at a2
  ·rename_i a3;rw[if_pos a3]at hx;exact hI _ _ (hr i u x a2 hx)
  ·rename_i a3;rw[if_neg a3]at hx;exact hI _ _ (hr2 _ u x a2 hx)
def tE{b k:Nat}{t:TypeId}{es:List (List IV)}(hk:X.kd b=.row t k es):live X b:=by unfold live;rw[hk];exact λz=>by cases z
def aAppend_ok{c:Call}{t:TypeId}{x y:Operand}(hop:o.op=.call c)(hc:c.callee=.builtin .append)(hargs:c.args=#[x,y])(hts:c.argTypes=#[t,t])(hd:J3 B.n o=true)(h:aAppend P o X K t x y):∃fx,K fx/\Eff P B o fx.rd X fx.wr:=by
 unfold aAppend at h;split at h
 ·rename_i d et b0 e8;have d3:=bX e8;split at h
  ·rename_i k by_ new hk d6 hy
   have d2:∀(a:Act) w v' w',(Builtin.append_ #[t,t] o.type #[a.eval x,a.eval y]).run P w=.ok v' w'->(execOp a.eval o).run P w=.ok (.value v') w':=λa w v' w' hv=>by
    simp[execOp,hop,resolve,hc,hargs,hts,invoke,builtin,hv]
   split at h
   ·rename_i hx;obtain⟨a2,h⟩:=h.ok;rw[M7]at a2;have b6:=bK a2.1;obtain⟨i,z,hi,hz,a8,a5,d4⟩:=tK a2.2 hk d6;obtain⟨⟨a3,a4⟩,h⟩:=h.out;have h:=h.out;refine⟨_,h,λX' hag a w ⟨Y,hs⟩ K' Q hK=>?_⟩;have h1:=F7 hs x;have h2:=F7 hs y;rw[E8 (I4 (I4 hag)),hx]at h1;have h1:=h1.im_inv
    have d0:fz X' (evA X' y)=some (.sl new,[]):=by
     rw[E8 (J6 (I4 hag))];exact qE hy λl hl=>by simp[frd]at hl
    have h2:=fz_ok hs (bs':=[]) (by simp) h2 d0 (by simp);have hg:=V1 (J6 hag (.gen d) (by simp));obtain⟨A,cp,news,hv,b5,b7,c0,a6,b3⟩:=sl_src h2 a3
    have c9:a.eval x=.slice none 0 0:=by
     generalize a.eval x=v at h1;cases h1 with
     |val _=>rfl
    have c7:=U5 a3;obtain⟨v',w',b4,a7,a9,b2⟩:=EY (P:=P) (w:=w) 0 t o.type et i z k by_ d3 hi hz a8 a5 d4 b6 (.slice none 0 0) 0 [] (World.ownsRow_nil _ _ _ _) A new.length cp news (by rw[b5,c7]) a6 b7 (by unfold maxLen;unfold E5 at a4;omega) (by simpa using a4.1) (F8 _);unfold Oper.wp;rw[d2 a w v' w' (by rw[c9,hv];exact b4),Oper.upon_value,b0];refine hK _ _ ⟨setY Y d v',?_⟩;have c6:=hs.rowed (used:=none) (d:=d) (es:=[]) (us:=[]) (λq hq=>by cases hq) b6 (by simp) a3 (by simpa using a4.2) (World.ownsRow_nil _ _ _ _) (by simpa using a7) a9 b2 rfl b5 (by simp) b7 (by simp) b3;show SatR B (app X' (M9 X d (.row et k new)++[(.tmp d,.av (.osl d (X.gn d+1)))])) _ _ _;have:=mQ (k:=.row et k new) (cs:=[]) (v:=.osl d (X.gn d+1)) hg;simp only[P8,S5]at this;rw[this,<- hg];exact uT c6 (row_one a7) (aJ hd b0)
   ·rename_i b g hx;split at h
    ·rename_i d1 k' es e4;obtain⟨a2,h⟩:=h.ok;simp only[M7]at a2;have b6:=bK a2.1.1.1;have e5:d1=et:=by simpa using a2.1.1.2
     have f7:k'=k:=by simpa using a2.1.2
     subst e5 f7;obtain⟨i,z,hi,hz,a8,a5,d4⟩:=tK a2.2 hk d6;obtain⟨⟨f3,a3,a4⟩,h⟩:=h.out;have h:=h.out;refine⟨_,h,λX' hag a w ⟨Y,hs⟩ K' Q hK=>?_⟩;obtain⟨ha,hg',e0,g3⟩:=Z7 hag;have h1:=F7 hs x;have h2:=F7 hs y;rw[E8 (I4 ha),hx]at h1
     have d0:fz X' (evA X' y)=some (.sl new,[]):=by
      rw[E8 (J6 ha)];exact qE hy λl hl=>by simp[frd]at hl
     have h2:=fz_ok hs (bs':=[]) (by simp) h2 d0 (by simp);obtain⟨A,cp,news,hv,b5,b7,c0,a6,b3⟩:=sl_src h2 a3;have c7:=U5 a3;have ho:=hs.obs b;rw[e0.trans e4]at ho;obtain⟨us,_,b9,_,c8,e9,g2,f9⟩:=ho
     have c9:a.eval x=Y b:=by
      generalize a.eval x=v at h1;cases h1 with
      |osl _ _ _ _ _ hh=>exact hh (hg'.trans f3)
     obtain⟨v',w',b4,a7,a9,b2⟩:=EY (P:=P) (w:=w) 0 t o.type d1 i z k' by_ d3 hi hz a8 a5 d4 b6 (Y b) es.length us c8 A new.length cp news (by rw[b5,c7]) a6 b7 (by unfold maxLen;unfold E5 at a4;omega) a4.1 (F8 _);unfold Oper.wp;rw[d2 a w v' w' (by rw[c9,hv];exact b4),Oper.upon_value,b0];refine hK _ _ ⟨setY Y b v',?_⟩;have c6:=hs.rowed (used:=some b) (d:=b) (λq hq=>⟨b,rfl,.root (tE (e0.trans e4)) hq⟩) b6 b9 a3 a4.2 c8 a7 a9 b2 e9 b5 g2 b7 f9 b3
     have f4:app X' ((.knd b,.kd .dead)::(M9 X b (.row d1 k' (es++new))++[(.tmp d,.av (.osl b (X.gn b+1)))]))=app (R5 X' (some b) b (.row d1 k' (es++new)) []) [(.tmp d,.av (.osl b (X'.gn b+1)))]:=by
      rw[V2,O8];unfold R5 M9;rw[hg'];rfl
     show SatR B (app X' ((.knd b,.kd .dead)::(M9 X b (.row d1 k' (es++new))++[(.tmp d,.av (.osl b (X.gn b+1)))]))) _ _ _;rw[f4];exact zq27 c6 (row_one a7) (aJ hd b0)
    ·exact h.elim
   ·rename_i es hx;obtain⟨a2,h⟩:=h.ok;rw[M7]at a2;have b6:=bK a2.1;obtain⟨i,z,hi,hz,a8,a5,d4⟩:=tK a2.2 hk d6;obtain⟨⟨e6,b9,a3,a4⟩,h⟩:=h.out;have h:=h.out;refine⟨_,h,λX' hag a w ⟨Y,hs⟩ K' Q hK=>?_⟩;have h1:=F7 hs x;have h2:=F7 hs y;rw[E8 (I4 (I4 hag)),hx]at h1
    have d0:fz X' (evA X' y)=some (.sl new,[]):=by
     rw[E8 (J6 (I4 hag))];exact qE hy λl hl=>by simp[frd]at hl
    have h2:=fz_ok hs (bs':=[]) (by simp) h2 d0 (by simp);have hg:=V1 (J6 hag (.gen d) (by simp));obtain⟨A,cp,news,hv,b5,b7,c0,a6,b3⟩:=sl_src h2 a3
    obtain⟨A0,n0,c9,h3⟩:∃A0 n0,a.eval x=.slice A0 n0 n0/\RepI w (Imm B X' Y w) (.slice A0 n0 n0) (.sl es):=by
     generalize a.eval x=v at h1;cases h1 with
     |full A0 n0 _ h3=>exact⟨A0,n0,rfl,h3⟩
    obtain⟨A1,c1,d5,f8,d8,f6,g1,b8,d9⟩:=sl_src h3 b9;injection f8 with e1 e2 e3
    subst e1 e2;have c7:=U5 a3;have f5:=U5 b9;obtain⟨v',w',b4,a7,a9,b2⟩:=zq19 (P:=P) (w:=w) t o.type et i z k by_ d3 hi hz a8 a5 d4 A0 es.length d5 (by rw[d8,f5]) b8 A new.length cp news (by rw[b5,c7]) a6 e6 (by unfold maxLen;unfold E5 at a4;omega) a4.1;unfold Oper.wp;rw[d2 a w v' w' (by rw[c9,hv];exact b4),Oper.upon_value,b0];refine hK _ _ ⟨setY Y d v',?_⟩
    have e7:∀e∈es++new,e.length=k:=λe he=>by
     rcases K0.1 he with he|he
     ·exact b9 e he
     ·exact a3 e he
    have c6:=hs.rowed (used:=none) (d:=d) (es:=[]) (new:=es++new) (us:=[]) (news:=d5++news) (v:=.slice none 0 0) (λq hq=>by cases hq) b6 (by simp) e7 (by simpa using a4.2) (World.ownsRow_nil _ _ _ _) (by simpa using a7) a9 (.inr b2) rfl (by simp[d8,b5]) (by simp) (λu hu=>by
     rcases K0.1 hu with hu|hu
     ·exact f6 u hu
     ·exact b7 u hu) (by simp) λj u y hu hy=>by
      rw[nU,T8]at hy;rw[T8,d8]at hu;split at hu
      ·rename_i d7;rw[if_pos d7]at hy;exact d9 j u y hu hy
      ·rename_i d7;rw[if_neg d7]at hy;exact b3 _ u y hu hy
    show SatR B (app X' (M9 X d (.row et k (es++new))++[(.tmp d,.av (.osl d (X.gn d+1)))])) _ _ _;have:=mQ (k:=.row et k (es++new)) (cs:=[]) (v:=.osl d (X.gn d+1)) hg;simp only[P8,S5]at this;rw[this,<- hg];exact uT c6 (row_one a7) (aJ hd b0)
   ·exact h.elim
  ·exact h.elim
 ·exact h.elim
def SatR.turn{a:Act}{w w':World}{Y:Ly}(h:SatR B X a w Y){b q:Nat}{k':Kd}(hl:live X b)(hq:G3 (Y b)=some q)(hg:w.grownBy w' (some q))(hk':∀c,c∈fpk (Y b) (Y.inn b) k'->Owns X Y b c)
  (hob:(∀v x,RepI w (Imm B X Y w) v x->RepI w' (Imm B (upd X (.knd b) (.kd k')) Y w') v x)->aR B (upd X (.knd b) (.kd k')) Y w' b k'):SatR B (upd X (.knd b) (.kd k')) a w' Y:=by
 refine(h.step (λo=>o=b) (λt=>dO X b t _) (λo hd=>⟨by rw[W0,if_neg hd],aT X b o _,λi=>fU X b o i _,rfl,rfl,rfl⟩) (λo _=>⟨⟨by rw[aT];exact H4 _,λ_=>rfl⟩,H4 _,λ_=>rfl⟩)
  (λo=>by rw[fT];exact h.igs o) ⟨hg.os,hg.tape,hg.output,hg.size,λc hc hn=>hg.block c hc λe=>?_⟩ (λo c hd ho=>?_) (λo p c hd hp _ _=>hd.trans hp.symm) λhI hA o hd=>?_).1
 ·injection e with e
  subst e;exact hn ⟨b,rfl,.root hl hq⟩
 ·subst hd;unfold Owns at ho;rw[W0,if_pos rfl]at ho;exact .inr ⟨o,rfl,hk' c ho⟩
 ·subst hd;rw[W0,if_pos rfl];exact hob hI
def gL{V:Type}(e:List V)(j:Nat)(xs:List V)(h:j+xs.length<=e.length):(splice e j xs).length=e.length:=by
 unfold splice;simp;omega
def tB{V:Type}{k:Nat}:∀{es:List (List V)} {i j:Nat} {e xs:List V},(∀x∈es,x.length=k)->es[i]?=some e->j+xs.length<=k->(es.set i (splice e j xs)).flatten=splice es.flatten (i*k+j) xs
 |[],i,j,e,xs,_,h,_=>by simp at h
 |x::es,0,j,e,xs,hk,h,hj=>by
  simp at h;subst h;have:=hk x (by simp);simp only[List.set_cons_zero,V6,splice,pU,J9];rw[gS (by omega),xK (by omega)];simp
 |x::es,i+1,j,e,xs,hk,h,hj=>by
  have hx:=hk x (by simp);have ih:=tB (es:=es) (i:=i) (j:=j) (e:=e) (xs:=xs) (λy hy=>hk y (by simp[hy])) (by simpa using h) hj;have e1:(i+1)*k+j=x.length+(i*k+j):=by rw[Nat.add_mul,hx];omega
  rw[List.set_cons_succ,V6,ih,e1,V6];unfold splice;rw[BO,X6 (l:=x) (by omega),show x.length+(i*k+j)-x.length=i*k+j from by omega];have a2:x.drop (x.length+(i*k+j+xs.length))=[]:=CH (by omega);rw[U7 x.length,GX,a2];rw[show x.length+(i*k+j+xs.length)-x.length=i*k+j+xs.length from by omega];simp
def zN{V:Type}(l:List V)(o n:Nat)(vs:List V)(h:o+vs.length<=n)(hl:n<=l.length):(splice l o vs).take n=splice (l.take n) o vs:=by
 unfold splice;rw[lA,mF (by omega),List.drop_take,BO,X6 (by simp;omega)];congr 2;simp;omega
def zq43{V G:Type}{us:List V}{fs:List G}{vs:List V}{xs:List G}{o n:Nat}{u:V}{x:G}(h1:us.length=fs.length)(h2:vs.length=xs.length)(ho:o<=us.length)(hu:(splice us o vs)[n]?=some u)(hx:(splice fs o xs)[n]?=some x) :
  (∃n':Nat,us[n']?=some u/\fs[n']?=some x)\/∃n':Nat,vs[n']?=some u/\xs[n']?=some x:=by
 unfold splice at hu hx;rw[U8,T8,H6,mF (by omega)]at hu hx;by_cases hn:n<o
 ·rw[if_pos hn,R3,if_pos hn]at hu hx;exact .inl ⟨n,hu,hx⟩
 ·rw[if_neg hn,T8]at hu hx;by_cases hv:n-o<vs.length
  ·rw[if_pos hv]at hu;rw[if_pos (by omega)]at hx;exact .inr ⟨_,hu,hx⟩
  ·rw[if_neg hv,W6]at hu;rw[if_neg (by omega),W6,<- h2]at hx;exact .inl ⟨_,hu,hx⟩
def fzS_ok{a:Act}{w:World}{Y:Ly}(h:SatR B X a w Y){bs':E7}(hgk:∀p∈bs',X.gn p.1=p.2){nn:Bool}{us:List Value}{cs:List AV}{xs:List IV}{bs:E7}(hr:Reps w (Imm B X Y w) Y X.gn us cs)(e:fzS X nn cs=some (xs,bs))(hs:∀b∈bs,b∈bs')(hn:nn=true->∀c g et k ys,cs=[.osl c g]->X.kd c=.row et k ys->0<ys.length):W9 w (Imm B (app X (fwr bs')) Y w) us xs:=by
 unfold fzS at e;split at e
 ·exact fzL_ok h hgk hr e hs
 ·split at e
  ·rename_i ys;simp only[D4,G0]at e;obtain⟨rfl,rfl⟩:=e;refine⟨hr.1,λi u x hu hx=>?_⟩
   have:=hr.2 i u (.im x) hu (by
    cases i with
    |zero=>simp at hx;rw[<- hx];rfl
    |succ i=>simp at hx)
   exact(h.kills bs').2 _ _ this.im_inv
  ·rename_i c g;split at e
   ·rename_i et k ys hk;have a3:=hn rfl c g et k ys rfl hk;simp only[D4,G0]at e;obtain⟨rfl,rfl⟩:=e;refine⟨hr.1,λi u x hu hx=>?_⟩;cases i with
    |succ i=>simp at hx
    |zero =>
     simp at hx;subst hx;have h1:=hr.2 0 u (.osl c g) hu rfl;have h2:=fz1_ok h hgk h1 (x:=.sl ys) (bs:=[(c,g)]) (by simp only[fz1,hk]) hs;cases h2 with
     |emp _ _=>exact absurd a3 (by simp)
     |sl b q cp k' m _ us' hm hkk hcap hsm hS hll a2 huc hrr=>exact .nsl _ _ _ _ (.sl b q cp k' m _ us' hm hkk hcap hsm hS hll a2 huc hrr)
   ·cases e
  ·cases e
def fzS_same{X':St}{nn:Bool}{cs:List AV}{xs:List IV}{bs:E7}(e:fzS X nn cs=some (xs,bs))(h:O3 X X' bs):fzS X' nn cs=some (xs,bs):=by
 unfold fzS at e ⊢;split at e
 ·exact qL e h
 ·split at e
  ·exact e
  ·split at e
   ·rename_i et k ys hk;simp only[D4,G0]at e;obtain⟨rfl,rfl⟩:=e;rw[show X'.kd _=_ from(O3.head h).2.1.trans hk]
   ·cases e
  ·cases e
def nslS_out{nn:Bool}{cs:List AV}{A:Prop}(h:nslS X nn cs A):A/\(nn=true->∀c g et k ys,cs=[.osl c g]->X.kd c=.row et k ys->0<ys.length):=by
 unfold nslS at h;split at h
 ·exact⟨h,λh=>by cases h⟩
 ·split at h
  ·split at h
   ·rename_i hk;obtain⟨h1,h2⟩:=h.out;refine⟨h2,λ_ c g et k ys e a2=>?_⟩;injection e with e _
    injection e with e1 e2
    subst e1;rw[hk]at a2;injection a2 with _ _ a2
    rw[<- a2];exact h1
   ·rename_i hk;refine⟨h,λ_ c g et k ys e a2=>?_⟩;injection e with e _
    injection e with e1 e2
    subst e1;exact absurd a2 (hk _ _ _)
  ·rename_i hk;exact⟨h,λ_ c g et k ys e _=>absurd e (hk c g)⟩
def aStoreE_ok{own:List Nat}{t:TypeId}{p x:Operand}{b g k i j:Nat}(hop:o.op=.store t p x)(hd:J3 B.n o=true)(hp:evA X p=.elt b g k i j)(h:aStoreE P own o X K t p x b g k i j):∃fx,K fx/\Eff P B o fx.rd X fx.wr:=by
 unfold aStoreE at h;split at h
 ·rename_i m cs et k' es hm c8 e5;split at h
  ·rename_i xs bs a2;obtain⟨a6,h⟩:=h.ok;simp only[M7]at a6;obtain⟨⟨⟨⟨c1,c2⟩,c3⟩,c4⟩,c5⟩:=a6;have d3:cs.length=m:=by simpa using c1
   have f9:=bK c2;have g2:=iG c3;have e4:k'=k:=by simpa using c4
   subst e4
   have d5:b∉bs.map (·.1):=by
    simp only[ndB,M7,sU,List.contains_eq_mem,decide_eq_false_iff_not]at c5;exact c5.1.2
   obtain⟨b6,e,he,h⟩:=h.out;obtain⟨h,f5⟩:=nslS_out h;have h:=h.out;refine⟨_,h,λX' hag a w ⟨Y,hs⟩ K' Q hK=>?_⟩;have d8:=I4 (I4 hag);have e7:=J6 (I4 hag);have a4:O3 X X' ((b,g)::bs):=J6 hag
   have b8:∀q∈(b,g)::bs,X'.gn q.1=q.2:=λq hq=>by
    rw[<- b6 q hq];exact V1 (a4 (.gen q.1) (by unfold frd;exact L6.2 ⟨q,hq,by simp⟩))
   have e2:X'.kd b=X.kd b:=tA (a4 (.knd b) (by unfold frd;simp));have h1:=F7 hs p;have h2:=F7 hs x;rw[E8 d8,hp]at h1;rw[E8 e7]at h2;have hr:=oO c8 h2;have a7:=oX c8 h2;have a9:O3 X X' bs:=λl hl=>a4 l (by unfold frd at *;rw[P1];exact M2 _ hl)
   have c9:=fzS_ok hs (bs':=bs) (λq hq=>b8 q (by simp[hq])) hr (fzS_same a2 a9) (λ_ h=>h) λhn c g' e9 k2 ys b4 e8=>by
    refine f5 hn c g' e9 k2 ys b4 ?_;rw[<- e8];subst b4;rw[hn]at a2;simp only[fzS]at a2;split at a2
    ·rename_i g1;simp only[D4,G0]at a2;obtain⟨_,rfl⟩:=a2;exact((O3.head a9).2.1).symm
    ·cases a2
   obtain⟨c7,_⟩:=hs.kills bs;have a5:(app X' (fwr bs)).kd b=.row et k' es:=by rw[jK,if_neg d5,e2,e5]
   have hl:=tE a5;have ho:=c7.obs b;rw[a5]at ho;obtain⟨us,d9,a3,b7,d0,b0,d2,f7⟩:=ho;have f4:i<es.length:=(G4.1 he).1;rcases d0.2 with⟨_,hn⟩|⟨q,b3,cur,e1,_,e3,b5,d1,c0,d4⟩
   ·omega
   have d7:a.eval p=.pointer (some ⟨q,i*k'+j,none⟩):=by
    generalize a.eval p=v at h1;cases h1 with
    |elt _ _ _ _ _ _ _ _ hh =>
     obtain⟨b',z,n,c,f1,f2⟩:=hh (b8 (b,g) (by simp));rw[e1]at f1;injection f1 with f1
     injection f1 with f1
     injection f1 with f1 f3
     rw[f2,f1,<- f3,J9]
   have b2:(a.eval x).cells.toList.length=m:=by rw[hr.1,d3]
   have f6:xs.length=m:=by rw[<- c9.1,b2]
   have c6:(i+1)*k'<=es.length*k':=bD _ f4;have f8:es.length*k'<=b3*k':=bD _ b5;rw[Nat.add_mul,BJ]at c6;have a8:=run_storeCells_at (P:=P) q (i*k'+j) et (a.eval x).cells.toList 0 cur w e3 (by omega) a7;simp only[W7]at a8;have hz:=bH hm w;have e0:(a.eval x).cells.size=m:=by rw[<- b2];simp
   have run:(execOp a.eval o).run P w=.ok .skip (w.setRow q (splice cur.toList (i*k'+j) (a.eval x).cells.toList).toArray):=by
    simp only[execOp,hop,Instr.storeAt,d7,Instr.sureAddr,storeVar,Sem.run_bind,Sem.run_pure,Result.andThen_ok,hz,e0];rw[if_neg (by simp),a8];rfl
   unfold Oper.wp;rw[run,Oper.upon_skip];refine hK _ _ ⟨Y,?_⟩;have b9:us.length=es.length*k':=by rw[b0,U5 a3]
   have d6:e.length=k':=a3 e (H8 he)
   have e6:=c7.turn (w':=w.setRow q (splice cur.toList (i*k'+j) (a.eval x).cells.toList).toArray) (k':=.row et k' (es.set i (splice e j xs))) hl (q:=q) (by rw[e1];rfl)
    ⟨rfl,rfl,rfl,by simp,λk _ hk=>setRow_other w q k _ (λe=>hk (by rw[e]))⟩ (λc hc=>by unfold Owns;rw[a5];exact hc) λhI=>by
     refine⟨splice us (i*k'+j) (a.eval x).cells.toList,d9,λy hy=>?_,by rw[eB];exact b7,?_,?_,λu hu=>?_,λn u y hu hy=>?_⟩
     ·rcases sZ hy with hy|hy
      ·exact a3 y hy
      ·rw[hy,gL _ _ _ (by omega),d6]
     ·rw[eB];refine⟨by rw[gL _ _ _ (by omega),b9],.inr ⟨q,b3,_,e1,F8 _,setRow_heap w q cur _ et _ e3,b5,d1,?_,?_⟩⟩
      ·rw[kX,gL _ _ _ (by simp;omega)];simpa using c0
      ·rw[BQ,zN _ _ _ _ (by omega) (by simp;omega),d4]
     ·rw[tB a3 he (by omega),gL _ _ _ (by omega),gL _ _ _ (by omega),b0]
     ·unfold splice at hu;rcases K0.1 hu with hu|hu
      ·rcases K0.1 hu with hu|hu
       ·exact d2 u (Q1 hu)
       ·exact a7 u hu
      ·exact d2 u (V7 hu)
     ·rw[tB a3 he (by omega)]at hy;rcases zq43 b0 (by rw[b2,f6]) (by omega) hu hy with⟨n',h3,h4⟩|⟨n',h3,h4⟩
      ·exact hI _ _ (f7 n' u y h3 h4)
      ·exact hI _ _ (c9.2 n' u y h3 h4)
   rw[O8,V2];exact e6.put (gW hd) (S8 _)
  ·exact h.elim
 ·exact h.elim
end
end
section
variable {w:World}{a:Act}{v:Value}
def OcOk(w:World)(S:Nat->Prop)(v:Value):Oc->List Nat->Prop
 | .im x,F=>RepI w S v x/\F=[]
 | .ow k,F=>v.oneCell'=true/\∃inn,P4 w S v inn k/\F=fpk v inn k
def Z0(w:World)(S:Nat->Prop):List Value->List Oc->List Nat->Prop
 |[],[],F=>F=[]
 |v::vs,c::cs,F=>∃F1 F2,OcOk w S v c F1/\Z0 w S vs cs F2/\F=F1++F2
 |_,_,_=>False
def ArgOk(w:World)(S:Nat->Prop)(v:Value):Arg->List Nat->Prop
 | .im x,F=>RepI w S v x/\F=[]
 | .ow k,F=>OcOk w S v (.ow k) F
 | .box t cs,F=>∃(q:Nat) (us:List Value) (F':List Nat),v=.pointer (some ⟨q,0,none⟩)/\w.heap[q]?=some (.cells us.toArray t (0,0))/\(∀u∈us,u.oneCell'=true)/\Z0 w S us cs F'/\F=q::F'
 | .lent k,F=>OcOk w S v (.ow k) F
def R7(w:World)(S:Nat->Prop):List Value->List Arg->List Nat->Prop
 |[],[],F=>F=[]
 |v::vs,x::xs,F=>∃F1 F2,ArgOk w S v x F1/\R7 w S vs xs F2/\F=F1++F2
 |_,_,_=>False
def bxVs:List Value->List Arg->List Value
 |v::vs,.box _ _::xs=>v::bxVs vs xs
 |v::vs,.lent _::xs=>v::bxVs vs xs
 |_::vs,.im _::xs=>bxVs vs xs
 |_::vs,.ow _::xs=>bxVs vs xs
 |_,_=>[]
def ResOk(w:World)(S:Nat->Prop)(v:Value)(ps:List Value):Rs->List Nat->Prop
 | .mk tp l ys,F=>∃(us:List Value) (F1 F2:List Nat),(match tp with|true=>v=.tuple us.toArray|false=>us=[v])/\Z0 w S us l F1/\R7 w S ps ys F2/\F=F1++F2
def Sp(P:Program)(g:FuncId)(xs:List Arg)(r:Rs):Prop :=
 (∀args w,(callFunc g args).run P w=.ok (.enter g args) w) /\
 ∀(w:World) (S:Nat->Prop) (vs:List Value) (F:List Nat),(∀b,S b->b<w.heap.size)->R7 w S vs xs F->F.Nodup->(∀b∈F,¬S b/\b<w.heap.size) ->
  Calls P g vs.toArray w λe w'=>∃(v:Value) (F':List Nat),e=.returned v/\Belo (λb=>b∈F) w.heap.size w w' /\
   ResOk w' (λb=>(S b\/w.heap.size<=b\/b∈F)/\b<w'.heap.size/\b∉F') v (bxVs vs xs) r F'/\F'.Nodup/\∀b∈F',(w.heap.size<=b\/b∈F)/\b<w'.heap.size
def RetA(t:TypeId)(v u:Value):Prop:=match t with
 |0=>v=u
 |_=>∃us:List Value,u=.tuple us.toArray/\v=.agg us.toArray/\∀x∈us,x.oneCell'=true
def SpA(P:Program)(g:FuncId)(t:TypeId)(n:Nat)(xs:List Arg)(r:Rs):Prop :=
 (∀args w,(callFunc g args).run P w=.ok (.enter g args) w) /\
 ∀(w:World) (S:Nat->Prop) (us vs:List Value) (F:List Nat),(∀b,S b->b<w.heap.size)->R7 w S (us++vs) xs F->us.length=n->(∀u∈us,u.oneCell'=true)->F.Nodup->(∀b∈F,¬S b/\b<w.heap.size) ->
  Calls P g (.agg us.toArray::vs).toArray w λe w'=>∃(v u:Value) (F':List Nat),e=.returned v/\RetA t v u/\Belo (λb=>b∈F) w.heap.size w w' /\
   ResOk w' (λb=>(S b\/w.heap.size<=b\/b∈F)/\b<w'.heap.size/\b∉F') u (bxVs (us++vs) xs) r F'/\F'.Nodup/\∀b∈F',(w.heap.size<=b\/b∈F)/\b<w'.heap.size
def SpR(P:Program)(g:FuncId)(xs:List Arg)(r:Rs):Prop :=
 (∀args w,(callFunc g args).run P w=.ok (.enter g args) w) /\
 ∀(w:World) (S:Nat->Prop) (vs:List Value) (F:List Nat),(∀b,S b->b<w.heap.size)->R7 w S vs xs F->F.Nodup->(∀b∈F,¬S b/\b<w.heap.size) ->
  Calls P g vs.toArray w λe w'=>∃(v u:Value) (F':List Nat),e=.returned v/\RetA 1 v u/\Belo (λb=>b∈F) w.heap.size w w' /\
   ResOk w' (λb=>(S b\/w.heap.size<=b\/b∈F)/\b<w'.heap.size/\b∉F') u (bxVs vs xs) r F'/\F'.Nodup/\∀b∈F',(w.heap.size<=b\/b∈F)/\b<w'.heap.size
def SpX(P:Program)(g:FuncId)(xs:List Arg)(r:Rs):Prop:=match xs with
 | .lent .dead::.box t l::ys=>SpA P g t l.length ys r
 | .lent .dead::.ow .dead::ys=>SpR P g ys r
 |_=>Sp P g xs r
def nmX:List Arg->Bool
 | .lent .dead::_=>false
 |_=>true
def SpX.sp{P:Program}{g:FuncId}{xs:List Arg}{r:Rs}(hn:nmX xs=true)(h:SpX P g xs r):Sp P g xs r:=by
 unfold SpX at h;split at h
 ·cases hn
 ·cases hn
 ·exact h
def OcOk.mono{S S':Nat->Prop}(hI:∀u x,RepI w S u x->RepI w S' u x):∀{c:Oc} {F:List Nat},OcOk w S v c F->OcOk w S' v c F
 | .im _,_,h=>⟨hI _ _ h.1,h.2⟩
 | .ow _,_,⟨h1,inn,h2,h3⟩=>⟨h1,inn,h2.mono (λ_ _=>rfl) hI,h3⟩
def Z0.mono{S S':Nat->Prop}(hI:∀u x,RepI w S u x->RepI w S' u x):∀{vs:List Value} {cs:List Oc} {F:List Nat},Z0 w S vs cs F->Z0 w S' vs cs F
 |[],[],_,h=>h
 |_::_,_::_,_,⟨F1,F2,h1,h2,h3⟩=>⟨F1,F2,h1.mono hI,h2.mono hI,h3⟩
 |[],_::_,_,h=>h.elim
 |_::_,[],_,h=>h.elim
def ArgOk.mono{S S':Nat->Prop}(hI:∀u x,RepI w S u x->RepI w S' u x):∀{c:Arg} {F:List Nat},ArgOk w S v c F->ArgOk w S' v c F
 | .im _,_,h=>⟨hI _ _ h.1,h.2⟩
 | .ow k,_,h=>OcOk.mono (c:=.ow k) hI h
 | .box _ _,_,⟨q,us,F',h1,h2,h3,h4,h5⟩=>⟨q,us,F',h1,h2,h3,h4.mono hI,h5⟩
 | .lent k,_,h=>OcOk.mono (c:=.ow k) hI h
def R7.mono{S S':Nat->Prop}(hI:∀u x,RepI w S u x->RepI w S' u x):∀{vs:List Value} {cs:List Arg} {F:List Nat},R7 w S vs cs F->R7 w S' vs cs F
 |[],[],_,h=>h
 |_::_,_::_,_,⟨F1,F2,h1,h2,h3⟩=>⟨F1,F2,h1.mono hI,h2.mono hI,h3⟩
 |[],_::_,_,h=>h.elim
 |_::_,[],_,h=>h.elim
def OcOk.flat{S S':Nat->Prop}:∀{c:Oc} {F:List Nat},flatOc c->OcOk w S v c F->OcOk w S' v c F
 | .im x,_,hf,h=>by
  rcases hf with⟨u,rfl⟩|⟨cs,rfl,hf⟩
  ·exact⟨by cases h.1;exact .val _,h.2⟩
  ·obtain⟨h1,h2⟩:=h;refine⟨?_,h2⟩;cases h1 with
   |agg us cs hl h3 hr =>
    refine .agg us cs hl h3 λi u x hu hx=>?_;obtain⟨y,rfl⟩:=hf x (H8 hx);have h4:=hr i u _ hu hx;cases h4;exact .val _
 | .ow (.row e k es),_,hf,⟨h1,inn,⟨us,h2,h3,h4,h5,h6,h7,h8⟩,h9⟩=>⟨h1,inn,⟨us,h2,h3,h4,h5,h6,h7,λi u x hu hx=>by
  have a2:=h8 i u x hu hx
  obtain⟨y,hy,hxy⟩:=nO.1 (H8 hx)
  obtain⟨z,rfl⟩:=hf y hy x hxy
  cases a2
  exact .val _⟩,h9⟩
 | .ow (.map _),_,_,⟨h1,inn,h2,h3⟩=>⟨h1,inn,h2,h3⟩
 | .ow .dead,_,hf,_=>hf.elim
 | .ow (.box _ _),_,hf,_=>hf.elim
 | .ow (.grid _ _ _ _ _),_,hf,_=>hf.elim
def Z0.flat{S S':Nat->Prop}:∀{vs:List Value} {cs:List Oc} {F:List Nat},(∀c∈cs,flatOc c)->Z0 w S vs cs F->Z0 w S' vs cs F
 |[],[],_,_,h=>h
 |_::_,c::_,_,hf,⟨F1,F2,h1,h2,h3⟩=>⟨F1,F2,h1.flat (hf c (by simp)),h2.flat λx hx=>hf x (by simp[hx]),h3⟩
 |[],_::_,_,_,h=>h.elim
 |_::_,[],_,_,h=>h.elim
def R7.flat{S S':Nat->Prop}:∀{vs:List Value} {cs:List Arg} {F:List Nat},(∀c∈cs,flatArg c)->R7 w S vs cs F->R7 w S' vs cs F
 |[],[],_,_,h=>h
 |_::_,c::_,_,hf,⟨F1,F2,h1,h2,h3⟩=>⟨F1,F2,by
  have hc:=hf c (by simp)
  cases c with
  |im x=>exact hc.elim
  |ow k=>exact hc.elim
  |box t cs =>
   obtain⟨q,us,F',a1,a2,a3,a4,a5⟩:=h1
   exact⟨q,us,F',a1,a2,a3,a4.flat hc,a5⟩
  |lent k=>exact OcOk.flat (c:=.ow k) hc h1,h2.flat λx hx=>hf x (by simp[hx]),h3⟩
 |[],_::_,_,_,h=>h.elim
 |_::_,[],_,_,h=>h.elim
section
variable {P:Program}{B:Base}{o:Oper}{X:St}{K:Fx->Prop}
def opdL_mem{l:List Operand}{x:Operand}(h:x∈l):∀y∈opd x,y∈opdL l:=λy hy=>L6.2 ⟨x,h,hy⟩
def evL_ok{X':St}{Y:Ly}(h:SatR B X' a w Y){l:List Operand}(hag:∀y∈opdL l,X' y=X y):Reps w (Imm B X' Y w) Y X'.gn (l.map a.eval) (l.map (evA X)):=by
 refine⟨by simp,λi u x hu hx=>?_⟩;simp only[K5]at hu hx;cases hc:l[i]? with
 |none=>rw[hc]at hu;cases hu
 |some c =>
  rw[hc]at hu hx;simp only[L5,D4]at hu hx;rw[<- hu,<- hx,<- E8 (X':=X') λy hy=>hag y (opdL_mem (H8 hc) y hy)];exact F7 h c
def Reps.app{S:Nat->Prop}{Y:Ly}{E:Nat->Nat}{us vs:List Value}{cs ds:List AV}(h:Reps w S Y E us cs)(k:Reps w S Y E vs ds):Reps w S Y E (us++vs) (cs++ds):=by
 refine⟨by simp[h.1,k.1],λi u x hu hx=>?_⟩;rw[T8]at hu hx;rw[h.1]at hu;split at hu
 ·rename_i a2;rw[if_pos a2]at hx;exact h.2 i u x hu hx
 ·rename_i a2;rw[if_neg a2]at hx;exact k.2 _ u x hu hx
def mW:∀{l bs:List Nat},ndB l bs=true->l.Nodup/\∀a∈l,a∉bs
 |[],bs,_=>⟨gP,by simp⟩
 |a::l,bs,h=>by
  simp only[ndB,M7,sU,List.contains_eq_mem,decide_eq_false_iff_not]at h;obtain⟨h1,h2⟩:=mW h.2;refine⟨dZ.2 ⟨h.1.1,h1⟩,λb hb=>?_⟩;rcases I2.1 hb with rfl|hb
  ·exact h.1.2
  ·exact h2 b hb
def fwr_ce(bs:E7)(o i:Nat):∀(X:St),(app X (fwr bs)).ce o i=X.ce o i:=by
 induction bs with
 |nil=>intro X;rfl
 |cons b bs ih=>intro X;show(app (upd X (.knd b.1) (.kd .dead)) (fwr bs)).ce o i=_;rw[ih,fU]
def P4.one{S:Nat->Prop}{inn:List Value}:∀{k:Kd},P4 w S v inn k->v.oneCell'=true
 | .dead,h=>h.elim
 | .box _ _,h=>h.elim
 | .row _ _ _,⟨us,_,_,_,h,_⟩=>row_one h
 | .grid _ _ _ _ _,⟨_,_,us,_,h,_⟩=>row_one h
 | .map _,⟨b,_,_,h,_⟩=>by rw[h];rfl
 | .bag _ _ _ _ _,h=>h.elim
 | .mapI _ _,h=>h.elim
 | .que _ _ _,⟨us,_,_,_,_,_,_,h⟩=>by rcases h with⟨rfl,_⟩|⟨_,_,_,_,rfl,_⟩<;>rfl
def rE{p:Nat}{k:Kd}(h:objG X p=some k):X.kd p=k/\k≠.dead/\∀t m,k≠.box t m:=by
 unfold objG at h;split at h
 ·cases h
 ·cases h
 ·cases h
 ·cases h
 ·cases h
 ·rename_i h1 h2 h3 h4 h5;injection h with h
  subst h;exact⟨rfl,h1,h2⟩
def xM{Y:Ly}(h:SatR B X a w Y){p:Nat}{k:Kd}(hk:objG X p=some k):P4 w (Imm B X Y w) (Y p) (Y.inn p) k:=by
 obtain⟨h1,h2,h3⟩:=rE hk;have ho:=h.obs p;rw[h1]at ho;unfold objG at hk;rw[h1]at hk;cases k with
 |dead=>exact absurd rfl h2
 |box t m=>exact absurd rfl (h3 t m)
 |row e m es=>exact ho
 |grid e e' m gs q=>exact ho
 |map l=>exact ho
 |bag t e m l q=>cases hk
 |mapI l c=>cases hk
 |que e m es=>cases hk
def O6(X:St)(Y:Ly)(gs:E7):List Nat:=gs.flatMap λp=>fpk (Y p.1) (Y.inn p.1) (X.kd p.1)
def lK{Y:Ly}{gs:E7}{b:Nat}:b∈O6 X Y gs↔∃p∈gs,Owns X Y p.1 b:=L6
def fpk_nodup{Y:Ly}(h:SatR B X a w Y)(o:Nat):(fpk (Y o) (Y.inn o) (X.kd o)).Nodup:=by
 have ho:=h.obs o;cases hk:X.kd o with
 |dead=>exact gP
 |grid e e' m gs q=>rw[hk]at ho;exact ho.1
 |box t m=>unfold fpk;cases G3 (Y o)<;>simp
 |row e m es=>unfold fpk;cases G3 (Y o)<;>simp
 |map l=>unfold fpk;cases G3 (Y o)<;>simp
 |bag t e m l q=>rw[hk]at ho;exact ho.1.2.1
 |mapI l c =>
  rw[hk]at ho;obtain⟨b,r,_,_,_,_,_,_,h1,h2,h3,_⟩:=ho;unfold fpk fpv;rw[h1,h2];simp[G3,Ne.symm h3]
 |que e m es=>unfold fpk;cases G3 (Y o)<;>simp
def zK{Y:Ly}(h:SatR B X a w Y):∀{gs:E7},(gs.map (·.1)).Nodup->(O6 X Y gs).Nodup
 |[],_=>gP
 |p::gs,hn=>by
  rw[L0,dZ]at hn;unfold O6;rw[P1,aF];refine⟨fpk_nodup h p.1,zK h hn.2,λx hx y hy e=>?_⟩;subst e;obtain⟨q,hq,hb⟩:=lK.1 (show x∈O6 X Y gs from hy);have:=h.dis p.1 q.1 x hx hb;exact hn.1 (D8.2 ⟨q,hq,this.symm⟩)
def EF{x:IV}{e k:Nat}{q:Kd}(h:nilRow x e k=some q):x=.val (.slice none 0 0)/\∃k',q=.row e (k'+1) []:=by
 unfold nilRow at h;split at h
 ·split at h
  ·cases h
  ·rename_i k';injection h with h
   exact⟨rfl,k',h.symm⟩
 ·cases h
def nil_oc(w:World)(S:Nat->Prop)(e k:Nat):OcOk w S (.slice none 0 0) (.ow (.row e (k+1) [])) [] :=
 ⟨rfl,[],⟨[],by omega,by simp,by simp,World.ownsRow_nil _ _ _ _,rfl,by simp,by simp⟩,rfl⟩
def cellG0_ok{Y:Ly}(h:SatR B X a w Y){S:Nat->Prop}(hI:∀u x,RepI w (Imm B X Y w) u x->RepI w S u x){own:List Nat}{d i j:Nat}{u:Value}{c:AV}{x:Oc}{gs:E7}
  (hu:RepA w (Imm B X Y w) Y X.gn u c) (e:cellG0 X own d i j c=some (x,gs)) (hg:∀p∈gs,X.gn p.1=p.2):OcOk w S u x (O6 X Y gs):=by
 unfold cellG0 at e;split at e
 ·rename_i y;have hu:=hu.im_inv;split at e
  ·split at e
   ·rename_i q hq;injection e with e
    injection e with e1 e2
    subst e1 e2;obtain⟨rfl,k',rfl⟩:=EF hq;cases hu;exact nil_oc _ _ _ _
   ·cases e
  ·injection e with e
   injection e with e1 e2
   subst e1 e2;exact⟨hI _ _ (lE hu),rfl⟩
 ·rename_i p g;split at e
  ·rename_i k hk;injection e with e
   injection e with e1 e2
   subst e1 e2;have hg:=hg (p,g) (by simp)
   have hv:u=Y p:=by
    cases hu with
    |osl _ _ _ _ _ hh=>exact hh hg
   have hh:=xM h hk;subst hv;refine⟨hh.one,Y.inn p,hh.mono (λ_ _=>rfl) hI,?_⟩;unfold O6;rw[P1,sQ,S5,(rE hk).1]
  ·cases e
 ·cases e
def cellG_ok{Y:Ly}(h:SatR B X a w Y){S:Nat->Prop}(hI:∀u x,RepI w (Imm B X Y w) u x->RepI w S u x){own:List Nat}{d i j:Nat}{u:Value}{c:AV}{x:Oc}{gs:E7}
  (hu:RepA w (Imm B X Y w) Y X.gn u c) (e:cellG X own d i j c=some (x,gs)) (hg:∀p∈gs,X.gn p.1=p.2):OcOk w S u x (O6 X Y gs):=by
 unfold cellG at e;split at e
 ·injection e with e
  injection e with e1 e2
  subst e1 e2;exact⟨.any _,rfl⟩
 ·exact cellG0_ok h hI hu e hg
def pF(Y:Ly)(a b:E7):O6 X Y (a++b)=O6 X Y a++O6 X Y b:=eF
def cellsG_ok{Y:Ly}(h:SatR B X a w Y){S:Nat->Prop}(hI:∀u x,RepI w (Imm B X Y w) u x->RepI w S u x){own:List Nat}{d i:Nat}:∀{us:List Value} {cs:List AV} {j:Nat} {xs:List Oc} {gs:E7},
  Reps w (Imm B X Y w) Y X.gn us cs->mO X own d i j cs=some (xs,gs)->(∀p∈gs,X.gn p.1=p.2)->Z0 w S us xs (O6 X Y gs)
 |[],[],j,xs,gs,_,e,_=>by
  simp only[mO,D4,G0]at e;rw[<- e.1,<- e.2];exact rfl
 |[],c::cs,_,_,_,hr,_,_=>by have:=hr.1;simp at this
 |u::us,[],_,_,_,hr,_,_=>by have:=hr.1;simp at this
 |u::us,c::cs,j,xs,gs,hr,e,hg=>by
  simp only[mO]at e;split at e
  ·rename_i x g1 xs1 gs1 h1 h2;simp only[D4,G0]at e;obtain⟨rfl,rfl⟩:=e
   exact⟨_,_,cellG_ok h hI (hr.2 0 u c rfl rfl) h1 λp hp=>hg p (M1 _ hp),
    cellsG_ok h hI ⟨by simpa using hr.1,λi u x hu hx=>hr.2 (i+1) u x (by simpa using hu) (by simpa using hx)⟩ h2 λp hp=>hg p (M2 _ hp),pF _ _ _⟩
  ·cases e
def argG_ok{Y:Ly}(h:SatR B X a w Y){own:List Nat}{d i:Nat}{bs0:E7}(hgk:∀p∈bs0,X.gn p.1=p.2){u:Value}{c:AV}{x:Arg}{bs gs:E7}
  (hu:RepA w (Imm B X Y w) Y X.gn u c) (e:argG X own d i c=some (x,bs,gs)) (hb:∀p∈bs,p∈bs0) (hg:∀p∈gs,X.gn p.1=p.2):ArgOk w (Imm B (app X (fwr bs0)) Y w) u x (O6 X Y gs):=by
 have hI:=(h.kills bs0).2;unfold argG at e;split at e
 ·split at e
  ·rename_i b g;split at e
   ·rename_i k hk;simp only[D4,G0]at e;obtain⟨rfl,rfl,rfl⟩:=e;have a2:=hg (b,g) (by simp)
    have hv:u=Y b:=by
     cases hu with
     |osl _ _ _ _ _ hh=>exact hh a2
    have hh:=xM h hk;subst hv
    have fin:OcOk w (Imm B (app X (fwr bs0)) Y w) (Y b) (.ow k) (O6 X Y [(b,g)]):=by
     refine⟨hh.one,Y.inn b,hh.mono (λ_ _=>rfl) hI,?_⟩;unfold O6;rw[P1,sQ,S5,(rE hk).1]
    unfold lentG;split
    ·exact fin
    ·exact fin
   ·cases e
  ·rename_i b g;split at e
   ·rename_i t m hk;split at e
    ·rename_i cs a3 a4;simp only[D4,G0]at e;obtain⟨rfl,rfl,rfl⟩:=e;obtain⟨q,us,e3,e4,e5,e6,e7,_,e9⟩:=lG h hu (hg (b,g) (by simp)) hk;refine⟨q,us,O6 X Y a3,e3,e5,e7,cellsG_ok h hI (CY (by rw[e6];exact hk) e9) a4 λp hp=>hg p (by simp[hp]),?_⟩;unfold O6;rw[P1,hk,e4];rfl
    ·cases e
   ·cases e
  ·rename_i y;have hu:=hu.im_inv;split at e
   ·split at e
    ·rename_i q hq;simp only[D4,G0]at e;obtain⟨rfl,rfl,rfl⟩:=e;obtain⟨rfl,k',rfl⟩:=EF hq;cases hu;exact nil_oc _ _ _ _
    ·cases e
   ·cases e
  ·cases e
 ·split at e
  ·split at e
   ·simp only[D4,G0]at e;obtain⟨rfl,rfl,rfl⟩:=e;exact⟨hI _ _ hu.im_inv,rfl⟩
   ·cases e
  ·split at e
   ·rename_i y bs' hy;simp only[D4,G0]at e;obtain⟨rfl,rfl,rfl⟩:=e;exact⟨fz_ok h hgk hu hy hb,rfl⟩
   ·cases e
def argsG_ok{Y:Ly}(h:SatR B X a w Y){own:List Nat}{d:Nat}{bs0:E7}(hgk:∀p∈bs0,X.gn p.1=p.2):∀{us:List Value} {cs:List AV} {i:Nat} {xs:List Arg} {bs gs:E7},
  Reps w (Imm B X Y w) Y X.gn us cs->aI X own d i cs=some (xs,bs,gs)->(∀p∈bs,p∈bs0)->(∀p∈gs,X.gn p.1=p.2)->R7 w (Imm B (app X (fwr bs0)) Y w) us xs (O6 X Y gs)
 |[],[],i,xs,bs,gs,_,e,_,_=>by
  simp only[aI,D4,G0]at e;rw[<- e.1,<- e.2.2];exact rfl
 |[],c::cs,_,_,_,_,hr,_,_,_=>by have:=hr.1;simp at this
 |u::us,[],_,_,_,_,hr,_,_,_=>by have:=hr.1;simp at this
 |u::us,c::cs,i,xs,bs,gs,hr,e,hb,hg=>by
  simp only[aI]at e;split at e
  ·rename_i x b1 g1 xs1 bs1 gs1 h1 h2;simp only[D4,G0]at e;obtain⟨rfl,rfl,rfl⟩:=e
   exact⟨_,_,argG_ok h hgk (hr.2 0 u c rfl rfl) h1 (λp hp=>hb p (M1 _ hp)) λp hp=>hg p (M1 _ hp),
    argsG_ok h hgk ⟨by simpa using hr.1,λi u x hu hx=>hr.2 (i+1) u x (by simpa using hu) (by simpa using hx)⟩ h2 (λp hp=>hb p (M2 _ hp)) λp hp=>hg p (M2 _ hp),pF _ _ _⟩
  ·cases e
def bxG_ok{Y:Ly}(h:SatR B X a w Y){own:List Nat}{d:Nat}:∀{us:List Value} {cs:List AV} {i:Nat} {xs:List Arg} {bs gs:E7},
  Reps w (Imm B X Y w) Y X.gn us cs->aI X own d i cs=some (xs,bs,gs)->(∀p∈gs,X.gn p.1=p.2)->bxVs us xs=(bxG own d i cs).map (λp=>Y p.1)/\(∀p∈bxG own d i cs,p.1∈gs.map (·.1))
 |[],[],i,xs,bs,gs,_,e,_=>by
  simp only[aI,D4,G0]at e;rw[<- e.1];exact⟨rfl,by simp[bxG]⟩
 |[],c::cs,_,_,_,_,hr,_,_=>by have:=hr.1;simp at this
 |u::us,[],_,_,_,_,hr,_,_=>by have:=hr.1;simp at this
 |u::us,c::cs,i,xs,bs,gs,hr,e,hg=>by
  simp only[aI]at e;split at e
  ·rename_i x b1 g1 xs1 bs1 gs1 h1 h2;simp only[D4,G0]at e;obtain⟨rfl,rfl,rfl⟩:=e;obtain⟨ih1,ih2⟩:=bxG_ok h (us:=us) (cs:=cs) ⟨by simpa using hr.1,λi u x hu hx=>hr.2 (i+1) u x (by simpa using hu) (by simpa using hx)⟩ h2 λp hp=>hg p (M2 _ hp);have up:∀p∈bxG own d (i+1) cs,p.1∈(g1++gs1).map (·.1):=λp hp=>by rw[N3];exact M2 _ (ih2 p hp)
   have hu:=hr.2 0 u c rfl rfl;unfold argG at h1;unfold bxG;split at h1
   ·rename_i hown;split at h1
    ·rename_i b g;split at h1
     ·rename_i k hk;simp only[D4,G0]at h1;obtain⟨rfl,rfl,rfl⟩:=h1
      have hv:u=Y b:=by
       have a2:=hg (b,g) (by simp);cases hu with
       |osl _ _ _ _ _ hh=>exact hh a2
      unfold lentG;cases hl:own.contains (2000000+(1000*(d+1)+i)) with
      |true =>
       refine⟨by simp only[bxVs,L0,hl];rw[ih1,hv],λp hp=>?_⟩;simp only[hl]at hp;rcases I2.1 hp with rfl|hp
       ·simp
       ·exact up p hp
      |false=>exact⟨by simp only[bxVs,hl];exact ih1,λp hp=>up p (by simpa only[hl]using hp)⟩
     ·cases h1
    ·rename_i b g;split at h1
     ·rename_i t m hk;split at h1
      ·simp only[D4,G0]at h1;obtain⟨rfl,rfl,rfl⟩:=h1;obtain⟨q,a3,e3,e4,_⟩:=lG h hu (hg (b,g) (by simp)) hk;refine⟨by simp only[bxVs,L0];rw[ih1,e3,e4],λp hp=>?_⟩;rcases I2.1 hp with rfl|hp
       ·simp
       ·exact up p hp
      ·cases h1
     ·cases h1
    ·split at h1
     ·split at h1
      ·simp only[D4,G0]at h1;obtain⟨rfl,rfl,rfl⟩:=h1;exact⟨ih1,up⟩
      ·cases h1
     ·cases h1
    ·cases h1
   ·rename_i hown;split at h1
    ·split at h1
     ·simp only[D4,G0]at h1;obtain⟨rfl,rfl,rfl⟩:=h1;exact⟨ih1,up⟩
     ·cases h1
    ·split at h1
     ·simp only[D4,G0]at h1;obtain⟨rfl,rfl,rfl⟩:=h1;exact⟨ih1,up⟩
     ·cases h1
  ·cases e
end
end
section
variable {w:World}{a:Act}{v:Value}
def mkObj_eqs(X U:St)(nm:Nat)(k:Kd):(∀o,(app X (M9 U nm k)).kd o=if o=nm then k else X.kd o)/\(∀o,(app X (M9 U nm k)).gn o=if o=nm then U.gn nm+1 else X.gn o)/\(∀o,(app X (M9 U nm k)).ig o=X.ig o) /\
  (∀t,(app X (M9 U nm k)).av t=X.av t)/\∀o i,(app X (M9 U nm k)).ce o i=X.ce o i:=by
 unfold M9;simp only[V2,iA];exact⟨λo=>by rw[W0,kd_gen],λo=>by rw[aT,gn_gen],λo=>by rw[fT,ig_gen],λo=>by rw[dO,av_gen],λo i=>by rw[fU,ce_gen]⟩
def mkK_eqs(X U:St)(nm:Nat)(k:Kd):(∀o,(app X (X4 U nm k)).kd o=if o=nm then k else X.kd o)/\(∀o,(app X (X4 U nm k)).gn o=if o=nm then U.gn nm+1 else X.gn o)/\(∀o,(app X (X4 U nm k)).ig o=if o=nm/\mM k=true then U.ig nm+1 else X.ig o) /\
  (∀t,(app X (X4 U nm k)).av t=X.av t)/\∀o i,(app X (X4 U nm k)).ce o i=X.ce o i:=by
 have hn:mM k=false->(∀o,(app X (M9 U nm k)).kd o=if o=nm then k else X.kd o)/\(∀o,(app X (M9 U nm k)).gn o=if o=nm then U.gn nm+1 else X.gn o)/\(∀o,(app X (M9 U nm k)).ig o=if o=nm/\mM k=true then U.ig nm+1 else X.ig o) /\
  (∀t,(app X (M9 U nm k)).av t=X.av t)/\∀o i,(app X (M9 U nm k)).ce o i=X.ce o i:=λhg=>by
  obtain⟨h1,h2,h3,h4,h5⟩:=mkObj_eqs X U nm k;exact⟨h1,h2,λo=>by rw[if_neg (λe=>by rw[hg]at e;cases e.2)];exact h3 o,h4,h5⟩
 cases k with
 |dead=>exact hn rfl
 |box t m=>exact hn rfl
 |row e m es=>exact hn rfl
 |map l=>exact hn rfl
 |bag t e m l q=>exact hn rfl
 |mapI l c=>exact hn rfl
 |que e m es=>exact hn rfl
 |grid e e' m gs q =>
  show(∀o,(app (upd X (.ign nm) (.n (U.ig nm+1))) (M9 U nm _)).kd o=_)/\(∀o,(app (upd X (.ign nm) (.n (U.ig nm+1))) (M9 U nm _)).gn o=_)/\(∀o,(app (upd X (.ign nm) (.n (U.ig nm+1))) (M9 U nm _)).ig o=_) /\
   (∀t,(app (upd X (.ign nm) (.n (U.ig nm+1))) (M9 U nm _)).av t=_)/\∀o i,(app (upd X (.ign nm) (.n (U.ig nm+1))) (M9 U nm _)).ce o i=_
  obtain⟨h1,h2,h3,h4,h5⟩:=mkObj_eqs (upd X (.ign nm) (.n (U.ig nm+1))) U nm (.grid e e' m gs q);refine⟨λo=>by rw[h1,kd_ign],λo=>by rw[h2,gn_ign],λo=>?_,λt=>by rw[h4,av_ign],λo i=>by rw[h5,ce_ign]⟩;rw[h3,ig_ign];by_cases e1:o=nm
  ·rw[if_pos e1,if_pos ⟨e1,rfl⟩]
  ·rw[if_neg e1,if_neg (λh=>e1 h.1)]
def innK(k:Kd)(inn old:List Value):List Value:=match k with
 | .grid _ _ _ _ _=>inn
 | .bag _ _ _ _ _=>inn
 | .mapI _ _=>inn
 |_=>old
def fpk_innK(v:Value)(k:Kd)(inn old:List Value):fpk v (innK k inn old) k=fpk v inn k:=by cases k<;>rfl
def hold_innK{S:Nat->Prop}{inn old:List Value}:∀{k:Kd},P4 w S v inn k->P4 w S v (innK k inn old) k
 | .dead,h=>h
 | .box _ _,h=>h
 | .row _ _ _,h=>h
 | .grid _ _ _ _ _,h=>h
 | .map _,h=>h
 | .bag _ _ _ _ _,h=>h
 | .mapI _ _,h=>h
 | .que _ _ _,h=>h
def setK(Y:Ly)(X':St)(nm:Nat)(v:Value)(inn:List Value)(k:Kd):Ly:=⟨λo=>if o=nm then v else Y o,λo=>if o=nm then innK k inn (Y.inn nm) else Y.inn o,X'.ig⟩
section
variable {P:Program}{B:Base}{o:Oper}{X:St}{K:Fx->Prop}
def adopt_one{Y:Ly}(h:SatR B X a w Y){S':Nat->Prop}{k:Kd}{inn:List Value}{nm:Nat}{U:St}(hg:X.gn nm=U.gn nm)(hi:X.ig nm=U.ig nm)(hh:P4 w S' v inn k)(hS:∀b,S' b->Imm B X Y w b)(hz:∀b∈fpk v inn k,B.Z b) :
  ∃Y':Ly,SatR { B with Z:=λb=>B.Z b/\b∉fpk v inn k } (app X (X4 U nm k)) a w Y'/\(∀u x,RepI w (Imm B X Y w) u x->RepI w (Imm { B with Z:=λb=>B.Z b/\b∉fpk v inn k } (app X (X4 U nm k)) Y' w) u x) /\
   (∀u x,RepA w (Imm B X Y w) Y X.gn u x->RepA w (Imm { B with Z:=λb=>B.Z b/\b∉fpk v inn k } (app X (X4 U nm k)) Y' w) Y' (app X (X4 U nm k)).gn u x) /\
   (∀b,Imm B X Y w b->Imm { B with Z:=λb=>B.Z b/\b∉fpk v inn k } (app X (X4 U nm k)) Y' w b)/\Y' nm=v/\∀o,o≠nm->Y' o=Y o:=by
 obtain⟨e1,e2,e3,e4,e5⟩:=mkK_eqs X U nm k;have a3:∀t m,k≠.box t m:=λt m e=>by subst e;exact hh.elim
 have a2:∀b,Owns (app X (X4 U nm k)) (setK Y (app X (X4 U nm k)) nm v inn k) nm b->b∈fpk v inn k:=λb hb=>by
  unfold Owns at hb;rw[e1,if_pos rfl]at hb;simp only[setK,if_pos]at hb;rw[fpk_innK]at hb;exact hb
 obtain⟨h1,h2,h3,h4⟩:=h.stepZ (X':=app X (X4 U nm k)) (Y':=setK Y (app X (X4 U nm k)) nm v inn k) (w':=w) (λo=>o=nm) (λb=>B.Z b/\b∉fpk v inn k) e4
  (λo hd=>⟨by rw[e1,if_neg hd],by rw[e2,if_neg hd],λi=>e5 o i,by simp[setK,hd],by simp[setK,hd],by show(app X (X4 U nm k)).ig o=_;rw[e3,if_neg (λe=>hd e.1)];exact(h.igs o).symm⟩)
  (λo hd=>by
   subst hd
   refine⟨⟨by rw[e2,if_pos rfl,hg];omega,λe=>by rw[e2,if_pos rfl,hg]at e;omega⟩,?_,λe=>?_⟩
   ·show _<=(app X (X4 U o k)).ig o
    rw[e3,h.igs,hi]
    split<;>omega
   ·have e:(app X (X4 U o k)).ig o=Y.ig o:=e
    rw[e3,h.igs,hi]at e
    cases hgk:mM k with
    |true=>rw[hgk,if_pos ⟨rfl,rfl⟩]at e;omega
    |false =>
     simp only[setK,if_pos]
     cases k<;>first|rfl|exact hh.elim|cases hgk)
  (λo=>rfl) (Belo.refl _ _ _) (λo b hd ho=>by subst hd;exact .inr (.inl (hz b (a2 b ho)))) (λo p b hd hp _ _=>hd.trans hp.symm)
  (λb hb=>⟨(h.res b hb.1).1.2,.inr (.inl hb.1),λo hd ho=>by subst hd;exact hb.2 (a2 b ho)⟩) λhI hA o hd=>by
   subst hd;rw[e1,if_pos rfl];refine aR.of_hold a3 ?_;simp only[setK,if_pos];refine hold_innK (hh.mono (λ_ _=>rfl) λu x hr=>hI u x (hr.mono hS λ_ _ _ h=>h))
 exact⟨_,h1,h2,h3,h4,by simp[setK],λo ho=>by simp[setK,ho]⟩
def AB(X:St):∀(a b:List (Nat×Kd)),K9 X (a++b)=K9 X a++K9 X b
 |[],b=>rfl
 |p::a,b=>by rw[eD,K9,AB X a b,K9,U8]
def uF{S':Nat->Prop}(U:St)(f:Nat->Nat):∀{l:List Oc} {i:Nat} {us:List Value} {F:List Nat} {B:Base} {X:St} {Y:Ly},SatR B X a w Y->Z0 w S' us l F->(∀b,S' b->Imm B X Y w b)->F.Nodup->(∀b∈F,B.Z b) ->
  ((I5 U f i l).2.map (·.1)).Nodup->(∀p∈(I5 U f i l).2,X.gn p.1=U.gn p.1/\X.ig p.1=U.ig p.1) ->
  ∃(Y':Ly) (Z':Nat->Prop),SatR { B with Z:=Z' } (app X (K9 U (I5 U f i l).2)) a w Y'/\(∀b,B.Z b->b∉F->Z' b)/\Reps w (Imm { B with Z:=Z' } (app X (K9 U (I5 U f i l).2)) Y' w) Y' (app X (K9 U (I5 U f i l).2)).gn us (I5 U f i l).1 /\
   (∀u x,RepA w (Imm B X Y w) Y X.gn u x->RepA w (Imm { B with Z:=Z' } (app X (K9 U (I5 U f i l).2)) Y' w) Y' (app X (K9 U (I5 U f i l).2)).gn u x) /\
   (∀b,Imm B X Y w b->Imm { B with Z:=Z' } (app X (K9 U (I5 U f i l).2)) Y' w b)/\(∀o,o∉(I5 U f i l).2.map (·.1)->Y' o=Y o/\(app X (K9 U (I5 U f i l).2)).gn o=X.gn o/\(app X (K9 U (I5 U f i l).2)).ig o=X.ig o/\(app X (K9 U (I5 U f i l).2)).kd o=X.kd o)
 |[],i,us,F,B,X,Y,h,hok,hS,hnd,hz,hn,hgs=>by
  match us,hok with
  |[],hok=>exact⟨Y,B.Z,h,λ_ hb _=>hb,⟨rfl,by simp⟩,λ_ _ hr=>hr,λ_ hb=>hb,λ_ _=>⟨rfl,rfl,rfl,rfl⟩⟩
 |c::l,i,us,F,B,X,Y,h,hok,hS,hnd,hz,hn,hgs=>by
  match us,hok with
  |u::us,⟨F1,F2,h1,h2,h3⟩ =>
   subst h3;rw[aF]at hnd;cases c with
   |im x =>
    obtain⟨hx,rfl⟩:=h1;obtain⟨Y',Z',g1,g2,g3,g4,g5,g6⟩:=uF U f (l:=l) (i:=i+1) h h2 hS hnd.2.1 (λb hb=>hz b (by simp[hb])) hn hgs;refine⟨Y',Z',g1,g2,⟨by simp[I5,ocPl,g3.1],λj y z hy hz=>?_⟩,g4,g5,g6⟩;cases j with
    |zero =>
     simp[I5,ocPl]at hy hz;subst hy hz;exact .im _ _ (hx.mono (λb hb=>g5 b (hS b hb)) λ_ _ _ h=>h)
    |succ j=>exact g3.2 j y z (by simpa using hy) (by simpa[I5,ocPl]using hz)
   |ow k =>
    obtain⟨ho1,inn,hh,rfl⟩:=h1
    have hn':(f i∉(I5 U f (i+1) l).2.map (·.1))/\((I5 U f (i+1) l).2.map (·.1)).Nodup:=by
     have:(I5 U f i (.ow k::l)).2=(f i,k)::(I5 U f (i+1) l).2:=rfl;rw[this,L0,dZ]at hn;exact hn
    have a9:=hgs (f i,k) (by show _∈(f i,k)::_;simp);obtain⟨Y1,a1,a2,a3,a4,a5,a6⟩:=adopt_one h (nm:=f i) (U:=U) a9.1 a9.2 hh hS λb hb=>hz b (by simp[hb]);obtain⟨e1,e2,e3,e4,e5⟩:=mkK_eqs X U (f i) k;have b5:∀p∈(I5 U f (i+1) l).2,p.1≠f i:=λp hp e=>hn'.1 (D8.2 ⟨p,hp,e⟩)
    obtain⟨Y',Z',g1,g2,g3,g4,g5,g6⟩:=uF U f (l:=l) (i:=i+1) a1 h2 (λb hb=>a4 b (hS b hb)) hnd.2.1 (λb hb=>⟨hz b (by simp[hb]),λhf=>hnd.2.2 b hf b hb rfl⟩) hn'.2 (λp hp=>by
     rw[e2,e3,if_neg (b5 p hp),if_neg (λe=>b5 p hp e.1)]
     exact hgs p (by show p∈(f i,k)::_;simp[hp]))
    have a8:app X (K9 U (I5 U f i (.ow k::l)).2)=app (app X (X4 U (f i) k)) (K9 U (I5 U f (i+1) l).2):=by
     show app X (X4 U (f i) k++K9 U (I5 U f (i+1) l).2)=_;rw[O8]
    rw[a8];refine⟨Y',Z',g1,λb hb b0=>g2 b ⟨hb,λhf=>b0 (by simp[hf])⟩ (λhf=>b0 (by simp[hf])),⟨by show _=((_:AV)::(I5 U f (i+1) l).1).length;simp[g3.1],λj y z hy hz=>?_⟩,λv x hr=>g4 v x (a3 v x hr),λb hb=>g5 b (a4 b hb),λo ho=>?_⟩
    ·cases j with
     |zero =>
      have hz:(AV.osl (f i) (U.gn (f i)+1))=z:=by simpa[I5,ocPl]using hz
      simp at hy;subst hy hz;obtain⟨b1,b2,_,_⟩:=g6 (f i) hn'.1;refine .osl _ _ _ ho1 ?_ λ_=>?_
      ·rw[b2,e2,if_pos rfl];omega
      ·rw[b1,a5]
     |succ j=>exact g3.2 j y z (by simpa using hy) (by simpa[I5,ocPl]using hz)
    ·have a7:o≠f i/\o∉(I5 U f (i+1) l).2.map (·.1):=by
      have:(I5 U f i (.ow k::l)).2=(f i,k)::(I5 U f (i+1) l).2:=rfl;rw[this,L0]at ho;exact⟨λe=>ho (by simp[e]),λhm=>ho (K3 _ hm)⟩
     obtain⟨b1,b2,b3,b4⟩:=g6 o a7.2;exact⟨by rw[b1,a6 o a7.1],by rw[b2,e2,if_neg a7.1],by rw[b3,e3,if_neg (λe=>a7.1 e.1)],by rw[b4,e1,if_neg a7.1]⟩
def LkR(w:World)(S:Nat->Prop)(Y:Ly)(E:Nat->Nat)(p:Value)(qs:List Nat):LK->Prop
 | .box t al=>∃(q:Nat) (us:List Value),qs=[q]/\p=.pointer (some ⟨q,0,none⟩)/\w.heap[q]?=some (.cells us.toArray t (0,0))/\(∀u∈us,u.oneCell'=true)/\Reps w S Y E us al
 | .obj k=>flatK k=true/\∃inn,P4 w S p inn k/\qs=fpk p inn k
def BxR(w:World)(S:Nat->Prop)(Y:Ly)(E:Nat->Nat):List (Nat×LK)->List Value->List Nat->Prop
 |[],[],qs=>qs=[]
 |(_,x)::bl,p::ps,qs=>∃q1 q2,LkR w S Y E p q1 x/\BxR w S Y E bl ps q2/\qs=q1++q2
 |_,_,_=>False
def LkR.mono{S S':Nat->Prop}{Y Y':Ly}{E E':Nat->Nat}(hA:∀u x,RepA w S Y E u x->RepA w S' Y' E' u x){p:Value}{qs:List Nat}:∀{x:LK},LkR w S Y E p qs x->LkR w S' Y' E' p qs x
 | .box t al,⟨q,us,h1,h2,h3,h4,h5⟩=>⟨q,us,h1,h2,h3,h4,⟨h5.1,λi u x hu hx=>hA _ _ (h5.2 i u x hu hx)⟩⟩
 | .obj k,⟨h1,inn,h2,h3⟩=>⟨h1,inn,h2.mono (λ_ _=>rfl) λu x hr=>(hA u (.im x) (.im _ _ hr)).im_inv,h3⟩
def BxR.mono{S S':Nat->Prop}{Y Y':Ly}{E E':Nat->Nat}(hA:∀u x,RepA w S Y E u x->RepA w S' Y' E' u x):∀{bl:List (Nat×LK)} {ps:List Value} {qs:List Nat},BxR w S Y E bl ps qs->BxR w S' Y' E' bl ps qs
 |[],[],_,h=>h
 |_::_,_::_,_,⟨q1,q2,h1,h2,h3⟩=>⟨q1,q2,h1.mono hA,h2.mono hA,h3⟩
 |[],_::_,_,h=>h.elim
 |_::_,[],_,h=>h.elim
def yN{S':Nat->Prop}(U:St):∀{bx:E7} {ys:List Arg} {ps:List Value} {F:List Nat} {bl:List (Nat×LK)} {ss:List (Nat×Kd)} {B:Base} {X:St} {Y:Ly},bxPl U bx ys=some (bl,ss)->SatR B X a w Y->R7 w S' ps ys F->(∀b,S' b->Imm B X Y w b)->F.Nodup->(∀b∈F,B.Z b) ->
  (ss.map (·.1)).Nodup->(∀p∈ss,X.gn p.1=U.gn p.1/\X.ig p.1=U.ig p.1) ->
  ∃(Y':Ly) (Z':Nat->Prop) (qs:List Nat),SatR { B with Z:=Z' } (app X (K9 U ss)) a w Y'/\(∀b,B.Z b->b∉F->Z' b)/\(∀q∈qs,Z' q/\q∈F)/\qs.Nodup/\BxR w (Imm { B with Z:=Z' } (app X (K9 U ss)) Y' w) Y' (app X (K9 U ss)).gn bl ps qs/\bl.map (·.1)=bx.map (·.1) /\
   (∀u x,RepA w (Imm B X Y w) Y X.gn u x->RepA w (Imm { B with Z:=Z' } (app X (K9 U ss)) Y' w) Y' (app X (K9 U ss)).gn u x) /\
   (∀b,Imm B X Y w b->Imm { B with Z:=Z' } (app X (K9 U ss)) Y' w b)/\(∀o,o∉ss.map (·.1)->Y' o=Y o/\(app X (K9 U ss)).gn o=X.gn o/\(app X (K9 U ss)).ig o=X.ig o/\(app X (K9 U ss)).kd o=X.kd o)
 |[],[],ps,F,bl,ss,B,X,Y,e,h,hok,hS,hnd,hz,hn,hgs=>by
  simp only[bxPl,D4,G0]at e;obtain⟨rfl,rfl⟩:=e
  match ps,hok with
  |[],hok=>exact⟨Y,B.Z,[],h,λ_ hb _=>hb,by simp,gP,rfl,rfl,λ_ _ hr=>hr,λ_ hb=>hb,λ_ _=>⟨rfl,rfl,rfl,rfl⟩⟩
 |[],y::ys,ps,F,bl,ss,B,X,Y,e,h,hok,hS,hnd,hz,hn,hgs=>by simp[bxPl]at e
 |(b,i)::bx,[],ps,F,bl,ss,B,X,Y,e,h,hok,hS,hnd,hz,hn,hgs=>by simp[bxPl]at e
 |(b,i)::bx,.im _::ys,ps,F,bl,ss,B,X,Y,e,h,hok,hS,hnd,hz,hn,hgs=>by simp[bxPl]at e
 |(b,i)::bx,.ow _::ys,ps,F,bl,ss,B,X,Y,e,h,hok,hS,hnd,hz,hn,hgs=>by simp[bxPl]at e
 |(b,i)::bx,.lent k::ys,ps,F,bl,ss,B,X,Y,e,h,hok,hS,hnd,hz,hn,hgs=>by
  unfold bxPl at e;split at e
  ·rename_i l s2 hfk e2;simp only[D4,G0]at e;obtain⟨rfl,rfl⟩:=e
   match ps,hok with
   |p::ps,⟨F1,F2,⟨p1,inn,p2,p3⟩,p6,p7⟩ =>
    subst p7;rw[aF]at hnd;obtain⟨hnF1,hnF2,hdis⟩:=hnd;obtain⟨Y',Z',qs,g1,g2,g3,g4,g5,g6,g7,g8,g9⟩:=yN U e2 h p6 hS hnF2 (λc hc=>hz c (by simp[hc])) hn hgs;refine⟨Y',Z',F1++qs,g1,λc hc hnc=>g2 c hc λhf=>hnc (by simp[hf]),λc hc=>?_,aF.2 ⟨hnF1,g4,λx hx y hy=>hdis x hx y (g3 y hy).2⟩,⟨F1,qs,⟨hfk,inn,p2.mono (λ_ _=>rfl) λu x hr=>hr.mono (λc hc=>g8 c (hS c hc)) λ_ _ _ h=>h,p3⟩,g5,rfl⟩,by simp[g6],g7,g8,g9⟩;rcases K0.1 hc with hc|hc
    ·exact⟨g2 c (hz c (by simp[hc])) λhf=>hdis c hc c hf rfl,by simp[hc]⟩
    ·exact⟨(g3 c hc).1,by simp[(g3 c hc).2]⟩
  ·cases e
 |(b,i)::bx,.box t cs::ys,ps,F,bl,ss,B,X,Y,e,h,hok,hS,hnd,hz,hn,hgs=>by
  unfold bxPl at e;split at e
  ·rename_i al s1 l s2 e1 e2;simp only[D4,G0]at e;obtain⟨rfl,rfl⟩:=e
   match ps,hok with
   |p::ps,⟨F1,F2,⟨q,us,F',p1,p2,p3,p4,p5⟩,p6,p7⟩ =>
    subst p5 p7;have hs1:s1=(I5 U (cellNm U b i) 0 cs).2:=by rw[e1]
    have a8:al=(I5 U (cellNm U b i) 0 cs).1:=by rw[e1]
    rw[N3,aF]at hn;rw[eD,dZ,aF]at hnd;obtain⟨hq,a7,hnF2,hdis⟩:=hnd;rw[K0,not_or]at hq;obtain⟨Y1,Z1,a1,a2,a3,a4,a5,a6⟩:=uF U (cellNm U b i) (l:=cs) (i:=0) h p4 hS a7 (λc hc=>hz c (by simp[hc])) (by rw[<- hs1];exact hn.1) (λp hp=>hgs p (M1 _ (by rw[hs1];exact hp)));rw[<- hs1]at a1 a3 a4 a5 a6;rw[<- a8]at a3
    obtain⟨Y',Z',qs,g1,g2,g3,g4,g5,g6,g7,g8,g9⟩:=yN U e2 a1 p6 (λc hc=>a5 c (hS c hc)) hnF2 (λc hc=>a2 c (hz c (by simp[hc])) λhf=>hdis c hf c hc rfl) hn.2.1 (λp hp=>by
     obtain⟨b1,b2,b3,_⟩:=a6 p.1 λhm=>hn.2.2 p.1 hm p.1 (D8.2 ⟨p,hp,rfl⟩) rfl
     rw[b2,b3]
     exact hgs p (M2 _ hp))
    rw[AB,O8];refine⟨Y',Z',q::qs,g1,λc hc hnc=>g2 c (a2 c hc λhf=>hnc (by simp[hf])) λhf=>hnc (by simp[hf]),λc hc=>?_,dZ.2 ⟨λhm=>hq.2 (g3 q hm).2,g4⟩,⟨[q],qs,⟨q,us,rfl,p1,p2,p3,⟨a3.1,λj u x hu hx=>g7 _ _ (a3.2 j u x hu hx)⟩⟩,g5,rfl⟩,by simp[g6],λv x hr=>g7 v x (a4 v x hr),λc hc=>g8 c (a5 c hc),λo ho=>?_⟩
    ·rcases I2.1 hc with rfl|hc
     ·exact⟨g2 _ (a2 _ (hz _ (by simp)) hq.1) hq.2,by simp⟩
     ·exact⟨(g3 c hc).1,by simp[(g3 c hc).2]⟩
    ·rw[N3,K0,not_or]at ho;obtain⟨b1,b2,b3,b4⟩:=a6 o ho.1;obtain⟨c1,c2,c3,c4⟩:=g9 o ho.2;exact⟨c1.trans b1,c2.trans b2,c3.trans b3,c4.trans b4⟩
  ·cases e
def adopt_lent{b:Nat}{x:LK}{p:Value}{qs:List Nat}{B:Base}{X:St}{Y:Ly}(h:SatR B X a w Y)(hx:LkR w (Imm B X Y w) Y X.gn p qs x)(hz:∀q∈qs,B.Z q)(hY:Y b=p) :
  SatR { B with Z:=λc=>B.Z c/\c∉qs } (app X (lkWr b x)) a w Y/\(∀u y,RepA w (Imm B X Y w) Y X.gn u y->RepA w (Imm { B with Z:=λc=>B.Z c/\c∉qs } (app X (lkWr b x)) Y w) Y (app X (lkWr b x)).gn u y):=by
 cases x with
 |box t al =>
  obtain⟨q,us,e1,e2,e3,e4,e5⟩:=hx;subst e1;have hρb:Y b=.pointer (some ⟨q,0,none⟩):=hY.trans e2;have a4:∀o,(app (upd X (.knd b) (.kd (.box t al.length))) (P8 b 0 al)).kd o=if o=b then .box t al.length else X.kd o:=λo=>by rw[tF,W0]
  have a6:(app (upd X (.knd b) (.kd (.box t al.length))) (P8 b 0 al)).gn=X.gn:=by rw[xR];exact funext λo=>aT X b o _
  have a3:∀c,Owns (app (upd X (.knd b) (.kd (.box t al.length))) (P8 b 0 al)) Y b c->c=q:=λc hc=>by
   unfold Owns at hc;rw[a4,if_pos rfl,hρb]at hc;simpa[fpk,G3]using hc
  obtain⟨h1,h2,h3,h4⟩:=h.stepZ (X':=app (upd X (.knd b) (.kd (.box t al.length))) (P8 b 0 al)) (Y':=Y) (w':=w) (λo=>o=b) (λc=>B.Z c/\c∉[q]) (λo=>by rw[xS,dO])
   (λo hd=>⟨by rw[a4,if_neg hd],by rw[a6],λi=>by rw[qJ,if_neg (λz=>hd z.1),fU],rfl,rfl,rfl⟩) (λo _=>⟨⟨by rw[a6];exact H4 _,λ_=>rfl⟩,H4 _,λ_=>rfl⟩)
   (λo=>by rw[celWr_ig,fT];exact h.igs o) (Belo.refl _ _ _) (λo c hd ho=>by subst hd;rw[a3 c ho];exact .inr (.inl (hz q (by simp)))) (λo p c hd hp _ _=>hd.trans hp.symm)
   (λc hc=>⟨(h.res c hc.1).1.2,.inr (.inl hc.1),λo hd ho=>by subst hd;exact hc.2 (by rw[a3 c ho];simp)⟩) λhI hA o hd=>by
    subst hd;rw[a4,if_pos rfl];refine⟨q,us,hρb,e3,e5.1,e4,λi u hu=>?_⟩;have hi:i<al.length:=by rw[<- e5.1];exact(G4.1 hu).1
    obtain⟨c,hc⟩:∃c,al[i]?=some c:=⟨_,L4 hi⟩;rw[qJ,if_pos ⟨rfl,by omega,by omega⟩,sN,zV hc];exact hA _ _ (e5.2 i u c hu hc)
  exact⟨h1,h3⟩
 |obj k =>
  obtain⟨e1,inn,e2,e3⟩:=hx;have a8:∀t m,k≠.box t m:=λt m e=>by subst e;cases e1
  have a7:∀a2,fpk p a2 k=qs:=λa2=>by rw[e3];cases k<;>first|rfl|cases e1
  have a5:∀a2,P4 w (Imm B X Y w) p a2 k:=λa2=>by cases k<;>first|exact e2|cases e1
  have a3:∀c,Owns (upd X (.knd b) (.kd k)) Y b c->c∈qs:=λc hc=>by
   unfold Owns at hc;rw[W0,if_pos rfl,hY,a7]at hc;exact hc
  obtain⟨h1,h2,h3,h4⟩:=h.stepZ (X':=upd X (.knd b) (.kd k)) (Y':=Y) (w':=w) (λo=>o=b) (λc=>B.Z c/\c∉qs) (λo=>dO X b o _)
   (λo hd=>⟨by rw[W0,if_neg hd],aT X b o _,λi=>fU X b o i _,rfl,rfl,rfl⟩) (λo _=>⟨⟨by rw[aT];exact H4 _,λ_=>rfl⟩,H4 _,λ_=>rfl⟩)
   (λo=>by rw[fT];exact h.igs o) (Belo.refl _ _ _) (λo c hd ho=>by subst hd;exact .inr (.inl (hz c (a3 c ho)))) (λo p c hd hp _ _=>hd.trans hp.symm)
   (λc hc=>⟨(h.res c hc.1).1.2,.inr (.inl hc.1),λo hd ho=>by subst hd;exact hc.2 (a3 c ho)⟩) λhI hA o hd=>by
    subst hd;rw[W0,if_pos rfl];refine aR.of_hold a8 ?_;rw[hY];exact(a5 _).mono (λ_ _=>rfl) hI
  exact⟨h1,h3⟩
def DY:∀{bl:List (Nat×LK)} {ps:List Value} {qs:List Nat} {B:Base} {X:St} {Y:Ly},SatR B X a w Y->BxR w (Imm B X Y w) Y X.gn bl ps qs->qs.Nodup->(∀q∈qs,B.Z q)->(bl.map (·.1)).Nodup->(∀(j:Nat) (b:Nat) (p:Value),(bl.map (·.1))[j]?=some b->ps[j]?=some p->Y b=p) ->
  ∃Z':Nat->Prop,SatR { B with Z:=Z' } (app X (bxWr bl)) a w Y/\(∀b,B.Z b->b∉qs->Z' b)/\(∀u x,RepA w (Imm B X Y w) Y X.gn u x->RepA w (Imm { B with Z:=Z' } (app X (bxWr bl)) Y w) Y (app X (bxWr bl)).gn u x)
 |[],ps,qs,B,X,Y,h,hb,hnd,hz,hn,hY=>by
  match ps,hb with
  |[],hb=>exact⟨B.Z,h,λ_ hb _=>hb,λ_ _ hr=>hr⟩
 |(b,x)::bl,[],qs,B,X,Y,h,hb,hnd,hz,hn,hY=>hb.elim
 |(b,x)::bl,p::ps,qs,B,X,Y,h,⟨q1,q2,e1,e2,e3⟩,hnd,hz,hn,hY=>by
  subst e3;rw[aF]at hnd;rw[L0,dZ]at hn;obtain⟨h1,h3⟩:=adopt_lent h e1 (λq hq=>hz q (by simp[hq])) (hY 0 b p rfl rfl);obtain⟨Z',g1,g2,g3⟩:=DY h1 (e2.mono h3) hnd.2.1 (λc hc=>⟨hz c (by simp[hc]),λe=>hnd.2.2 c e c hc rfl⟩) hn.2 λj c v hc hv=>hY (j+1) c v (by simpa using hc) (by simpa using hv)
  have happ:app X (bxWr ((b,x)::bl))=app (app X (lkWr b x)) (bxWr bl):=by
   show app X (lkWr b x++bxWr bl)=_;rw[O8]
  rw[happ];exact⟨Z',g1,λc hc a2=>g2 c ⟨hc,λe=>a2 (by simp[e])⟩ λhm=>a2 (by simp[hm]),λu x hr=>g3 u x (h3 u x hr)⟩
def fwr_ig(bs:E7):∀(X:St),(app X (fwr bs)).ig=X.ig:=by
 induction bs with
 |nil=>intro X;rfl
 |cons b bs ih =>
  intro X;show(app (upd X (.knd b.1) (.kd .dead)) (fwr bs)).ig=_;rw[ih];exact funext λt=>fT X b.1 t _
def CK{w w':World}{Y:Ly}(h:SatR B X a w Y)(gs:E7)(hgsn:(gs.map (·.1)).Nodup){S':Nat->Prop}{ps:List Value}{U:St}{tp:Bool}{d:Nat}{l:List Oc}{ys:List Arg}{F':List Nat}{bx:E7}{bl:List (Nat×LK)}{ss':List (Nat×Kd)}{va:AV}
  (hb:Belo (λb=>b∈O6 X Y gs) w.heap.size w w') (hS:∀b,S' b->(Imm B X Y w b\/w.heap.size<=b\/b∈O6 X Y gs)/\b<w'.heap.size/\b∉F') (hr:ResOk w' S' v ps (.mk tp l ys) F') (hnd:F'.Nodup) (hF':∀b∈F',(w.heap.size<=b\/b∈O6 X Y gs)/\b<w'.heap.size)
  (hbl:bxPl U bx ys=some (bl,ss')) (hps:ps=bx.map λp=>Y p.1) (hbn:(bx.map (·.1)).Nodup) (hva:resV tp (I5 U (Q6 tp d) 0 l).1=some va) (hnm:(((I5 U (Q6 tp d) 0 l).2++ss').map (·.1)).Nodup) (hnb:∀x∈((I5 U (Q6 tp d) 0 l).2++ss').map (·.1),x∉bl.map (·.1))
  (hU:∀p∈(I5 U (Q6 tp d) 0 l).2++ss',X.gn p.1=U.gn p.1/\X.ig p.1=U.ig p.1) :
  ∃Y',SatR B (app (app (app X (fwr gs)) (K9 U ((I5 U (Q6 tp d) 0 l).2++ss'))) (bxWr bl)) a w' Y'/\RepA w' (Imm B (app (app (app X (fwr gs)) (K9 U ((I5 U (Q6 tp d) 0 l).2++ss'))) (bxWr bl)) Y' w') Y' (app (app (app X (fwr gs)) (K9 U ((I5 U (Q6 tp d) 0 l).2++ss'))) (bxWr bl)).gn v va /\
   (∀u x,RepA w (Imm B X Y w) Y X.gn u x->RepA w' (Imm B (app (app (app X (fwr gs)) (K9 U ((I5 U (Q6 tp d) 0 l).2++ss'))) (bxWr bl)) Y' w') Y' (app (app (app X (fwr gs)) (K9 U ((I5 U (Q6 tp d) 0 l).2++ss'))) (bxWr bl)).gn u x) /\
   ∀(j:Nat) (b:Nat) (p:Value),(bl.map (·.1))[j]?=some b->ps[j]?=some p->Y' b=p:=by
 have a8:∀o,o∈gs.map (·.1)->∀b,¬Owns (app X (fwr gs)) Y o b:=λo ho b d2=>(xO d2).2 ho
 obtain⟨h1,d7,d5,d3⟩:=h.stepZ (X':=app X (fwr gs)) (Y':=Y) (w':=w') (λo=>o∈gs.map (·.1)) (λb=>B.Z b\/b∈F') (λt=>fwr_av gs t X) (λo hd=>⟨by rw[jK,if_neg hd],by rw[mL],λi=>fwr_ce gs o i X,rfl,rfl,rfl⟩)
  (λo _=>⟨⟨by rw[mL];exact H4 _,λ_=>rfl⟩,H4 _,λ_=>rfl⟩) (λo=>by rw[fwr_ig];exact h.igs o)
  ⟨hb.os,hb.tape,hb.output,hb.size,λk hk hn=>hb.block k hk λhm=>by
   obtain⟨p,hp,ho⟩:=lK.1 hm
   exact hn (.inr ⟨p.1,D8.2 ⟨p,hp,rfl⟩,ho⟩)⟩
  (λo b hd ho=>absurd ho (a8 o hd b)) (λo p b hd hp ho _=>absurd ho (a8 o hd b))
  (λb a7=>by
   rcases a7 with a7|a7
   ·exact⟨kY (h.res b a7).1.2 hb.size,.inr (.inl a7),λo hd=>a8 o hd b⟩
   ·obtain⟨h2,h3⟩:=hF' b a7
    refine⟨h3,?_,λo hd=>a8 o hd b⟩
    rcases h2 with h2|h2
    ·exact .inl h2
    ·obtain⟨p,hp,ho⟩:=lK.1 h2
     exact .inr (.inr ⟨p.1,D8.2 ⟨p,hp,rfl⟩,ho⟩))
  λ_ _ o hd=>by rw[jK,if_pos hd];trivial
 have c7:∀b,S' b->Imm { B with Z:=λb=>B.Z b\/b∈F' } (app X (fwr gs)) Y w' b:=λb a7=>by
  obtain⟨h2,h3,h4⟩:=hS b a7;rcases h2 with h2|h2|h2
  ·exact d3 b h2
  ·refine⟨.inr (.inl (S1 h.bel.size h2)),h3,λo ho=>?_,λhz=>?_⟩
   ·have:=(h.own o b (xO ho).1).2;omega
   ·rcases hz with hz|hz
    ·have:=(h.res b hz).1.2;omega
    ·exact h4 hz
  ·obtain⟨p,hp,ho⟩:=lK.1 h2;refine⟨.inr (h.own p.1 b ho).1,h3,λq hq=>?_,λhz=>?_⟩
   ·obtain⟨h5,h6⟩:=xO hq;have:=h.dis q p.1 b h5 ho;subst this;exact h6 (D8.2 ⟨p,hp,rfl⟩)
   ·rcases hz with hz|hz
    ·exact(h.res b hz).2 p.1 ho
    ·exact h4 hz
 obtain⟨us,F1,F2,hv,hl,hy,rfl⟩:=hr;rw[aF]at hnd;rw[N3,aF]at hnm
 obtain⟨Y2,Z2,a1,a2,a3,a4,a5,a6⟩:=uF U (Q6 tp d) (l:=l) (i:=0) h1 hl c7 hnd.1 (λb a7=>.inr (M1 _ a7)) hnm.1 λp hp=>by
  rw[mL,fwr_ig];exact hU p (M1 _ hp)
 obtain⟨Y3,Z3,qs,b1,b2,b3,b4,b5,b6,b7,b8,b9⟩:=yN U hbl a1 hy (λb a7=>a5 b (c7 b a7)) hnd.2.1 (λb a7=>a2 b (.inr (M2 _ a7)) λhf=>hnd.2.2 b hf b a7 rfl) hnm.2.1 λp hp=>by
  obtain⟨c1,c2,c3,_⟩:=a6 p.1 λhm=>hnm.2.2 p.1 hm p.1 (D8.2 ⟨p,hp,rfl⟩) rfl;rw[c2,c3,mL,fwr_ig];exact hU p (M2 _ hp)
 have d0:app (app (app X (fwr gs)) (K9 U (I5 U (Q6 tp d) 0 l).2)) (K9 U ss')=app (app X (fwr gs)) (K9 U ((I5 U (Q6 tp d) 0 l).2++ss')):=by rw[AB,O8]
 rw[d0]at b1 b5 b7 b8 b9
 have b0:∀(j:Nat) (b:Nat) (p:Value),(bl.map (·.1))[j]?=some b->ps[j]?=some p->Y3 b=p:=λj b p a7 hp=>by
  have c6:b∈bl.map (·.1):=H8 a7;rw[b6,K5]at a7;rw[hps,K5]at hp;cases hc:bx[j]? with
  |none=>rw[hc]at a7;cases a7
  |some y =>
   rw[hc]at a7 hp;simp only[L5,D4]at a7 hp;have c9:b∉(I5 U (Q6 tp d) 0 l).2.map (·.1):=λhm=>hnb b (by rw[N3];exact M1 _ hm) c6;have d1:b∉ss'.map (·.1):=λhm=>hnb b (by rw[N3];exact M2 _ hm) c6;rw[(b9 b d1).1,(a6 b c9).1,<- hp,a7]
 obtain⟨Z4,c1,c2,c3⟩:=DY b1 b5 b4 (λq hq=>(b3 q hq).1) (by rw[b6];exact hbn) b0
 have c8:RepA w' (Imm { B with Z:=Z4 } (app (app (app X (fwr gs)) (K9 U ((I5 U (Q6 tp d) 0 l).2++ss'))) (bxWr bl)) Y3 w') Y3 (app (app (app X (fwr gs)) (K9 U ((I5 U (Q6 tp d) 0 l).2++ss'))) (bxWr bl)).gn v va:=by
  have a9:Reps w' (Imm { B with Z:=Z4 } (app (app (app X (fwr gs)) (K9 U ((I5 U (Q6 tp d) 0 l).2++ss'))) (bxWr bl)) Y3 w') Y3 (app (app (app X (fwr gs)) (K9 U ((I5 U (Q6 tp d) 0 l).2++ss'))) (bxWr bl)).gn us (I5 U (Q6 tp d) 0 l).1 :=
   ⟨a3.1,λi u x hu hx=>c3 _ _ (b7 _ _ (a3.2 i u x hu hx))⟩
  cases tp with
  |true =>
   simp only[resV,D4]at hva;subst hva;rw[hv];exact .tup _ _ a9.1 a9.2
  |false =>
   simp only[resV]at hva;split at hva
   ·rename_i al d6;injection hva with hva
    subst hva;have hv:us=[v]:=hv;subst hv;exact a9.2 0 v al rfl (by rw[d6];rfl)
   ·cases hva
 obtain⟨e1,e2,e3,_⟩:=c1.stepZ (X':=app (app (app X (fwr gs)) (K9 U ((I5 U (Q6 tp d) 0 l).2++ss'))) (bxWr bl)) (Y':=Y3) (w':=w') (λ_=>False) B.Z (λ_=>rfl) (λ_ _=>⟨rfl,rfl,λ_=>rfl,rfl,rfl,rfl⟩) (λ_ hd=>hd.elim) c1.igs (Belo.refl _ _ _) (λ_ _ hd=>hd.elim) (λ_ _ _ hd=>hd.elim)
  (λb a7=>by
   have c0:b∉F1++F2:=λhf=>by
    rcases (hF' b hf).1 with h5|h5
    ·have:=(h.res b a7).1.2;omega
    ·obtain⟨p,hp,ho⟩:=lK.1 h5
     exact(h.res b a7).2 p.1 ho
   rw[K0,not_or]at c0
   have d4:Z4 b:=c2 b (b2 b (a2 b (.inl a7) c0.1) c0.2) λhq=>c0.2 (b3 b hq).2
   exact⟨kY (h.res b a7).1.2 hb.size,.inr (.inl d4),λ_ hd=>hd.elim⟩) λ_ _ _ hd=>hd.elim
 exact⟨Y3,e1,e3 _ _ c8,λu x hr=>e3 _ _ (c3 _ _ (b7 _ _ (a4 _ _ (d5 _ _ hr)))),b0⟩
def objG_same{X':St}{p:Nat}(h:X'.kd p=X.kd p):objG X' p=objG X p:=by unfold objG;rw[h]
def O3.mem{X':St}{gs:E7}(h:O3 X X' gs){p:Nat×Nat}(hp:p∈gs):X'.gn p.1=X.gn p.1/\X'.kd p.1=X.kd p.1/\eJ X' p.1=eJ X p.1 :=
 have hh:=O3.head (p:=p) (c:=[]) λl hl=>h l (by
  unfold frd at *
  rw[P1,sQ,S5]at hl
  exact L6.2 ⟨p,hp,hl⟩)
 ⟨hh.1,hh.2.1,hh.2.2.1⟩
def cellG0_same{X':St}{own:List Nat}{d i j:Nat}{c:AV}{x:Oc}{gs:E7}(e:cellG0 X own d i j c=some (x,gs))(h:∀p∈gs,X'.kd p.1=X.kd p.1):cellG0 X' own d i j c=some (x,gs):=by
 unfold cellG0 at e ⊢;split at e
 ·exact e
 ·rename_i p g;split at e
  ·rename_i k hk;injection e with e
   injection e with e1 e2
   subst e1 e2;rw[objG_same (h (p,g) (by simp)),hk]
  ·cases e
 ·cases e
def cellG_same{X':St}{own:List Nat}{d i j:Nat}{c:AV}{x:Oc}{gs:E7}(e:cellG X own d i j c=some (x,gs))(h:∀p∈gs,X'.kd p.1=X.kd p.1):cellG X' own d i j c=some (x,gs):=by
 unfold cellG at e ⊢;split at e
 ·rename_i hh;exact e
 ·rename_i hh;exact cellG0_same e h
def zq22{X':St}{own:List Nat}{d i:Nat}:∀{cs:List AV} {j:Nat} {xs:List Oc} {gs:E7},mO X own d i j cs=some (xs,gs)->(∀p∈gs,X'.kd p.1=X.kd p.1)->mO X' own d i j cs=some (xs,gs)
 |[],_,_,_,e,_=>e
 |c::cs,j,xs,gs,e,h=>by
  simp only[mO]at e ⊢;split at e
  ·rename_i x g1 xs1 gs1 h1 h2;simp only[D4,G0]at e;obtain⟨rfl,rfl⟩:=e;rw[cellG_same h1 λp hp=>h p (M1 _ hp),zq22 h2 λp hp=>h p (M2 _ hp)]
  ·cases e
def argG_same{X':St}{own:List Nat}{d i:Nat}{c:AV}{x:Arg}{bs gs:E7}(e:argG X own d i c=some (x,bs,gs))(hb:O3 X X' bs)(hg:O3 X X' gs):argG X' own d i c=some (x,bs,gs):=by
 unfold argG at e ⊢;split at e
 ·rename_i ho;split at e
  ·rename_i b g;split at e
   ·rename_i k hk;simp only[D4,G0]at e;obtain⟨rfl,rfl,rfl⟩:=e;rw[objG_same (hg.mem (p:=(b,g)) (by simp)).2.1,hk]
   ·cases e
  ·rename_i b g;split at e
   ·rename_i t m hk;split at e
    ·rename_i cs a3 a2;simp only[D4,G0]at e;obtain⟨rfl,rfl,rfl⟩:=e;obtain⟨h1,h2,h3⟩:=hg.mem (p:=(b,g)) (by simp);simp only[h2,hk];rw[h3,zq22 a2 λp hp=>(hg.mem (K3 _ hp)).2.1]
    ·cases e
   ·cases e
  ·exact e
  ·cases e
 ·rename_i ho;split at e
  ·exact e
  ·split at e
   ·rename_i y bs' hy;simp only[D4,G0]at e;obtain⟨rfl,rfl,rfl⟩:=e;rw[qE hy hb]
   ·cases e
def DC{X':St}{own:List Nat}{d:Nat}:∀{cs:List AV} {i:Nat} {xs:List Arg} {bs gs:E7},aI X own d i cs=some (xs,bs,gs)->O3 X X' bs->O3 X X' gs->aI X' own d i cs=some (xs,bs,gs)
 |[],i,xs,bs,gs,e,_,_=>e
 |c::cs,i,xs,bs,gs,e,hb,hg=>by
  simp only[aI]at e ⊢;split at e
  ·rename_i x b1 g1 xs1 bs1 gs1 h1 h2;simp only[D4,G0]at e;obtain⟨rfl,rfl,rfl⟩:=e;rw[argG_same h1 hb.left hg.left,DC h2 hb.right hg.right]
  ·cases e
def footG_kill{Y:Ly}{bs gs:E7}(h:∀p∈gs,p.1∉bs.map (·.1)):O6 (app X (fwr bs)) Y gs=O6 X Y gs:=by
 unfold O6
 induction gs with
 |nil=>rfl
 |cons p gs ih =>
  rw[P1,P1,jK,if_neg (h p (by simp)),ih λq hq=>h q (by simp[hq])]
def insRd_mem:∀{l:List (Nat×Kd)} {p:Nat×Kd},p∈l->Loc.gen p.1∈gU l/\Loc.ign p.1∈gU l
 |q::l,p,h=>by
  rcases I2.1 h with rfl|h
  ·exact⟨by simp[gU],by simp[gU]⟩
  ·obtain⟨h1,h2⟩:=insRd_mem h;exact⟨by simp[gU,h1],by simp[gU,h2]⟩
def qD{X':St}{b:Nat}(h:X' (.ign b)=X (.ign b)):X'.ig b=X.ig b:=by unfold St.ig;rw[h]
def resOk_flat{S S':Nat->Prop}{ps:List Value}{r:Rs}{F:List Nat}(hf:flatRs r)(h:ResOk w S v ps r F):ResOk w S' v ps r F:=by
 cases r with
 |mk tp l ys =>
  obtain⟨us,F1,F2,h1,h2,h3,h4⟩:=h;exact⟨us,F1,F2,h1,h2.flat hf.1,h3.flat hf.2,h4⟩
def DG{U:St}:∀{bx:E7} {ys:List Arg} {bl:List (Nat×LK)} {ss:List (Nat×Kd)},bxPl U bx ys=some (bl,ss)->bl.map (·.1)=bx.map (·.1)
 |[],[],bl,ss,e=>by simp only[bxPl,D4,G0]at e;obtain⟨rfl,rfl⟩:=e;rfl
 |[],_::_,_,_,e=>by simp[bxPl]at e
 |(b,i)::bx,[],_,_,e=>by simp[bxPl]at e
 |(b,i)::bx,.im _::ys,_,_,e=>by simp[bxPl]at e
 |(b,i)::bx,.ow _::ys,_,_,e=>by simp[bxPl]at e
 |(b,i)::bx,.lent k::ys,bl,ss,e=>by
  unfold bxPl at e;split at e
  ·rename_i l s2 hfk e2;simp only[D4,G0]at e;obtain⟨rfl,rfl⟩:=e;simp[DG e2]
  ·cases e
 |(b,i)::bx,.box t cs::ys,bl,ss,e=>by
  unfold bxPl at e;split at e
  ·rename_i al s1 l s2 e1 e2;simp only[D4,G0]at e;obtain⟨rfl,rfl⟩:=e;simp[DG e2]
  ·cases e
def bxG_sub{own:List Nat}{d:Nat}:∀{cs:List AV} {i:Nat} {xs:List Arg} {bs gs:E7},aI X own d i cs=some (xs,bs,gs)->((bxG own d i cs).map (·.1)).Sublist (gs.map (·.1))
 |[],i,xs,bs,gs,e=>by simp[bxG]
 |c::cs,i,xs,bs,gs,e=>by
  simp only[aI]at e;split at e
  ·rename_i x b1 g1 xs1 bs1 gs1 h1 h2;simp only[D4,G0]at e;obtain⟨rfl,rfl,rfl⟩:=e;have ih:=bxG_sub h2
   have up:((bxG own d (i+1) cs).map (·.1)).Sublist ((g1++gs1).map (·.1)):=by
    rw[N3];exact ih.trans (CF _ _)
   unfold argG at h1;unfold bxG;split at h1
   ·split at h1
    ·rename_i b g;split at h1
     ·simp only[D4,G0]at h1;obtain⟨rfl,rfl,rfl⟩:=h1;simp only;split
      ·simp only[L0,eD];refine List.Sublist.cons_cons _ ?_;exact ih
      ·exact up
     ·cases h1
    ·rename_i b g;split at h1
     ·split at h1
      ·simp only[D4,G0]at h1;obtain⟨rfl,rfl,rfl⟩:=h1;simp only[L0,eD];refine List.Sublist.cons_cons _ ?_;rw[N3];exact ih.trans (CF _ _)
      ·cases h1
     ·cases h1
    ·exact up
    ·cases h1
   ·exact up
  ·cases e
def argG_nm{own:List Nat}{d i:Nat}{a:AV}{x:Arg}{bs gs:E7}(h:argG X own d i a=some (x,bs,gs)):x≠.lent .dead:=by
 rintro rfl;unfold argG at h;split at h
 ·split at h
  ·split at h
   ·rename_i k hk;simp only[D4,G0]at h;unfold lentG at h;split at h
    ·obtain⟨h1,_⟩:=h;injection h1 with h1
     exact(rE hk).2.1 h1
    ·cases h.1
   ·cases h
  ·split at h
   ·split at h
    ·simp at h
    ·cases h
   ·cases h
  ·split at h
   ·split at h
    ·simp at h
    ·cases h
   ·cases h
  ·cases h
 ·split at h
  ·split at h
   ·simp at h
   ·cases h
  ·split at h
   ·simp at h
   ·cases h
def argsG_nm{own:List Nat}{d i:Nat}{al0:List AV}{xs:List Arg}{bs gs:E7}(h:aI X own d i al0=some (xs,bs,gs)):nmX xs=true:=by
 cases al0 with
 |nil =>
  simp only[aI,D4,G0]at h;rw[<- h.1];rfl
 |cons a l =>
  simp only[aI]at h;split at h
  ·rename_i h1 _;simp only[D4,G0]at h;rw[<- h.1];have:=argG_nm h1;unfold nmX;split
   ·rename_i e;injection e with e
    exact absurd e this
   ·rfl
  ·cases h
def aCall_ok{C:FuncId->List Arg->Rs->Prop}(hC:∀g xs r,C g xs r->SpX P g xs r){own:List Nat}{c:Call}{f:Operand}(hop:o.op=.call c)(hcal:c.callee=.value f)(hd:J3 B.n o=true)(h:aCall own o X K C f c.args.toList):∃fx,K fx/\Eff P B o fx.rd X fx.wr:=by
 unfold aCall at h;split at h
 ·rename_i d g caps b2 hf;split at h
  ·rename_i xs bs gs c6;obtain⟨e1,h⟩:=h.ok;obtain⟨a2,b0⟩:=mW e1;obtain⟨c7,r,hr,h⟩:=h.out;obtain⟨a6,d8⟩:=(hC g xs r hr).sp (argsG_nm c6);cases r with
   |mk tp l ys =>
   simp only at h;split at h
   ·rename_i al ss bl a7 c9 d5;split at h
    ·rename_i va d2;obtain⟨e6,h⟩:=h.ok;obtain⟨b3,a9⟩:=mW e6;have e7:al=(I5 X (Q6 tp d) 0 l).1:=by rw[c9]
     have e4:ss=(I5 X (Q6 tp d) 0 l).2:=by rw[c9]
     subst e7 e4;have b7:=((bxG_sub c6).nodup a2);have c8:∀t,some d=some t->t<B.n:=λt e=>by injection e with e;subst e;exact aJ hd b2
     have b4:∀(X':St),(∀x∈opd f++opdL c.args.toList++frd X (bs++gs)++gU ((I5 X (Q6 tp d) 0 l).2++a7),X' x=X x)->∀(a:Act) (w:World) (Y:Ly),SatR B X' a w Y->∀(K':Act->World->Prop) (Q:Exit->Act->World->Prop),
       (∀v w' F',Belo (λb=>b∈O6 X' Y gs) w.heap.size w w'->ResOk w' (λb=>(Imm B (app X' (fwr bs)) Y w b\/w.heap.size<=b\/b∈O6 X' Y gs)/\b<w'.heap.size/\b∉F') v ((bxG own d 0 (c.args.toList.map (evA X)++caps)).map λp=>Y p.1) (.mk tp l ys) F' ->
        F'.Nodup->(∀b∈F',(w.heap.size<=b\/b∈O6 X' Y gs)/\b<w'.heap.size)->(∀p∈(I5 X (Q6 tp d) 0 l).2++a7,X'.gn p.1=X.gn p.1/\X'.ig p.1=X.ig p.1)->K' (a.put (some d) v) w')->o.wp P a w K' Q:=by
      intro X' hag a w Y hs K' Q hK;have d4:=I4 (I4 (I4 hag));have d6:=J6 (I4 (I4 hag));have a5:O3 X X' (bs++gs):=J6 (I4 hag);have b5:=J6 hag
      have b9:∀p∈bs++gs,X'.gn p.1=p.2:=λp hp=>by
       rw[<- c7 p hp];exact(a5.mem hp).1
      obtain⟨us,e2,e0⟩:∃us:List Value,a.eval f=.func (.func g) #[] us.toArray/\Reps w (Imm B X' Y w) Y X'.gn us caps:=by
       have h1:=F7 hs f;rw[E8 d4]at h1;split at hf
       ·rename_i g' a4 c0;simp only[D4,G0]at hf;obtain⟨rfl,rfl⟩:=hf;rw[c0]at h1;have h1:=h1.im_inv;generalize a.eval f=v at h1;cases h1 with
        |fn _ us _ hl hr =>
         refine⟨us,rfl,by simpa using hl,λi u y hu hy=>?_⟩;simp only[K5]at hy;cases hc:a4[i]? with
         |none=>rw[hc]at hy;cases hy
         |some c =>
          rw[hc]at hy;simp only[L5,D4]at hy;rw[<- hy];exact .im _ _ (hr i u c hu hc)
       ·rename_i g' a4 c0;simp only[D4,G0]at hf;obtain⟨rfl,rfl⟩:=hf;rw[c0]at h1;generalize a.eval f=v at h1;cases h1 with
        |fn _ us _ hl hr=>exact⟨us,rfl,hl,hr⟩
       ·cases hf
      have a3:=(evL_ok hs d6).app e0;have d1:=DC c6 a5.left a5.right;have d0:=argsG_ok hs (bs0:=bs) (λp hp=>b9 p (M1 _ hp)) a3 d1 (λ_ h=>h) λp hp=>b9 p (M2 _ hp);obtain⟨d9,_⟩:=bxG_ok hs a3 d1 λp hp=>b9 p (M2 _ hp)
      have a8:=d8 w (Imm B (app X' (fwr bs)) Y w) _ _ (λb hb=>hb.2.1) d0 (zK hs a2) λb hb=>by
       obtain⟨p,hp,ho⟩:=lK.1 hb;refine⟨λhi=>hi.2.2.1 p.1 ?_,(hs.own p.1 b ho).2⟩;unfold Owns at ho ⊢;rw[jK,if_neg (b0 p.1 (D8.2 ⟨p,hp,rfl⟩))];exact ho
      have run:(execOp a.eval o).run P w=.ok (.enter g (c.args.toList.map a.eval++us).toArray) w:=by
       have e:(c.args.map a.eval)++us.toArray=(c.args.toList.map a.eval++us).toArray:=by
        apply Array.ext';simp
       simp[execOp,hop,resolve,hcal,e2,Deferred.ofValue,invoke,a6,<- e]
      unfold Oper.wp;rw[run,Oper.upon_enter];refine a8.mono ?_;rintro e w' ⟨v,F',rfl,d3,b6,e5,e3⟩;show K' (a.put o.dst v) w';rw[b2];rw[d9]at b6
      exact hK v w' F' d3 b6 e5 e3 λp hp=>by
       obtain⟨h5,h6⟩:=insRd_mem hp;exact⟨V1 (b5 _ h5),qD (b5 _ h6)⟩
     split at h
     ·obtain⟨b8,h⟩:=h.out;refine⟨_,h,λX' hag a w ⟨Y,hs⟩ K' Q hK=>b4 X' hag a w Y hs K' Q λv w' F' h1 h2 h3 h4 h5=>hK _ _ ?_⟩;obtain⟨Y',g1,g2,_⟩:=CK hs gs a2 (S':=λ_=>False) h1 (λb hb=>hb.elim) (resOk_flat b8 h2) h3 h4 d5 rfl b7 d2 b3 a9 h5;refine⟨Y',?_⟩;show SatR B (app X' (fwr gs++(K9 X ((I5 X (Q6 tp d) 0 l).2++a7)++(bxWr bl++[(.tmp d,.av va)])))) _ _ _;rw[O8,O8,O8];exact g1.put (d:=some d) c8 g2
     ·refine⟨_,h,λX' hag a w ⟨Y,hs⟩ K' Q hK=>b4 X' hag a w Y hs K' Q λv w' F' h1 h2 h3 h4 h5=>hK _ _ ?_⟩;have d7:=footG_kill (X:=X') (Y:=Y) (bs:=bs) (gs:=gs) λp hp=>b0 p.1 (D8.2 ⟨p,hp,rfl⟩);rw[<- d7]at h1 h2 h4;obtain⟨Y',g1,g2,_⟩:=CK (hs.kills bs).1 gs a2 h1 (λb hb=>hb) h2 h3 h4 d5 rfl b7 d2 b3 a9 λp hp=>by rw[mL,fwr_ig];exact h5 p hp
      refine⟨Y',?_⟩;show SatR B (app X' (fwr bs++(fwr gs++(K9 X ((I5 X (Q6 tp d) 0 l).2++a7)++(bxWr bl++[(.tmp d,.av va)]))))) _ _ _;rw[O8,O8,O8,O8];exact g1.put (d:=some d) c8 g2
    ·exact h.elim
   ·exact h.elim
  ·exact h.elim
 ·exact h.elim
def aCallA_ok{C:FuncId->List Arg->Rs->Prop}(hC:∀g xs r,C g xs r->SpX P g xs r){own:List Nat}{c:Call}{f:Operand}(hop:o.op=.call c)(hcal:c.callee=.value f)(hd:J3 B.n o=true)(h:aCallA own o X K C f c.args.toList):∃fx,K fx/\Eff P B o fx.rd X fx.wr:=False.elim h
def aCallR_ok{C:FuncId->List Arg->Rs->Prop}(hC:∀g xs r,C g xs r->SpX P g xs r){own:List Nat}{c:Call}{f:Operand}(hop:o.op=.call c)(hcal:c.callee=.value f)(hd:J3 B.n o=true)(h:aCallR own o X K C f c.args.toList):∃fx,K fx/\Eff P B o fx.rd X fx.wr:=False.elim h
end
end
section
def cellV(w:World)(v:Value)(j:Nat):Value:=match v with
 | .pointer (some a)=>match w.heap[a.block]? with
  |some (.cells us _ _)=>us.toList.getD j undef
  |_=>undef
 |_=>undef
def fillCs_ok{w:World}{S:Nat->Prop}{h:Nat->Bool}{V:Nat->Value}:∀{us:List Value} {cs:List Oc} {j:Nat} {F:List Nat},(∀k u,us[k]?=some u->V (j+k)=u/\u.oneCell'=true)->Z0 w S us cs F->Z0 w S us (fillCs h V j cs) F
 |[],[],_,_,_,hk=>hk
 |[],_::_,_,_,_,hk=>hk.elim
 |_::_,[],_,_,_,hk=>hk.elim
 |u::us,c::cs,j,F,hv,⟨F1,F2,h1,h2,h3⟩=>by
  refine⟨F1,F2,?_,fillCs_ok (λk x hx=>by rw[U7,cP 1 k];exact hv (k+1) x (by simpa using hx)) h2,h3⟩;unfold fillC;split
  ·split
   ·rename_i hc;cases c with
    |ow k=>cases hc
    |im x =>
     obtain⟨_,h1⟩:=h1;obtain⟨this,a2⟩:=hv 0 u rfl;rw[W7]at this;rw[this];exact⟨.ex _ a2,h1⟩
   ·exact h1
  ·exact h1
def fillX_ok{w:World}{S:Nat->Prop}{own:List Nat}{d:Nat}{V:Nat->Nat->Value}:∀{vs:List Value} {xs:List Arg} {i:Nat} {F:List Nat},(∀k v j,vs[k]?=some v->V (i+k) j=cellV w v j)->R7 w S vs xs F->R7 w S vs (fillX own d V i xs) F
 |[],[],_,_,_,hk=>hk
 |[],_::_,_,_,_,hk=>hk.elim
 |_::_,[],_,_,_,hk=>hk.elim
 |v::vs,x::xs,i,F,hv,⟨F1,F2,h1,h2,h3⟩=>by
  refine⟨F1,F2,?_,fillX_ok (λk x j hx=>by rw[U7,cP 1 k];exact hv (k+1) x j (by simpa using hx)) h2,h3⟩;cases x with
  |im x=>exact h1
  |ow k=>exact h1
  |lent k=>exact h1
  |box t cs =>
   obtain⟨q,us,F',e1,e2,e3,e4,e5⟩:=h1;refine⟨q,us,F',e1,e2,e3,fillCs_ok (λk u hu=>?_) e4,e5⟩;have:=hv 0 v (0+k) rfl;rw[W7]at this;refine⟨?_,e3 u (H8 hu)⟩;rw[this,e1];unfold cellV;simp only[e2];rw[J9,fL,hu];rfl
def fillX_vs{own:List Nat}{d:Nat}{V:Nat->Nat->Value}:∀{vs:List Value} {xs:List Arg} {i:Nat},bxVs vs (fillX own d V i xs)=bxVs vs xs
 |[],[],_=>rfl
 |[],_::_,_=>rfl
 |_::_,[],_=>rfl
 |v::vs,x::xs,i=>by
  have ih:=fillX_vs (own:=own) (d:=d) (V:=V) (vs:=vs) (xs:=xs) (i:=i+1);cases x with
  |im x=>exact ih
  |ow k=>exact ih
  |lent k=>show v::_=v::_;rw[ih]
  |box t cs=>show v::_=v::_;rw[ih]
def zq13{w:World}{S:Nat->Prop}{h:Nat->Bool}{V:Nat->Value}:∀{us:List Value} {cs:List Oc} {j:Nat} {F:List Nat},Z0 w S us (fillCs h V j cs) F->Z0 w S us cs F/\∀k c,cs[k]?=some c->h (j+k)=true->isAny c=true->us[k]?=some (V (j+k))
 |[],[],_,_,hk=>⟨hk,λk c hc=>by simp at hc⟩
 |[],_::_,_,_,hk=>hk.elim
 |_::_,[],_,_,hk=>hk.elim
 |u::us,c::cs,j,F,⟨F1,F2,h1,h2,h3⟩=>by
  obtain⟨r1,r2⟩:=zq13 h2
  have key:OcOk w S u c F1/\(h j=true->isAny c=true->u=V j):=by
   unfold fillC at h1;split at h1
   ·rename_i hh;split at h1
    ·rename_i hc;obtain⟨h4,h5⟩:=h1;cases c with
     |ow k=>cases hc
     |im x =>
      cases x with
      |any=>cases h4;exact⟨⟨.any _,h5⟩,λ_ _=>rfl⟩
      |_=>cases hc
    ·rename_i hc;exact⟨h1,λ_ h6=>by rw[hc]at h6;cases h6⟩
   ·rename_i hh;exact⟨h1,λh6 _=>by rw[hh]at h6;cases h6⟩
  refine⟨⟨F1,F2,key.1,r1,h3⟩,λk c' hc hh ha=>?_⟩;cases k with
  |zero =>
   simp at hc;subst hc;rw[key.2 hh ha];rfl
  |succ k =>
   have:=r2 k c' (by simpa using hc) (by rw[U7,cP 1 k];exact hh) ha;rw[U7,cP 1 k]at this;simpa using this
def fillY_weak{w:World}{S:Nat->Prop}{own:List Nat}{d:Nat}{V:Nat->Nat->Value}:∀{bx:E7} {ps:List Value} {ys:List Arg} {F:List Nat},R7 w S ps (fillY own d V bx ys) F->R7 w S ps ys F /\
  ∀p∈hlY own d bx ys,∃(k i:Nat) (t:TypeId) (cs:List Oc) (q:Nat) (us:List Value),bx[k]?=some (p.1,i)/\ys[k]?=some (.box t cs)/\p.2<cs.length/\ps[k]?=some (.pointer (some ⟨q,0,none⟩))/\w.heap[q]?=some (.cells us.toArray t (0,0))/\us[p.2]?=some (V i p.2)
 |[],ps,ys,F,hk=>⟨hk,λp hp=>by cases ys<;>simp[hlY]at hp⟩
 |_::_,ps,[],F,hk=>⟨hk,λp hp=>by simp[hlY]at hp⟩
 |(b,i)::bx,[],y::ys,F,hk=>hk.elim
 |(b,i)::bx,v::ps,y::ys,F,⟨F1,F2,h1,h2,h3⟩=>by
  obtain⟨r1,r2⟩:=fillY_weak h2
  have up:∀p∈hlY own d bx ys,∃(k i':Nat) (t:TypeId) (cs:List Oc) (q:Nat) (us:List Value),((b,i)::bx)[k]?=some (p.1,i')/\(y::ys)[k]?=some (.box t cs)/\p.2<cs.length/\(v::ps)[k]?=some (.pointer (some ⟨q,0,none⟩))/\w.heap[q]?=some (.cells us.toArray t (0,0))/\us[p.2]?=some (V i' p.2):=λp hp=>by
   obtain⟨k,i',t,cs,q,us,a1,a2,a3⟩:=r2 p hp;exact⟨k+1,i',t,cs,q,us,by simpa using a1,by simpa using a2,by simpa using a3⟩
  cases y with
  |im x=>exact⟨⟨F1,F2,h1,r1,h3⟩,up⟩
  |ow k=>exact⟨⟨F1,F2,h1,r1,h3⟩,up⟩
  |lent k=>exact⟨⟨F1,F2,h1,r1,h3⟩,up⟩
  |box t cs =>
   obtain⟨q,us,F',e1,e2,e3,e4,e5⟩:=h1;obtain⟨e6,e7⟩:=zq13 e4;refine⟨⟨F1,F2,⟨q,us,F',e1,e2,e3,e6,e5⟩,r1,h3⟩,λp hp=>?_⟩;unfold hlY at hp;rcases K0.1 hp with hp|hp
   ·have hcell:∀(cs:List Oc) (j:Nat),p∈hlC own d i b j cs->∃m c,p=(b,j+m)/\cs[m]?=some c/\holeH own d i (j+m)=true/\isAny c=true:=by
     intro cs
     induction cs with
     |nil=>intro j hp;simp[hlC]at hp
     |cons c cs ih =>
      intro j hp
      have a6:p∈hlC own d i b (j+1) cs->∃m c',p=(b,j+m)/\(c::cs)[m]?=some c'/\holeH own d i (j+m)=true/\isAny c'=true:=λhp=>by
       obtain⟨m,c',a1,a2,a3,a4⟩:=ih (j+1) hp;exact⟨m+1,c',by rw[a1,U7,cP 1 m],by simpa using a2,by rw[<- cP 1 m,<- U7];exact a3,a4⟩
      unfold hlC at hp;split at hp
      ·rename_i hh ha;rcases I2.1 hp with rfl|hp
       ·exact⟨0,c,rfl,rfl,hh,ha⟩
       ·exact a6 hp
      ·exact a6 hp
    obtain⟨m,c,rfl,a2,a3,a4⟩:=hcell cs 0 hp;rw[J9]at a3 ⊢;have a5:=e7 m c a2 (by rw[J9];exact a3) a4;rw[J9]at a5;exact⟨0,i,t,cs,q,us,rfl,rfl,(G4.1 a2).1,by rw[e1];rfl,e2,a5⟩
   ·exact up p hp
def memB_iff{b:Nat}:∀{l:List Nat},memB b l=true↔b∈l
 |[]=>by simp[memB]
 |x::l=>by
  unfold memB;split
  ·rename_i h;simp[S2 h]
  ·rename_i h;have hne:b≠x:=λe=>by rw[e,Nat.beq_refl]at h;cases h
   rw[memB_iff];simp[hne]
def memC_iff{b j:Nat}:∀{l:E7},memC b j l=true↔(b,j)∈l
 |[]=>by simp[memC]
 |x::l=>by
  unfold memC;split
  ·rename_i h;rw[M7]at h;have h1:=S2 h.1;have h2:=S2 h.2;have:(b,j)=x:=by rw[<- h1,<- h2]
   simp[this]
  ·rename_i h
   have a2:(b,j)≠x:=λe=>by
    rw[<- e]at h;simp at h
   rw[memC_iff];simp[a2]
section
variable {P:Program}{B:Base}{o:Oper}{X:St}{K:Fx->Prop}
def keepW_at(bs:List Nat)(hs:E7)(l:Loc):∀(wr:List (Loc×Ct)) (X:St),app X (keepW bs hs wr) l=if keepL bs hs l=true then app X wr l else X l
 |[],X=>by show X l=_;split<;>rfl
 |p::wr,X=>by
  unfold keepW;split
  ·rename_i hp;show app (upd X p.1 p.2) (keepW bs hs wr) l=_;rw[keepW_at bs hs l wr];by_cases hl:keepL bs hs l=true
   ·rw[if_pos hl,if_pos hl];rfl
   ·rw[if_neg hl,if_neg hl,R8,if_neg (λe=>hl (by rw[e];exact hp))]
  ·rename_i hp;rw[keepW_at bs hs l wr];by_cases hl:keepL bs hs l=true
   ·rw[if_pos hl,if_pos hl];have hne:l≠p.1:=λe=>by rw[e,hp]at hl;cases hl
    -- a write elsewhere
    have:∀(wr:List (Loc×Ct)) (X1 X2:St),(∀x,x≠p.1->X1 x=X2 x)->∀x,x≠p.1->app X1 wr x=app X2 wr x:=by
     intro wr
     induction wr with
     |nil=>intro X1 X2 h x hx;exact h x hx
     |cons q wr ih =>
      intro X1 X2 h x hx;refine ih (upd X1 q.1 q.2) (upd X2 q.1 q.2) (λy hy=>?_) x hx;rw[R8,R8];split
      ·rfl
      ·exact h y hy
    exact this wr X (upd X p.1 p.2) (λx hx=>by rw[R8,if_neg hx]) l hne
   ·rw[if_neg hl,if_neg hl]
def argsG_box{own:List Nat}{d b i:Nat}:∀{cs:List AV} {i0:Nat} {xs:List Arg} {bs gs:E7},aI X own d i0 cs=some (xs,bs,gs)->(b,i)∈bxG own d i0 cs->objG X b=none->∃k g,i=i0+k/\cs[k]?=some (.own b g 0)/\(b,g)∈gs
 |[],i0,xs,bs,gs,e,hm,_=>by simp[bxG]at hm
 |c::cs,i0,xs,bs,gs,e,hm,hn=>by
  simp only[aI]at e;split at e
  ·rename_i x b1 g1 xs1 bs1 gs1 h1 h2;simp only[D4,G0]at e;obtain⟨rfl,rfl,rfl⟩:=e
   have up:(b,i)∈bxG own d (i0+1) cs->∃k g,i=i0+k/\(c::cs)[k]?=some (.own b g 0)/\(b,g)∈g1++gs1:=λhm=>by
    obtain⟨k,g,a1,a2,a3⟩:=argsG_box h2 hm hn;exact⟨k+1,g,by omega,by simpa using a2,M2 _ a3⟩
   unfold argG at h1;unfold bxG at hm;split at h1
   ·rename_i ho;rw[ho]at hm;split at h1
    ·rename_i b' g';split at h1
     ·rename_i k hk;simp only at hm;split at hm
      ·rcases I2.1 hm with e|hm
       ·simp only[G0]at e;rw[<- e.1,hn]at hk;cases hk
       ·exact up hm
      ·exact up hm
     ·cases h1
    ·rename_i b' g';split at h1
     ·split at h1
      ·simp only[D4,G0]at h1;obtain⟨rfl,rfl,rfl⟩:=h1;simp only at hm;rcases I2.1 hm with e|hm
       ·simp only[G0]at e;obtain⟨rfl,rfl⟩:=e;exact⟨0,g',rfl,rfl,by simp⟩
       ·exact up hm
      ·cases h1
     ·cases h1
    ·exact up hm
    ·cases h1
   ·rename_i ho;rw[ho]at hm;exact up hm
  ·cases e
def yA{U:St}:∀{bx:E7} {ys:List Arg} {bl:List (Nat×LK)} {ss:List (Nat×Kd)},bxPl U bx ys=some (bl,ss)->∀{k b i:Nat} {t:TypeId} {cs:List Oc},bx[k]?=some (b,i)->ys[k]?=some (.box t cs)->∃al,bl[k]?=some (b,.box t al)/\al.length=cs.length
 |[],_,_,_,_,k,b,i,t,cs,h1,_=>by simp at h1
 |_::_,[],_,_,e,k,b,i,t,cs,h1,h2=>by simp at h2
 |(b0,i0)::bx,y::ys,bl,ss,e,k,b,i,t,cs,h1,h2=>by
  cases y with
  |im x=>simp[bxPl]at e
  |ow x=>simp[bxPl]at e
  |lent x =>
   unfold bxPl at e;split at e
   ·rename_i l s2 hfk e2;simp only[D4,G0]at e;obtain⟨rfl,rfl⟩:=e;cases k with
    |zero=>simp at h2
    |succ k =>
     obtain⟨al,a1,a2⟩:=yA e2 (k:=k) (by simpa using h1) (by simpa using h2);exact⟨al,by simpa using a1,a2⟩
   ·cases e
  |box t0 cs0 =>
   unfold bxPl at e;split at e
   ·rename_i al s1 l s2 e1 e2;simp only[D4,G0]at e;obtain⟨rfl,rfl⟩:=e;cases k with
    |zero =>
     simp at h1 h2;obtain⟨rfl,rfl⟩:=h1;obtain⟨rfl,rfl⟩:=h2;refine⟨al,rfl,?_⟩;have:al=(I5 U (cellNm U b0 i0) 0 cs0).1:=by rw[e1]
     rw[this]
     have a3:∀(f:Nat->Nat) (cs:List Oc) (j:Nat),(I5 U f j cs).1.length=cs.length:=by
      intro f cs
      induction cs with
      |nil=>intro j;rfl
      |cons c cs ih=>intro j;show(_::(I5 U f (j+1) cs).1).length=_;rw[H7,ih];rfl
     exact a3 _ _ _
    |succ k =>
     obtain⟨a4,a1,a2⟩:=yA e2 (k:=k) (by simpa using h1) (by simpa using h2);exact⟨a4,by simpa using a1,a2⟩
   ·cases e
def uD:∀{bl:List (Nat×LK)},sameBx X bl=true->∀{b:Nat} {t:TypeId} {al:List AV},(b,LK.box t al)∈bl->X.kd b=.box t al.length
 |[],_,b,t,al,h=>by simp at h
 |(b0,.obj k)::bl,e,b,t,al,h=>by
  rcases I2.1 h with h|h
  ·simp at h
  ·exact uD (bl:=bl) e h
 |(b0,.box t0 al0)::bl,e,b,t,al,h=>by
  unfold sameBx at e;rw[M7]at e;rcases I2.1 h with h|h
  ·simp only[G0,LK.box.injEq]at h;obtain⟨rfl,rfl,rfl⟩:=h;have e1:=e.1;split at e1
   ·rename_i t' m hk;rw[M7]at e1;rw[hk,S2 e1.1,S2 e1.2]
   ·cases e1
  ·exact uD e.2 h
def bxN_mem:∀{bl:List (Nat×LK)} {b:Nat},b∈bxN bl->∃t al,(b,LK.box t al)∈bl
 |[],b,h=>by simp[bxN]at h
 |(b0,.obj k)::bl,b,h=>by
  obtain⟨t,al,h⟩:=bxN_mem (bl:=bl) h;exact⟨t,al,by simp[h]⟩
 |(b0,.box t al)::bl,b,h=>by
  have h:b∈b0::bxN bl:=h;rcases I2.1 h with rfl|h
  ·exact⟨t,al,by simp⟩
  ·obtain⟨t,al,h⟩:=bxN_mem h;exact⟨t,al,by simp[h]⟩
def bxN_of:∀{bl:List (Nat×LK)} {b:Nat} {t:TypeId} {al:List AV},(b,LK.box t al)∈bl->b∈bxN bl
 |[],b,t,al,h=>by simp at h
 |(b0,.obj k)::bl,b,t,al,h=>by
  rcases I2.1 h with h|h
  ·simp at h
  ·exact bxN_of (bl:=bl) h
 |(b0,.box t0 al0)::bl,b,t,al,h=>by
  show b∈b0::bxN bl;rcases I2.1 h with h|h
  ·simp only[G0]at h;simp[h.1]
  ·simp[bxN_of h]
def bxWr_kd:∀{bl:List (Nat×LK)} {X:St} {b:Nat} {t:TypeId} {al:List AV},(bl.map (·.1)).Nodup->(b,LK.box t al)∈bl->(app X (bxWr bl)).kd b=.box t al.length
 |[],X,b,t,al,_,h=>by simp at h
 |(b0,x)::bl,X,b,t,al,hn,h=>by
  rw[L0,dZ]at hn
  have happ:app X (bxWr ((b0,x)::bl))=app (app X (lkWr b0 x)) (bxWr bl):=by
   show app X (lkWr b0 x++bxWr bl)=_;rw[O8]
  rw[happ]
  have a2:∀(bl:List (Nat×LK)) (X:St),b0∉bl.map (·.1)->(app X (bxWr bl)).kd b0=X.kd b0:=by
   intro bl
   induction bl with
   |nil=>intro X _;rfl
   |cons p bl ih =>
    intro X hm;rw[L0,I2,not_or]at hm;show(app X (lkWr p.1 p.2++bxWr bl)).kd b0=_;rw[O8,ih _ hm.2];cases p.2 with
    |box t al =>
     show(app (upd X (.knd p.1) (.kd (.box t al.length))) (P8 p.1 0 al)).kd b0=_;rw[tF,W0,if_neg hm.1]
    |obj k =>
     show(upd X (.knd p.1) (.kd k)).kd b0=_;rw[W0,if_neg hm.1]
  rcases I2.1 h with h|h
  ·simp only[G0]at h;obtain⟨rfl,rfl⟩:=h;rw[a2 bl _ hn.1];show(app (upd X (.knd b) (.kd (.box t al.length))) (P8 b 0 al)).kd b=_;rw[tF,W0,if_pos rfl]
  ·exact bxWr_kd hn.2 h
def fillX_nm{own:List Nat}{d i:Nat}{V:Nat->Nat->Value}{xs:List Arg}(h:nmX xs=true):nmX (fillX own d V i xs)=true:=by
 cases xs with
 |nil=>rfl
 |cons x l =>
  cases x with
  |im _=>rfl
  |ow _=>rfl
  |box _ _=>rfl
  |lent k=>cases k<;>first|rfl|cases h
def aCallH_ok{C:FuncId->List Arg->Rs->Prop}(hC:∀g xs r,C g xs r->SpX P g xs r){own:List Nat}{c:Call}{f:Operand}(hop:o.op=.call c)(hcal:c.callee=.value f)(hd:J3 B.n o=true)(h:aCallH own o X K C f c.args.toList):∃fx,K fx/\Eff P B o fx.rd X fx.wr:=by
 unfold aCallH at h;split at h
 ·rename_i d g caps f7 hf;split at h
  ·rename_i xs bs gs d4;obtain⟨k6,h⟩:=h.ok;obtain⟨c0,c7⟩:=mW k6;obtain⟨i4,tp,l,ys,hr,h⟩:=h.out;have j7:=λV=>(hC g _ _ (hr V)).sp (fillX_nm (argsG_nm d4));split at h
   ·rename_i al ss bl d5 g8 d7;split at h
    ·rename_i va j5;obtain⟨d6,h⟩:=h.ok;rw[M7]at d6;obtain⟨d6,b7⟩:=d6;obtain⟨i7,i6⟩:=mW d6;have l6:al=(I5 X (Q6 tp d) 0 l).1:=by rw[g8]
     have m4:ss=(I5 X (Q6 tp d) 0 l).2:=by rw[g8]
     subst l6 m4;have f6:=((bxG_sub d4).nodup c0);have l3:∀t,some d=some t->t<B.n:=λt e=>by injection e with e;subst e;exact aJ hd f7
     refine⟨_,h,λX' hag a w ⟨Y,hs⟩ K' Q hK=>?_⟩;have i5:=I4 (I4 (I4 hag));have j1:=J6 (I4 (I4 hag));have b0:O3 X X' (bs++gs):=J6 (I4 hag);have e9:=J6 hag
     have c8:∀p∈bs++gs,X'.gn p.1=p.2:=λp hp=>by
      rw[<- i4 p hp];exact(b0.mem hp).1
     obtain⟨us,k7,k5⟩:∃us:List Value,a.eval f=.func (.func g) #[] us.toArray/\Reps w (Imm B X' Y w) Y X'.gn us caps:=by
      have h1:=F7 hs f;rw[E8 i5]at h1;split at hf
      ·rename_i g' c6 f9;simp only[D4,G0]at hf;obtain⟨rfl,rfl⟩:=hf;rw[f9]at h1;have h1:=h1.im_inv;generalize a.eval f=v at h1;cases h1 with
       |fn _ us _ hl hr =>
        refine⟨us,rfl,by simpa using hl,λi u y hu hy=>?_⟩;simp only[K5]at hy;cases hc:c6[i]? with
        |none=>rw[hc]at hy;cases hy
        |some c =>
         rw[hc]at hy;simp only[L5,D4]at hy;rw[<- hy];exact .im _ _ (hr i u c hu hc)
      ·rename_i g' c6 f9;simp only[D4,G0]at hf;obtain⟨rfl,rfl⟩:=hf;rw[f9]at h1;generalize a.eval f=v at h1;cases h1 with
       |fn _ us _ hl hr=>exact⟨us,rfl,hl,hr⟩
      ·cases hf
     have a9:=(evL_ok hs j1).app k5;have g7:=DC d4 b0.left b0.right;have g9:=argsG_ok hs (bs0:=bs) (λp hp=>c8 p (M1 _ hp)) a9 g7 (λ_ h=>h) λp hp=>c8 p (M2 _ hp);obtain⟨l7,_⟩:=bxG_ok hs a9 g7 λp hp=>c8 p (M2 _ hp);generalize j8:c.args.toList.map a.eval++us=vs at *
     let V:Nat->Nat->Value:=λi j=>cellV w (vs.getD i undef) j
     have g6:=fillX_ok (own:=own) (d:=d) (V:=V) (i:=0) (λk v j hv=>by
      show cellV w (vs.getD (0+k) undef) j=_
      rw[J9,fL,hv];rfl) g9
     obtain⟨d0,j4⟩:=j7 V
     have d8:=j4 w (Imm B (app X' (fwr bs)) Y w) _ _ (λb hb=>hb.2.1) g6 (zK hs c0) λb hb=>by
      obtain⟨p,hp,ho⟩:=lK.1 hb;refine⟨λhi=>hi.2.2.1 p.1 ?_,(hs.own p.1 b ho).2⟩;unfold Owns at ho ⊢;rw[jK,if_neg (c7 p.1 (D8.2 ⟨p,hp,rfl⟩))];exact ho
     have run:(execOp a.eval o).run P w=.ok (.enter g vs.toArray) w:=by
      have e:(c.args.map a.eval)++us.toArray=vs.toArray:=by
       rw[<- j8];apply Array.ext';simp
      simp[execOp,hop,resolve,hcal,k7,Deferred.ofValue,invoke,d0,<- e]
     unfold Oper.wp;rw[run,Oper.upon_enter];refine d8.mono ?_;rintro e w' ⟨v,F',rfl,e8,d9,k8,h9⟩;show K' (a.put o.dst v) w';rw[f7];rw[fillX_vs,l7]at d9;obtain⟨l9,F1,F2,r1,r2,r3,r4⟩:=d9;obtain⟨r5,r6⟩:=fillY_weak r3;have j3:=footG_kill (X:=X') (Y:=Y) (bs:=bs) (gs:=gs) λp hp=>c7 p.1 (D8.2 ⟨p,hp,rfl⟩);rw[<- j3]at e8 h9 r2 r5
     have h5:∀p∈(I5 X (Q6 tp d) 0 l).2++d5,(app X' (fwr bs)).gn p.1=X.gn p.1/\(app X' (fwr bs)).ig p.1=X.ig p.1:=λp hp=>by
      obtain⟨h5,h6⟩:=insRd_mem hp;rw[mL,fwr_ig];exact⟨V1 (e9 _ h5),qD (e9 _ h6)⟩
     obtain⟨Y',g1,g2,g3,g4⟩:=CK (hs.kills bs).1 gs c0 e8 (λb hb=>hb) ⟨l9,F1,F2,r1,r2,r5,r4⟩ k8 h9 d7 rfl f6 j5 i7 i6 h5;have b8:=DG d7;have i9:(bl.map (·.1)).Nodup:=by rw[b8];exact f6
     -- the state with m3 j2
     generalize j0:fwr bs++(fwr gs++(K9 X ((I5 X (Q6 tp d) 0 l).2++d5)++bxWr bl))=wr;generalize l4:hlY own d (bxG own d 0 (c.args.toList.map (evA X)++caps)) ys=hl at r6
     have hX1:app (app (app (app X' (fwr bs)) (fwr gs)) (K9 X ((I5 X (Q6 tp d) 0 l).2++d5))) (bxWr bl)=app X' wr:=by
      rw[<- j0,O8,O8,O8]
     have e0:∀b∈bxN bl,∃t m,X'.kd b=.box t m/\(app X' wr).kd b=.box t m/\∀al,(b,LK.box t al)∈bl->al.length=m:=λb hb=>by
      obtain⟨t,al,hm⟩:=bxN_mem hb;have e1:=uD b7 hm;have j6:b∈gs.map (·.1):=(bxG_sub d4).subset (by rw[<- b8];exact D8.2 ⟨_,hm,rfl⟩);obtain⟨p,hp,rfl⟩:=D8.1 j6;refine⟨t,al.length,?_,?_,λm7 l5=>?_⟩
      ·rw[(b0.mem (M2 _ hp)).2.1,e1]
      ·rw[<- hX1];exact bxWr_kd i9 hm
      ·have:=uD b7 l5;rw[e1]at this;injection this with _ this
       exact this.symm
     rw[hX1]at g1 g2 g3;have b6:=keepW_at (bxN bl) hl;have l0:∀t,(app X' (keepW (bxN bl) hl wr)).av t=(app X' wr).av t:=λt=>by unfold St.av;rw[b6,if_pos (show keepL (bxN bl) hl (.tmp t)=true from rfl)]
     have i8:(app X' (keepW (bxN bl) hl wr)).gn=(app X' wr).gn:=funext λt=>by unfold St.gn;rw[b6,if_pos (show keepL (bxN bl) hl (.gen t)=true from rfl)]
     have l8:∀t,(app X' (keepW (bxN bl) hl wr)).ig t=(app X' wr).ig t:=λt=>by unfold St.ig;rw[b6,if_pos (show keepL (bxN bl) hl (.ign t)=true from rfl)]
     have g5:(app X' (keepW (bxN bl) hl wr)).kd=(app X' wr).kd:=funext λt=>by
      by_cases ht:t∈bxN bl
      ·obtain⟨t1,m,e1,e2,_⟩:=e0 t ht;rw[e2,<- e1];unfold St.kd;rw[b6,if_neg (by show ¬(!memB t (bxN bl))=true;rw[memB_iff.2 ht];simp)]
      ·unfold St.kd
       rw[b6,if_pos (by
        show(!memB t (bxN bl))=true
        cases hb:memB t (bxN bl) with
        |false=>rfl
        |true=>exact absurd (memB_iff.1 hb) ht)]
     have i3:∀b j,(b,j)∉hl->(app X' (keepW (bxN bl) hl wr)).ce b j=(app X' wr).ce b j:=λb j hn=>by
      unfold St.ce
      rw[b6,if_pos (by
       show(!memC b j hl)=true
       cases hb:memC b j hl with
       |false=>rfl
       |true=>exact absurd (memC_iff.1 hb) hn)]
     have h7:∀b j,(b,j)∈hl->(app X' (keepW (bxN bl) hl wr)).ce b j=X'.ce b j:=λb j hm=>by
      unfold St.ce;rw[b6,if_neg (by show ¬(!memC b j hl)=true;rw[memC_iff.2 hm];simp)]
     have b9:∀o b,Owns (app X' (keepW (bxN bl) hl wr)) Y' o b↔Owns (app X' wr) Y' o b:=λo b=>by unfold Owns;rw[g5]
     have m5:∀p∈hl,p.1∈bxN bl:=λp hp=>by
      obtain⟨k,i,t,cs,q,c9,a1,a2,_⟩:=r6 p hp;obtain⟨al,a3,_⟩:=yA d7 a1 a2;exact bxN_of (H8 a3)
     obtain⟨s1,s2,s3,_⟩:=g1.stepZ (X':=app X' (keepW (bxN bl) hl wr)) (Y':=Y') (w':=w') (λo=>o∈bxN bl) B.Z l0
      (λo hd=>⟨by rw[g5],by rw[i8],λi=>i3 o i λhm=>hd (m5 _ hm),rfl,rfl,rfl⟩) (λo _=>⟨⟨by rw[i8];exact H4 _,λ_=>rfl⟩,H4 _,λ_=>rfl⟩)
      (λo=>by rw[l8];exact g1.igs o) (Belo.refl _ _ _) (λo b hd ho=>.inr (.inr ⟨o,hd,(b9 o b).1 ho⟩)) (λo p b _ _ h1 h2=>g1.dis o p b ((b9 o b).1 h1) ((b9 p b).1 h2))
      (λb hb=>⟨(g1.res b hb).1.2,.inr (.inl hb),λo _ ho=>(g1.res b hb).2 o ((b9 o b).1 ho)⟩) λhI hA o hd=>by
       obtain⟨t,m,k1,k2,k3⟩:=e0 o hd;rw[g5,k2];have ho:=g1.obs o;rw[k2]at ho;obtain⟨q,c9,b1,b2,b3,b4,b5⟩:=ho;refine⟨q,c9,b1,b2,b3,b4,λj u hu=>?_⟩;by_cases hm:(o,j)∈hl
       ·rw[h7 o j hm];obtain⟨k,i,t',cs,q',us'',a1,a2,a3,a4,a5,a6⟩:=r6 (o,j) hm;obtain⟨al,c1,c2⟩:=yA d7 a1 a2
        -- the box's place
        have e1:=g4 k o _ (by rw[K5,c1];rfl) a4;rw[b1]at e1;injection e1 with e1
        injection e1 with e1
        injection e1 with e1
        subst e1;rw[b2]at a5;injection a5 with a5
        injection a5 with a5 a7 a8
        have:c9=us'':=by simpa using a5
        subst this;have a6:c9[j]?=some (V i j):=a6;rw[hu]at a6;injection a6 with a6
        -- what it held before
        have m6:(o,i)∈bxG own d 0 (c.args.toList.map (evA X)++caps):=H8 a1;have j9:objG X' o=none:=by unfold objG;rw[k1]
        obtain⟨k',g',d1,d2,d3⟩:=argsG_box g7 m6 j9;rw[J9]at d1;subst d1
        obtain⟨v0,h8⟩:∃v0,vs[i]?=some v0:=by
         have m8:=(G4.1 d2).1;have:=a9.1;exact⟨_,L4 (by omega)⟩
        have hg':=c8 (o,g') (M2 _ d3);obtain⟨q0,f8,e1,e2,e3,e4,e5,e6,e7⟩:=lG hs (a9.2 i v0 _ h8 d2) hg' k1
        have hj:j<m:=by
         have h1:=k3 al (by
          have:=H8 c1
          have h2:=uD b7 this
          have h3:=(b0.mem (p:=(o,g')) (M2 _ d3)).2.1
          rw[k1]at h3
          rw[h2]at h3
          injection h3 with h3 _
          subst h3
          exact this)
         have a3:j<cs.length:=a3;omega
        have hV:f8[j]?=some (V i j):=by
         show _=some (cellV w (vs.getD i undef) j);rw[fL,h8];show _=some (cellV w v0 j);rw[e1];unfold cellV;simp only[e3];rw[fL];have:j<f8.length:=by omega
         rw[L4 this];rfl
        have hk:=(hs.kills bs).1.obs o;rw[jK,if_neg (c7 o (D8.2 ⟨_,d3,rfl⟩)),k1]at hk;obtain⟨q1,us1,f1,f2,f3,f4,f5⟩:=hk;rw[e2]at f1;injection f1 with f1
        injection f1 with f1
        injection f1 with f1
        subst f1;rw[e3]at f2;injection f2 with f2
        injection f2 with f2 _ _
        have:f8=us1:=by simpa using f2
        subst this;have fin:=f5 j _ hV;rw[fwr_ce]at fin;rw[a6];exact hA _ _ (g3 _ _ fin)
       ·rw[i3 o j hm];exact hA _ _ (b5 j u hu)
     refine hK _ _ ⟨Y',?_⟩;show SatR B (app X' (keepW (bxN bl) (hlY own d (bxG own d 0 (c.args.toList.map (evA X)++caps)) ys) (fwr bs++(fwr gs++(K9 X ((I5 X (Q6 tp d) 0 l).2++d5)++bxWr bl)))++[(.tmp d,.av va)])) _ _ _;rw[j0,l4,O8];exact s1.put (d:=some d) l3 (s3 _ _ g2)
    ·exact h.elim
   ·exact h.elim
  ·exact h.elim
 ·exact h.elim
end
end
end Go.Proofs.YtjmcbfbjajlbhaaGreatDoor.Sym

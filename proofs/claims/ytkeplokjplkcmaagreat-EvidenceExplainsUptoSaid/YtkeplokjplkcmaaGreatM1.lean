/-
  Parts of the proof, behind each other.
-/
import Derived.WalkKit
import Derived.Deep.AppendLies
import Derived.Deep.Draws
import Derived.Maps.AppendAt
import Derived.Deep.QuietTactic
import Derived.BigQuiet
import Derived.WalkSpells
import Derived.Outline
import Derived.Laws.OwnMore
import Derived.Test.YtkeplokjplkcmaaGreatProg
import Derived.IntWalk
import Derived.Laws.Cells
import Derived.ArgAppend
set_option linter.all false
set_option maxRecDepth 100000
namespace Go.Proofs.YtkeplokjplkcmaaGreat.Sym
section
section
abbrev yaa:=List (List Int)
abbrev yab:=List Int
abbrev yad:=List (Nat×Nat)
abbrev yae:=@List.getElem?_map
abbrev yaf:=@Nat.zero_le
abbrev yag:=@List.mem_singleton
abbrev yah:=@Int.toNat_natCast
abbrev yai:=@List.mem_append_right
abbrev yaj:=@Option.getD_some
abbrev yak:=@List.length_replicate
abbrev yal:=@Nat.zero_add
abbrev yam:=@List.mem_append
abbrev yan:=@List.mem_append_left
abbrev yao:=@List.mem_map
abbrev yap:=@Option.map_some
abbrev yaq:=@Nat.le_refl
abbrev yar:=@Nat.eq_of_beq_eq_true
abbrev yas:=@List.length_take
abbrev yat:=@List.getElem?_eq_none
abbrev yau:=@List.mem_cons_of_mem
abbrev yav:=@List.map_cons
abbrev yaw:=@List.mem_cons
abbrev yax:=@Bool.and_eq_true
abbrev yay:=@List.mem_range
abbrev yaz:=@List.eq_nil_of_length_eq_zero
abbrev ya0:=@List.map_append
abbrev ya1:=@List.getElem?_append
abbrev ya2:=@List.getElem?_set_self
abbrev ya3:=@List.getElem?_set_ne
abbrev ya4:=@List.length_range
abbrev ya5:=@List.getElem?_append_left
abbrev ya6:=@Array.getElem?_toList
abbrev ya7:=@List.getElem_mem
abbrev ya8:=@List.length_nil
abbrev ya9:=@Nat.lt_or_ge
abbrev yba:=@List.getElem?_range
abbrev ybb:=@List.length_set
abbrev ybc:=@List.length_singleton
abbrev ybd:=@Classical.byContradiction
abbrev ybe:=@List.mem_of_mem_take
abbrev ybf:=@List.all_eq_true
abbrev ybg:=@Nat.not_lt_zero
abbrev ybh:=@List.length_drop
abbrev ybi:=@List.getElem?_replicate
abbrev ybj:=@List.getD_eq_getElem?_getD
abbrev ybk:=@List.getElem?_take
abbrev ybl:=@List.mem_cons_self
abbrev ybm:=@List.nodup_append
abbrev ybn:=@List.flatMap_cons
abbrev ybo:=@List.getElem?_append_right
abbrev ybp:=@List.mem_of_mem_drop
abbrev ybq:=@List.getElem?_drop
abbrev ybr:=@Option.bind_some
abbrev ybs:=@Nat.mul_le_mul_right
abbrev ybt:=@Nat.add_assoc
abbrev ybu:=@List.flatten_cons
abbrev ybv:=@List.eq_of_mem_replicate
abbrev ybw:=@List.take_length
abbrev ybx:=@Sum.elim_inl
abbrev yby:=@List.idxOf_lt_length_of_mem
abbrev ybz:=@Nat.add_zero
abbrev yb0:=@List.nodup_cons
abbrev yb1:=@List.drop_eq_getElem_cons
abbrev yb2:=@Array.getElem?_eq_some_iff
abbrev yb3:=@List.append_assoc
abbrev yb4:=@List.append_nil
abbrev yb5:=@List.mem_filterMap
abbrev yb6:=@List.pairwise_iff_getElem
abbrev yb7:=@List.take_of_length_le
abbrev yb8:=@Array.toArray_toList
abbrev yb9:=@List.prefix_refl
abbrev yca:=@List.ext_getElem?
abbrev ycb:=@Nat.eq_zero_or_pos
abbrev ycc:=@Nat.min_eq_left
abbrev ycd:=@List.take_succ_eq_append_getElem
abbrev yce:=@List.filterMap_cons
abbrev ycf:=@List.mem_flatMap
abbrev ycg:=@Nat.le_trans
abbrev ych:=@List.getElem?_of_mem
abbrev yci:=@List.mem_iff_getElem
abbrev ycj:=@List.nil_append
abbrev yck:=@Bool.not_true
abbrev ycl:=@Array.toList_map
abbrev ycm:=@Nat.add_comm
abbrev ycn:=@Nat.sub_self
abbrev yco:=@List.pairwise_cons
abbrev ycp:=@List.drop_eq_nil_of_le
abbrev ycq:=@List.flatten_append
abbrev ycr:=@List.getElem_of_mem
abbrev ycs:=@List.range_succ
abbrev yct:=@Nat.lt_of_lt_of_le
abbrev ycu:=@Nat.lt_of_le_of_ne
abbrev ycv:=@List.mem_or_eq_of_mem_set
abbrev ycw:=@Nat.min_eq_right
abbrev ycx:=@List.size_toArray
abbrev ycy:=@Array.getD_eq_getD_getElem?
abbrev ycz:=@Nat.mul_one
abbrev yc0:=@Int.le_refl
abbrev yc1:=@Sum.elim_inr
abbrev yc2:=@List.cons_append
abbrev yc3:=@List.countP_cons
abbrev yc4:=@List.nodup_nil
abbrev yc5:=@Array.getElem?_eq_getElem
abbrev yc6:=@List.foldl_cons
abbrev yc7:=@List.take_append_of_le_length
abbrev yc8:=@List.getElem?_cons_zero
abbrev yc9:=@List.flatMap_append
abbrev yda:=@List.map_congr_left
abbrev ydb:=@Nat.lt_succ_self
abbrev ydc:=@Nat.zero_mul
abbrev ydd:=@List.map_nil
abbrev yde:=@Nat.le_total
abbrev ydf:=@Nat.succ_mul
abbrev ydg:=@List.getElem_idxOf
abbrev ydh:=@Array.getElem?_modify
abbrev ydi:=@Option.map_none
abbrev ydj:=@List.countP_singleton
abbrev ydk:=@List.getElem?_set
abbrev ydl:=@Classical.not_not
abbrev ydm:=@List.idxOf_append
abbrev ydn:=@Nat.lt_trichotomy
abbrev ydo:=@List.sublist_append_right
abbrev ydp:=@List.pairwise_append
abbrev ydq:=@Bool.not_false
abbrev ydr:=@List.flatMap_nil
abbrev yds:=@Nat.max_eq_right
abbrev ydt:=@List.toList_toArray
abbrev ydu:=@Int.toNat_of_nonneg
abbrev ydv:=@Nat.max_eq_left
abbrev ydw:=@List.map_singleton
abbrev ydx:=@List.sublist_cons_self
abbrev ydy:=@Bool.not_eq_true'
abbrev ydz:=@List.pairwise_map
abbrev yd0:=@List.foldl_append
abbrev yd1:=@Nat.le_of_eq
abbrev yd2:=@List.drop_zero
abbrev yd3:=@List.mem_flatten
abbrev yd4:=@Nat.le_of_not_lt
abbrev yd5:=@List.take_prefix
abbrev yd6:=@List.nodup_range
abbrev yd7:=@Nat.div_le_div_right
abbrev yd8:=@List.map_drop
abbrev yd9:=@Nat.add_sub_cancel
abbrev yea:=@Nat.sub_zero
abbrev yeb:=@Nat.mul_comm
abbrev yec:=@Bool.false_eq_true
abbrev yed:=@Option.isSome_none
abbrev yee:=@List.countP_append
abbrev yef:=@Nat.mod_lt
abbrev yeg:=@List.take_zero
abbrev yeh:=@Nat.mul_le_mul
abbrev yei:=@List.getElem?_cons_succ
abbrev yej:=@Nat.add_sub_cancel_left
abbrev yek:=@List.prefix_iff_eq_take
abbrev yel:=@Int.eq_ofNat_of_zero_le
abbrev yem:=@List.length_pos_of_mem
abbrev yen:=@List.take_append
abbrev yeo:=@List.map_toArray
abbrev yep:=@List.any_eq_true
abbrev yeq:=@List.getElem?_toArray
abbrev yer:=@List.filterMap_append
abbrev yet:=@Classical.choose_spec
abbrev yeu:=@List.take_append_drop
abbrev yev:=@List.countP_le_length
abbrev yew:=@Nat.div_add_mod
abbrev yex:=@Bool.or_eq_true
abbrev yey:=@List.drop_append_of_le_length
abbrev yez:=@Array.length_toList
abbrev ye0:=@Nat.testBit_or
abbrev ye1:=@List.set_cons_zero
abbrev ye2:=@List.set_cons_succ
abbrev ye3:=@List.prefix_append
abbrev ye4:=@Option.isSome_some
abbrev ye5:=@Array.getElem?_append_left
abbrev ye6:=@List.map_take
abbrev ye7:=@Array.ext'
abbrev ye8:=@Array.mapM_eq_mapM_toList
abbrev ye9:=@List.getElem?_eq_none_iff
abbrev yfa:=@List.not_mem_nil
abbrev yfb:=@Option.isSome_iff_exists
abbrev yfc:=@List.map_set
abbrev yfd:=@List.drop_length
abbrev yfe:=@List.length_erase_of_mem
abbrev yff:=@Option.getD_none
abbrev yfg:=@Nat.le_of_lt
abbrev yfh:=@Nat.succ_pos
abbrev yfi:=@List.pairwise_filterMap
abbrev yfj:=@Classical.axiomOfChoice
abbrev yfk:=@Bool.eq_iff_iff
abbrev yfl:=@Nat.one_mul
abbrev yfm:=@List.take_take
abbrev yfn:=@List.all_cons
abbrev yfo:=@Bool.false_or
abbrev yfp:=@List.sum_cons
abbrev yfq:=@Nat.lt_irrefl
end
def zkA{p:Prop}[Decidable p](h:¬p):decide p=false:=decide_eq_false h
def zkB{p:Prop}[Decidable p](h:p):decide p=true:=decide_eq_true h
def zkC{α:Sort _}(a b:α):cond false a b=b:=rfl
def zkD{α:Sort _}(a b:α):cond true a b=a:=rfl
def zkE{n m:Nat}(h:Nat.ble n m=true):n<=m:=Nat.le_of_ble_eq_true h
def zkF{α:Type _}(a b:α):(some a=some b)=(a=b):=Option.some.injEq a b
def zkG{α:Type _}{β:Type _}(a:α)(b:β)(c:α)(d:β):((a,b)=(c,d))=(a=c/\b=d):=Prod.mk.injEq a b c d
def zkH{α:Type _}{l:List α}{i:Nat}{a:α}(h:l[i]?=some a):a∈l:=List.mem_of_getElem? h
def zkI{α:Type _}{l:List α}{i:Nat}{a:α}:l[i]?=some a↔∃h:i<l.length,l[i]=a:=List.getElem?_eq_some_iff
def zkJ{α:Type _}{a b:List α}:(a++b).length=a.length+b.length:=List.length_append
def zkK{α:Type _}{β:Type _}{l:List α}(f:α->β):(l.map f).length=l.length:=List.length_map f
def zkL{α:Type _}{a:α}{l:List α}:(a::l).length=l.length+1:=List.length_cons
def zkM{α:Type _}{l:List α}{i:Nat}(h:i<l.length):l[i]?=some l[i]:=List.getElem?_eq_getElem h
open Go.RowKit
def ziq{α:Type}{l:List α}{k:Nat}{x d:α}(h:l[k]?=some x):l.getD k d=x:=by simp[ybj,h]
def addr_add(b o j:Nat):(⟨b,o,none⟩:Addr).add j=⟨b,o+j,none⟩:=by
 unfold Addr.add;split
 ·rename_i h;subst h;rfl
 ·rfl
end
section
open Go.RowKit
inductive IV where
 |val (v:Value)
 |ex (v:Value)
 |any
 |sl (es:List (List IV))
 |agg (cs:List IV)
 |ref (cs:List IV)
 |fn (f:FuncId) (caps:List IV)
 |nsl (es:List (List IV))
inductive AV where
 |im (x:IV)
 |own (o g i:Nat)
 |osl (o g:Nat)
 |elt (o g k i j:Nat)
 |sub (o g i:Nat)
 |elt2 (o g i k j c:Nat)
 |osv (o g k m:Nat)
 |full (es:List (List IV))
 |fn (f:FuncId) (caps:List AV)
 |agg (cs:List AV)
 |tup (cs:List AV)
inductive Kd where
 |dead
 |box (t:TypeId) (m:Nat)
 |row (e:TypeId) (k:Nat) (es:List (List IV))
 |grid (e e':TypeId) (k:Nat) (gs:List (List IV)) (hole:Option Nat)
 |map (l:List (Value×Value))
 |bag (t e:TypeId) (k:Nat) (l:List (Nat×List IV×List (List IV))) (hole:Option Nat)
 |mapI (left:List IV) (cur:Option IV)
 |que (e:TypeId) (k:Nat) (es:List (List IV))
def esOf:Kd->Option (List (List IV))
 | .row _ _ es=>some es
 | .que _ _ es=>some es
 |_=>none
def isQue:Kd->Bool
 | .que _ _ _=>true
 |_=>false
inductive Loc where
 |tmp (t:Nat)
 |gen (o:Nat)
 |ign (o:Nat)
 |knd (o:Nat)
 |cel (o i:Nat)
 deriving DecidableEq
def Loc.eqb:Loc->Loc->Bool
 | .tmp a,.tmp b=>Nat.beq a b
 | .gen a,.gen b=>Nat.beq a b
 | .ign a,.ign b=>Nat.beq a b
 | .knd a,.knd b=>Nat.beq a b
 | .cel a i,.cel b j=>Nat.beq a b&&Nat.beq i j
 |_,_=>false
def Loc.eqb_iff(a b:Loc):a.eqb b=true↔a=b:=by
 cases a<;>cases b<;>simp[Loc.eqb]
def Loc.code:Loc->Nat
 | .tmp t=>Nat.mul 5 t
 | .gen t=>Nat.succ (Nat.mul 5 t)
 | .knd t=>Nat.add (Nat.mul 5 t) 2
 | .cel t j=>Nat.add (Nat.mul 5 (Nat.add (Nat.mul 16 t) j)) 3
 | .ign t=>Nat.add (Nat.mul 5 t) 4
inductive Ct where
 |av (a:AV)
 |n (g:Nat)
 |kd (k:Kd)
def St:Type:=Loc->Ct
def upd(σ:St)(l:Loc)(c:Ct):St:=λl'=>match l'.eqb l with|true=>c|false=>σ l'
def zd8(σ:St)(l:Loc)(c:Ct)(l':Loc):upd σ l c l'=if l'=l then c else σ l':=by
 unfold upd;by_cases h:l'=l
 ·rw[if_pos h,(Loc.eqb_iff l' l).2 h]
 ·rw[if_neg h];cases e:l'.eqb l with
  |true=>exact absurd ((Loc.eqb_iff l' l).1 e) h
  |false=>rfl
def app(σ:St):List (Loc×Ct)->St
 |[]=>σ
 |(l,c)::wr=>app (upd σ l c) wr
def St.av(σ:St)(t:Nat):AV:=match σ (.tmp t) with|.av a=>a|_=>.im .any
def St.gn(σ:St)(o:Nat):Nat:=match σ (.gen o) with|.n g=>g|_=>0
def St.ig(σ:St)(o:Nat):Nat:=match σ (.ign o) with|.n g=>g|_=>0
def St.kd(σ:St)(o:Nat):Kd:=match σ (.knd o) with|.kd k=>k|_=>.dead
def St.ce(σ:St)(o i:Nat):AV:=match σ (.cel o i) with|.av a=>a|_=>.im .any
section
variable (σ:St)
def zeq:app σ []=σ:=rfl
def zb6(p:Loc×Ct)(wr:List (Loc×Ct)):app σ (p::wr)=app (upd σ p.1 p.2) wr:=rfl
def zqv(d t:Nat)(v:AV):(upd σ (.tmp d) (.av v)).av t=if t=d then v else σ.av t:=by
 unfold St.av;rw[zd8];by_cases h:t=d
 ·subst h;simp
 ·simp[h]
def av_gen(o t:Nat)(c:Ct):(upd σ (.gen o) c).av t=σ.av t:=by simp[St.av,zd8]
def av_ign(o t:Nat)(c:Ct):(upd σ (.ign o) c).av t=σ.av t:=by simp[St.av,zd8]
def ig_ign(o t g:Nat):(upd σ (.ign o) (.n g)).ig t=if t=o then g else σ.ig t:=by
 unfold St.ig;rw[zd8];by_cases h:t=o
 ·subst h;simp
 ·simp[h]
def ig_tmp(d t:Nat)(c:Ct):(upd σ (.tmp d) c).ig t=σ.ig t:=by simp[St.ig,zd8]
def ig_gen(d t:Nat)(c:Ct):(upd σ (.gen d) c).ig t=σ.ig t:=by simp[St.ig,zd8]
def zh7(d t:Nat)(c:Ct):(upd σ (.knd d) c).ig t=σ.ig t:=by simp[St.ig,zd8]
def ig_cel(d i t:Nat)(c:Ct):(upd σ (.cel d i) c).ig t=σ.ig t:=by simp[St.ig,zd8]
def gn_ign(d t:Nat)(c:Ct):(upd σ (.ign d) c).gn t=σ.gn t:=by simp[St.gn,zd8]
def kd_ign(d t:Nat)(c:Ct):(upd σ (.ign d) c).kd t=σ.kd t:=by simp[St.kd,zd8]
def ce_ign(d p j:Nat)(c:Ct):(upd σ (.ign d) c).ce p j=σ.ce p j:=by simp[St.ce,zd8]
def zg8(o t:Nat)(c:Ct):(upd σ (.knd o) c).av t=σ.av t:=by simp[St.av,zd8]
def av_cel(o i t:Nat)(c:Ct):(upd σ (.cel o i) c).av t=σ.av t:=by simp[St.av,zd8]
def gn_gen(o t g:Nat):(upd σ (.gen o) (.n g)).gn t=if t=o then g else σ.gn t:=by
 unfold St.gn;rw[zd8];by_cases h:t=o
 ·subst h;simp
 ·simp[h]
def gn_tmp(d t:Nat)(c:Ct):(upd σ (.tmp d) c).gn t=σ.gn t:=by simp[St.gn,zd8]
def zfe(d t:Nat)(c:Ct):(upd σ (.knd d) c).gn t=σ.gn t:=by simp[St.gn,zd8]
def gn_cel(d i t:Nat)(c:Ct):(upd σ (.cel d i) c).gn t=σ.gn t:=by simp[St.gn,zd8]
def zei(o t:Nat)(k:Kd):(upd σ (.knd o) (.kd k)).kd t=if t=o then k else σ.kd t:=by
 unfold St.kd;rw[zd8];by_cases h:t=o
 ·subst h;simp
 ·simp[h]
def kd_tmp(d t:Nat)(c:Ct):(upd σ (.tmp d) c).kd t=σ.kd t:=by simp[St.kd,zd8]
def kd_gen(d t:Nat)(c:Ct):(upd σ (.gen d) c).kd t=σ.kd t:=by simp[St.kd,zd8]
def kd_cel(d i t:Nat)(c:Ct):(upd σ (.cel d i) c).kd t=σ.kd t:=by simp[St.kd,zd8]
def ce_cel(o i p j:Nat)(v:AV):(upd σ (.cel o i) (.av v)).ce p j=if p=o/\j=i then v else σ.ce p j:=by
 unfold St.ce;rw[zd8];by_cases h:p=o/\j=i
 ·obtain⟨rfl,rfl⟩:=h;simp
 ·simp[h]
def ce_tmp(d p j:Nat)(c:Ct):(upd σ (.tmp d) c).ce p j=σ.ce p j:=by simp[St.ce,zd8]
def ce_gen(d p j:Nat)(c:Ct):(upd σ (.gen d) c).ce p j=σ.ce p j:=by simp[St.ce,zd8]
def zh1(d p j:Nat)(c:Ct):(upd σ (.knd d) c).ce p j=σ.ce p j:=by simp[St.ce,zd8]
end
inductive RepI(w:World)(S:Nat->Prop):Value->IV->Prop
 |val (v:Value):RepI w S v (.val v)
 |ex (v:Value) (h1:v.oneCell'=true):RepI w S v (.ex v)
 |any (v:Value):RepI w S v .any
 |emp (A:Option Addr) (c:Nat):RepI w S (.slice A 0 c) (.sl [])
 |sl (b o c k n:Nat) (es:List (List IV)) (us:List Value) (hn:es.length=n) (hk:∀e∈es,e.length=k) (hc:n<=c) (hs:n<=17592186044416) (hS:S b)
   (hl:us.length=es.flatten.length) (h1:∀u∈us,u.oneCell'=true) (hu:∀(i:Nat) u,us[i]?=some u->w.cell? ⟨b,o+i,none⟩=some u)
   (hr:∀(i:Nat) u x,us[i]?=some u->es.flatten[i]?=some x->RepI w S u x):RepI w S (.slice (some ⟨b,o,none⟩) n c) (.sl es)
 |agg (us:List Value) (cs:List IV) (hl:us.length=cs.length) (h1:∀u∈us,u.oneCell'=true) (hr:∀(i:Nat) u x,us[i]?=some u->cs[i]?=some x->RepI w S u x):RepI w S (.agg us.toArray) (.agg cs)
 |ref (b o:Nat) (us:List Value) (cs:List IV) (hS:S b) (hl:us.length=cs.length) (h1:∀u∈us,u.oneCell'=true) (hu:∀(i:Nat) u,us[i]?=some u->w.cell? ⟨b,o+i,none⟩=some u)
   (hr:∀(i:Nat) u x,us[i]?=some u->cs[i]?=some x->RepI w S u x):RepI w S (.pointer (some ⟨b,o,none⟩)) (.ref cs)
 |fn (f:FuncId) (us:List Value) (cs:List IV) (hl:us.length=cs.length) (hr:∀(i:Nat) u x,us[i]?=some u->cs[i]?=some x->RepI w S u x):RepI w S (.func (.func f) #[] us.toArray) (.fn f cs)
 |nsl (a:Addr) (n c:Nat) (es:List (List IV)) (h:RepI w S (.slice (some a) n c) (.sl es)):RepI w S (.slice (some a) n c) (.nsl es)
structure Ly where
 root:Nat->Value
 inn:Nat->List Value
 ig:Nat->Nat
instance:CoeFun Ly (λ_=>Nat->Value):=⟨Ly.root⟩
inductive RepA(w:World)(S:Nat->Prop)(ρ:Ly)(γ:Nat->Nat):Value->AV->Prop
 |im (v:Value) (x:IV) (h:RepI w S v x):RepA w S ρ γ v (.im x)
 |own (v:Value) (o g i:Nat) (h1:v.oneCell'=true) (hg:g<=γ o) (h:γ o=g->∃b,ρ o=.pointer (some ⟨b,0,none⟩)/\v=.pointer (some ⟨b,i,none⟩)):RepA w S ρ γ v (.own o g i)
 |osl (v:Value) (o g:Nat) (h1:v.oneCell'=true) (hg:g<=γ o) (h:γ o=g->v=ρ o):RepA w S ρ γ v (.osl o g)
 |elt (v:Value) (o g k i j:Nat) (h1:v.oneCell'=true) (hg:g<=γ o) (h:γ o=g->∃b q n c,ρ o=.slice (some ⟨b,q,none⟩) n c/\v=.pointer (some ⟨b,q+(i*k+j),none⟩)):RepA w S ρ γ v (.elt o g k i j)
 |sub (v:Value) (o g i:Nat) (h1:v.oneCell'=true) (hg:g<=ρ.ig o) (h:ρ.ig o=g->(ρ.inn o)[i]?=some v):RepA w S ρ γ v (.sub o g i)
 |elt2 (v:Value) (o g i k j c:Nat) (h1:v.oneCell'=true) (hg:g<=ρ.ig o) (h:ρ.ig o=g->∃b n cp,(ρ.inn o)[i]?=some (.slice (some ⟨b,0,none⟩) n cp)/\v=.pointer (some ⟨b,j*k+c,none⟩)):RepA w S ρ γ v (.elt2 o g i k j c)
 |osv (v:Value) (o g k m:Nat) (h1:v.oneCell'=true) (hg:g<=γ o) (h:γ o=g->∃b n c,ρ o=.slice (some ⟨b,0,none⟩) n c/\k<=n/\v=.slice (if c=k then some ⟨b,0,none⟩ else some ⟨b,k*m,none⟩) (n-k) (c-k)):RepA w S ρ γ v (.osv o g k m)
 |full (A:Option Addr) (n:Nat) (es:List (List IV)) (h:RepI w S (.slice A n n) (.sl es)):RepA w S ρ γ (.slice A n n) (.full es)
 |fn (f:FuncId) (us:List Value) (cs:List AV) (hl:us.length=cs.length) (hr:∀(i:Nat) u x,us[i]?=some u->cs[i]?=some x->RepA w S ρ γ u x):RepA w S ρ γ (.func (.func f) #[] us.toArray) (.fn f cs)
 |agg (us:List Value) (cs:List AV) (hl:us.length=cs.length) (h1:∀u∈us,u.oneCell'=true) (hr:∀(i:Nat) u x,us[i]?=some u->cs[i]?=some x->RepA w S ρ γ u x):RepA w S ρ γ (.agg us.toArray) (.agg cs)
 |tup (us:List Value) (cs:List AV) (hl:us.length=cs.length) (hr:∀(i:Nat) u x,us[i]?=some u->cs[i]?=some x->RepA w S ρ γ u x):RepA w S ρ γ (.tuple us.toArray) (.tup cs)
structure Base where
 w0:World
 S0:Nat->Prop
 n:Nat
 G:Nat->Prop
 Z:Nat->Prop
 L:Nat->Option Value
 ds:List Deferred
def Mine(B:Base)(b:Nat):Prop:=B.w0.heap.size<=b\/B.G b
structure Belo(G:Nat->Prop)(n:Nat)(w w':World):Prop where
 os:w'.os=w.os
 tape:w'.tape=w.tape
 output:w'.output=w.output
 size:w.heap.size<=w'.heap.size
 block:∀k,k<n->¬G k->w'.heap[k]?=w.heap[k]?
def Belo.of{G:Nat->Prop}{n:Nat}{w w':World}(h:Below n w w'):Belo G n w w':=⟨h.os,h.tape,h.output,h.size,λk hk _=>h.block k hk⟩
def Belo.below{G:Nat->Prop}{n:Nat}{w w':World}(h:Belo G n w w')(hG:∀b,¬G b):Below n w w':=⟨h.os,h.tape,h.output,h.size,λk hk=>h.block k hk (hG k)⟩
def Belo.refl(G:Nat->Prop)(n:Nat)(w:World):Belo G n w w:=.of (Below.refl n w)
def Belo.trans{G:Nat->Prop}{n:Nat}{a b c:World}(h:Belo G n a b)(k:Belo G n b c):Belo G n a c :=
 ⟨k.os.trans h.os,k.tape.trans h.tape,k.output.trans h.output,ycg h.size k.size,λi hi hg=>(k.block i hi hg).trans (h.block i hi hg)⟩
def zb3:Value->Option Nat
 | .pointer (some a)=>some a.block
 | .slice (some a) _ _=>some a.block
 | .map (some b)=>some b
 |_=>none
def live(σ:St)(o:Nat):Prop:=σ.kd o≠.dead
def fpv(v:Value)(inn:List Value):List Nat:=(v::inn).filterMap zb3
def fpk(v:Value)(inn:List Value):Kd->List Nat
 | .dead=>[]
 | .grid _ _ _ _ _=>fpv v inn
 | .bag _ _ _ _ _=>fpv v inn
 | .mapI _ _=>fpv v inn
 |_=>(zb3 v).toList
def Owns(σ:St)(ρ:Ly)(o b:Nat):Prop:=b∈fpk (ρ o) (ρ.inn o) (σ.kd o)
def Imm(B:Base)(σ:St)(ρ:Ly)(w:World)(b:Nat):Prop :=
 (B.S0 b\/Mine B b)/\b<w.heap.size/\(∀o,¬Owns σ ρ o b)/\¬B.Z b
def zg7(w:World)(S:Nat->Prop)(v:Value)(e:TypeId)(k:Nat)(es:List (List IV)):Prop :=
 ∃us:List Value,0<k/\(∀x∈es,x.length=k)/\es.length<=17592186044416/\w.ownsRow 0 e k v es.length us/\us.length=es.flatten.length/\(∀u∈us,u.oneCell'=true) /\
  ∀(i:Nat) u x,us[i]?=some u->es.flatten[i]?=some x->RepI w S u x
def zj3(w:World)(S:Nat->Prop)(v:Value)(e:TypeId)(k:Nat)(es:List (List IV)):Prop :=
 ∃us:List Value,0<k/\(∀x∈es,x.length=k)/\es.length<=17592186044416/\us.length=es.flatten.length/\(∀u∈us,u.oneCell'=true) /\
  (∀(i:Nat) u x,us[i]?=some u->es.flatten[i]?=some x->RepI w S u x) /\
  ((v=.slice none 0 0/\es=[])\/∃(q off cap:Nat) (cur:Array Value),v=.slice (some ⟨q,off,none⟩) es.length cap/\w.heap[q]?=some (.cells cur e (0,0))/\es.length<=cap/\cap<=maxLen/\off+cap*k<=cur.size/\∀(j:Nat) u,us[j]?=some u->cur[off+j]?=some u)
def zig(w:World)(S:Nat->Prop)(v:Value)(inn:List Value)(e e':TypeId)(k:Nat)(gs:List (List IV))(hole:Option Nat):Prop :=
 (fpv v inn).Nodup/\inn.length=gs.length/\∃us:List Value,gs.length<=17592186044416/\w.ownsRow 0 e 1 v gs.length us/\(∀u∈us,u.oneCell'=true) /\
  ∀(i:Nat) u,inn[i]?=some u->(hole=some i/\u=undef)\/(us[i]?=some u/\∃es,gs[i]?=some [.sl es]/\zg7 w S u e' k es)
def zoo(es:Array MapEntry)(clock:Nat):Prop:=(∀x∈es.toList,x.born<clock)/\(es.toList.map (·.born)).Nodup
def zdq(w:World)(S:Nat->Prop)(v:Value)(inn:List Value):Kd->Prop
 | .row e k es=>zg7 w S v e k es
 | .que e k es=>zj3 w S v e k es
 | .grid e e' k gs hole=>zig w S v inn e e' k gs hole
 | .map l=>∃(b clock:Nat) (es:Array MapEntry),v=.map (some b)/\w.heap[b]?=some (.map es clock)/\es.toList.map (λe=>(e.key,e.val))=l/\zoo es clock
 |_=>False
abbrev pv(b:Nat):Value:=.pointer (some ⟨b,0,none⟩)
def EntOk(w:World)(S:Nat->Prop)(t e:TypeId)(k:Nat)(g:Nat×List IV×List (List IV))(row:Value):Prop :=
 ∃us:List Value,w.heap[g.1]?=some (.cells (us++[row]).toArray t (0,0))/\us.length=g.2.1.length/\(∀u∈us,u.oneCell'=true) /\
  (∀(i:Nat) u x,us[i]?=some u->g.2.1[i]?=some x->RepI w S u x)/\zg7 w S row e k g.2.2
def zpq(w:World)(S:Nat->Prop)(v:Value)(inn:List Value)(t e:TypeId)(k:Nat)(l:List (Nat×List IV×List (List IV))):Prop :=
 zb3 v=none/\(fpv v inn).Nodup/\∃rows:List Value,rows.length=l.length/\inn=(l.map λg=>pv g.1)++rows/\∀(i:Nat) g row,l[i]?=some g->rows[i]?=some row->EntOk w S t e k g row
def GoOk(w:World)(S:Nat->Prop)(v:Value)(inn:List Value)(left:List IV)(cur:Option IV):Prop :=
 ∃(b r clock since c0:Nat) (es:Array MapEntry) (seen:Array Nat) (rd:MapEntry->IV),v=.map (some b)/\inn=[.pointer (some ⟨r,0,none⟩)]/\r≠b/\w.heap[b]?=some (.map es clock)/\w.heap[r]?=some (.mapIter (some b) since seen c0) /\
  (∀x∈es.toList,x.born<since)/\since<=c0/\since<=clock/\(es.toList.map (·.born)).Nodup/\(∀x∈es.toList,RepI w S x.val (rd x))/\left=(es.toList.filter λx=>!seen.contains x.born).map rd /\
  ∀y,cur=some y->c0=clock/\∃(s0:Array Nat) (e:MapEntry),seen=s0.push e.born/\e∈es.toList/\rd e=y
def zkl(B:Base)(σ:St)(ρ:Ly)(w:World)(o:Nat):Kd->Prop
 | .dead=>True
 | .box t m=>∃(b:Nat) (us:List Value),ρ o=.pointer (some ⟨b,0,none⟩)/\w.heap[b]?=some (.cells us.toArray t (0,0))/\us.length=m/\(∀u∈us,u.oneCell'=true) /\
   ∀(i:Nat) u,us[i]?=some u->RepA w (Imm B σ ρ w) ρ σ.gn u (σ.ce o i)
 | .bag t e k l hole=>zpq w (Imm B σ ρ w) (ρ o) (ρ.inn o) t e k l/\∀p,hole=some p->RepA w (Imm B σ ρ w) ρ σ.gn (pv p) (σ.ce o 0)
 | .mapI left cur=>GoOk w (Imm B σ ρ w) (ρ o) (ρ.inn o) left cur
 |k=>zdq w (Imm B σ ρ w) (ρ o) (ρ.inn o) k
structure SatR(B:Base)(σ:St)(a:Act)(w:World)(ρ:Ly):Prop where
 bel:Belo B.G B.w0.heap.size B.w0 w
 obs:∀o,zkl B σ ρ w o (σ.kd o)
 own:∀o b,Owns σ ρ o b->Mine B b/\b<w.heap.size
 dis:∀o p b,Owns σ ρ o b->Owns σ ρ p b->o=p
 tms:∀t,RepA w (Imm B σ ρ w) ρ σ.gn (a.tmps.getD t undef) (σ.av t)
 igs:∀o,ρ.ig o=σ.ig o
 res:∀b,B.Z b->(Mine B b/\b<w.heap.size)/\∀o,¬Owns σ ρ o b
 rt:∀o v,B.L o=some v->σ.gn o=0->ρ o=v
 siz:a.tmps.size=B.n
 dfr:a.defers=B.ds
def Sat(B:Base)(σ:St)(a:Act)(w:World):Prop:=∃ρ,SatR B σ a w ρ
def Ent(σ σ':St):Prop:=∀B a w,Sat B σ a w->Sat B σ' a w
def Holds(σ:St)(φ:Prop):Prop:=∀B a w,Sat B σ a w->φ
def zb7(body:(Exit->St->Prop)->St->Prop)(K:Exit->St->Prop)(σ:St):Prop :=
 ∃(I:Nat->St->Prop) (m:Nat),I m σ/\∀m σ,I m σ->∃σ1 φ,Ent σ σ1/\Holds σ1 φ/\(φ->body (λe σ'=>match e with|.normal=>∃m',m'<m/\I m' σ'|e=>K e σ') σ1)
structure Fx where
 rd:List Loc
 wr:List (Loc×Ct)
abbrev vI(n:Int):AV:=.im (.val (.int .i64 n))
abbrev vB(b:Bool):AV:=.im (.val (.bool b))
def splice{α:Type}(e:List α)(j:Nat)(xs:List α):List α:=e.take j++xs++e.drop (j+xs.length)
def Side(A B:Prop):Prop:=A/\B
def Both(b:Bool)(A B:Prop):Prop:=(b=true->A)/\(b=false->B)
def Chk(b:Bool)(A:Prop):Prop:=match b with|true=>A|false=>False
def Nf{α:Type}(a:α)(F:α->Prop):Prop:=∃b,b=a/\F b
def Cut(body:(St->Prop)->Prop)(rest:St->Prop):Prop:=∃Post:St->Prop,body (λσ'=>∃σ1,Ent σ' σ1/\Post σ1)/\∀σ,Post σ->∃φ,Holds σ φ/\(φ->rest σ)
def Nf.mk{α:Type}{a:α}{F:α->Prop}(b:α)(h:b=a)(k:F b):Nf a F:=⟨b,h,k⟩
def Side.mk{A B:Prop}(a:A)(b:B):Side A B:=⟨a,b⟩
def Both.mk{b:Bool}{A B:Prop}(h:b=true->A)(k:b=false->B):Both b A B:=⟨h,k⟩
def Both.yes{b:Bool}{A B:Prop}(e:b=true)(h:A):Both b A B:=⟨λ_=>h,λe'=>absurd (e.symm.trans e') (by decide)⟩
def Both.no{b:Bool}{A B:Prop}(e:b=false)(h:B):Both b A B:=⟨λe'=>absurd (e.symm.trans e') (by decide),λ_=>h⟩
def Chk.ok{b:Bool}{A:Prop}(h:Chk b A):b=true/\A:=by
 cases b with
 |true=>exact⟨rfl,h⟩
 |false=>exact False.elim h
def opd:Operand->List Loc
 | .tmp t=>[.tmp t]
 |_=>[]
def evA(σ:St):Operand->AV
 | .tmp t=>σ.av t
 | .const v=>.im (.val v)
 | .func f=>.im (.fn f [])
 | .global _=>.im .any
def wrT:Option Tmp->AV->List (Loc×Ct)
 |some d,v=>[(.tmp d,.av v)]
 |none,_=>[]
def toIVs:List AV->Option (List IV)
 |[]=>some []
 | .im x::l=>(toIVs l).map (x::·)
 |_::_=>none
def aggA(cs:List AV):AV:=match toIVs cs with|some l=>.im (.agg l)|none=>.agg cs
def zl1:AV->Option (List AV)
 | .im (.agg cs)=>some (cs.map .im)
 | .im (.val v)=>if v.cells.toList.all (·.oneCell')=true then some (v.cells.toList.map λu=>.im (.val u)) else none
 | .agg cs=>some cs
 | .im .any=>none
 | .tup _=>none
 |v=>some [v]
def aggCs:AV->Option (List AV)
 | .im (.agg cs)=>some (cs.map .im)
 | .im (.val (.agg vs))=>if vs.toList.all (·.oneCell')=true then some (vs.toList.map λu=>.im (.val u)) else none
 | .agg cs=>some cs
 |_=>none
def szOf(P:Program)(t:TypeId):Option Nat:=(P.info? t).map (·.size)
def zma(P:Program)(t:TypeId):Option Bool:=(P.underlying t).map λd=>match d with|.struct _|.array ..=>true|_=>false
def fldOf(P:Program)(t:TypeId)(f:Nat):Option (Nat×TypeId):=match P.underlying t with|some (.struct fs)=>(fs[f]?).map λx=>(x.offset,x.type)|_=>none
def zgc(P:Program)(t:TypeId):Option TypeId:=match P.underlying t with|some (.slice e)=>some e|_=>none
def zeroOf(P:Program)(t:TypeId):Option (List Value):=match P.info? t with|some i=>i.zero.map λz=>z.cells.toList|_=>none
def arrOf(P:Program)(t:TypeId):Option (Nat×TypeId):=match P.underlying t with|some (.array n e)=>some (n,e)|_=>none
def zsc(P:Program)(t:TypeId):Option (TypeId×TypeId):=match P.underlying t with
 |some (.map k e)=>some (k,e)
 |_=>none
def intArr(P:Program)(t:TypeId):Option Nat:=match arrOf P t with
 |some (n,e)=>match P.underlying e,szOf P e with
  |some (.int .i64),some 1=>some n
  |_,_=>none
 |none=>none
def byteOf(P:Program)(t:TypeId):Option Nat:=(P.info? t).map (·.bytes)
def inR(n:Int):Prop:=-9223372036854775808<=n/\n<=9223372036854775807
inductive Oc where
 |im (x:IV)
 |ow (k:Kd)
inductive Arg where
 |im (x:IV)
 |ow (k:Kd)
 |box (t:TypeId) (cs:List Oc)
 |lent (k:Kd)
instance:Coe IV Arg:=⟨.im⟩
@[match_pattern] abbrev Arg.row(e:TypeId)(k:Nat)(es:List (List IV)):Arg:=.ow (.row e k es)
inductive Rs where
 |mk (tp:Bool) (l:List Oc) (ys:List Arg)
abbrev Rs.im(x:IV):Rs:=.mk false [.im x] []
abbrev Rs.row(e:TypeId)(k:Nat)(es:List (List IV)):Rs:=.mk false [.ow (.row e k es)] []
abbrev Rs.tup(l:List IV):Rs:=.mk true (l.map .im) []
def zsw:Oc->Prop
 | .im x=>(∃v,x=.val v)\/∃cs,x=.agg cs/\∀c∈cs,∃v,c=.val v
 | .ow (.row _ _ es)=>∀e∈es,∀x∈e,∃v,x=.val v
 | .ow (.map _)=>True
 |_=>False
def flatArg:Arg->Prop
 | .box _ cs=>∀c∈cs,zsw c
 | .lent k=>zsw (.ow k)
 |_=>False
def flatRs:Rs->Prop
 | .mk _ l ys=>(∀c∈l,zsw c)/\∀y∈ys,flatArg y
def zd2(σ:St)(o:Nat)(k:Kd):List (Loc×Ct):=[(.gen o,.n (σ.gn o+1)),(.knd o,.kd k)]
def zfq(σ:St)(o:Nat)(k:Kd):List (Loc×Ct):=match k with
 | .grid _ _ _ _ _=>(.ign o,.n (σ.ig o+1))::zd2 σ o k
 |_=>zd2 σ o k
def nmB(i j:Nat):Nat:=Nat.add (Nat.add 2000 (Nat.mul 64 i)) j
def nmC(i j:Nat):Nat:=Nat.add (Nat.add 5000 (Nat.mul 64 i)) j
def nmR(d i:Nat):Nat:=Nat.add (Nat.add 3100 (Nat.mul 4 d)) i
def ocPl(σ:St)(nm:Nat):Oc->AV×List (Nat×Kd)
 | .im x=>(.im x,[])
 | .ow k=>(.osl nm (σ.gn nm+1),[(nm,k)])
def zcc(σ:St)(f:Nat->Nat):Nat->List Oc->List AV×List (Nat×Kd)
 |_,[]=>([],[])
 |i,c::l=>match ocPl σ (f i) c,zcc σ f (i+1) l with|(a,s),(al,ss)=>(a::al,s++ss)
def zc7(σ:St):List (Nat×Kd)->List (Loc×Ct)
 |[]=>[]
 |p::l=>zfq σ p.1 p.2++zc7 σ l
def zks:List (Nat×Kd)->List Loc
 |[]=>[]
 |p::l=>.gen p.1::.ign p.1::zks l
def nz1:IV->IV
 | .val (.slice none 0 0)=>.sl []
 | .val (.map none)=>.any
 | .nsl es=>.sl es
 |x=>x
def nz:IV->IV
 | .agg cs=>.agg (cs.map nz1)
 | .val (.agg vs)=>if vs.toList.all (·.oneCell')=true then .agg (vs.toList.map λv=>nz1 (.val v)) else .any
 |x=>nz1 x
def mkZ(own:List Nat)(d:Nat)(v:Value):IV:=match own.contains (9700000+d) with
 |true=>.val v
 |false=>nz1 (.val v)
def rowAt(gs:List (List IV))(i:Nat):List (List IV):=match gs[i]? with
 |some [.sl es]=>es
 |_=>[]
def fz1(σ:St):AV->Option (IV×yad)
 | .im x=>some (nz1 x,[])
 | .osl b g=>match σ.kd b with|.row _ _ es=>some (.sl es,[(b,g)])|.grid _ _ _ gs none=>some (.sl gs,[(b,g)])|.map _=>some (.any,[(b,g)])|_=>none
 | .sub b g i=>match σ.kd b,Nat.beq (σ.ig b) g with
  | .grid _ _ _ gs none,true=>some (.sl (rowAt gs i),[(b,σ.gn b)])
  |_,_=>none
 |_=>none
def fzL(σ:St):List AV->Option (List IV×yad)
 |[]=>some ([],[])
 |a::l=>match fz1 σ a,fzL σ l with|some (x,b),some (xs,bs)=>some (x::xs,b++bs)|_,_=>none
def zii(σ:St)(b:Nat):Nat:=match σ.kd b with|.box _ m=>m|_=>0
def zok(σ:St)(b:Nat):List AV:=(List.range (zii σ b)).map λi=>σ.ce b i
def fz2(σ:St):AV->Option (IV×yad)
 | .im x=>some (nz x,[])
 | .agg cs=>(fzL σ cs).map λp=>(.agg p.1,p.2)
 | .own b g i=>match σ.kd b with|.box _ _=>(fzL σ (zok σ b)).map λp=>(.ref (p.1.drop i),(b,g)::p.2)|_=>none
 |a=>fz1 σ a
def fzM(σ:St):List AV->Option (List IV×yad)
 |[]=>some ([],[])
 |a::l=>match fz2 σ a,fzM σ l with|some (x,b),some (xs,bs)=>some (x::xs,b++bs)|_,_=>none
def fz(σ:St):AV->Option (IV×yad)
 | .fn f caps=>(fzM σ caps).map λp=>(.fn f p.1,p.2)
 |a=>fz2 σ a
def boxRd(σ:St)(b:Nat):List Loc:=(List.range (zii σ b)).map λi=>.cel b i
def frd(σ:St)(bs:yad):List Loc:=bs.flatMap λb=>.gen b.1::.knd b.1::.ign b.1::boxRd σ b.1
def fwr(bs:yad):List (Loc×Ct):=bs.map λb=>(.knd b.1,.kd .dead)
def gok(σ:St):yad->Prop
 |[]=>True
 |(b,g)::bs=>σ.gn b=g/\gok σ bs
def zkj(σ:St)(bs:yad)(A:Prop):Prop:=match bs with|[]=>A|_::_=>Side (gok σ bs) A
def asInt:AV->Option (IntKind×Int)
 | .im (.val (.int k n))=>some (k,n)
 |_=>none
def asBool:AV->Option Bool
 | .im (.val (.bool b))=>some b
 |_=>none
def asStr:AV->Option ByteArray
 | .im (.val (.string s))=>some s
 |_=>none
def rng:IntKind->Int->Prop
 | .i64,n=>inR n
 | .u8,n=>0<=n/\n<=255
 | .u64,n=>0<=n/\n<=18446744073709551615
 |_,_=>False
def zbt(k:IntKind)(n:Int)(F:Int->Prop):Prop:=(rng k n/\F n)\/F (k.wrap n)
def zbt.mk{k:IntKind}{n:Int}{F:Int->Prop}(h:rng k n)(f:F n):zbt k n F:=.inl ⟨h,f⟩
def xorK(k:IntKind)(a b:Int):Int:=k.wrap (BitVec.ofInt k.bits a ^^^ BitVec.ofInt k.bits b).toNat
def za5(n bytes:Nat):Prop:=n*bytes<=140737488355328/\n<=17592186044416
section
variable (P:Program)(own:List Nat)(o:Oper)(σ:St)(K:Fx->Prop)
def aPick(c a b:Operand):Prop :=
 match asBool (evA σ c) with
 |some t=>Both t (K ⟨opd c++opd a++opd b,wrT o.dst (evA σ a)⟩) (K ⟨opd c++opd a++opd b,wrT o.dst (evA σ b)⟩)
 |none=>False
def aLoad(t:TypeId)(p:Operand):Prop :=
 match zma P t with
 |some false=>match evA σ p with
  | .im (.ref (c::_))=>K ⟨opd p,wrT o.dst (.im c)⟩
  | .own b g i=>Chk (Nat.blt i (zii σ b)) (Side (σ.gn b=g) (K ⟨opd p++[.gen b,.knd b,.cel b i],wrT o.dst (σ.ce b i)⟩))
  | .elt b g k i j=>match esOf (σ.kd b) with
   |some es=>∃e c,(σ.gn b=g/\es[i]?=some e/\e[j]?=some c/\e.length=k)/\K ⟨opd p++[.gen b,.knd b],wrT o.dst (.im c)⟩
   |_=>False
  |_=>False
 |some true=>match szOf P t with
  |some m=>match evA σ p with
   | .im (.ref cs)=>Chk (Nat.ble m cs.length) (K ⟨opd p,wrT o.dst (.im (.agg (cs.take m)))⟩)
   | .own b g i=>Chk (Nat.blt 0 m&&Nat.ble (i+m) (zii σ b)) (Side (σ.gn b=g) (K ⟨opd p++[.gen b,.knd b]++(List.range m).map (λj=>.cel b (i+j)),wrT o.dst (aggA ((List.range m).map λj=>σ.ce b (i+j)))⟩))
   | .elt b g k i j=>match esOf (σ.kd b) with
    |some es=>∃e,(σ.gn b=g/\es[i]?=some e/\j+m<=e.length/\e.length=k)/\K ⟨opd p++[.gen b,.knd b],wrT o.dst (.im (.agg ((e.drop j).take m)))⟩
    |_=>False
   |_=>False
  |none=>False
 |none=>False
def zfg(b:Nat):Nat->List AV->List (Loc×Ct)
 |_,[]=>[]
 |i,c::cs=>(.cel b i,.av c)::zfg b (i+1) cs
def aStore(t:TypeId)(p x:Operand):Prop :=
 match szOf P t,zl1 (evA σ x) with
 |some m,some cs=>Chk (Nat.beq cs.length m) (match evA σ p with
  | .own b g i=>Chk (Nat.blt 0 m&&Nat.ble (i+m) (zii σ b)) (Side (σ.gn b=g) (K ⟨opd p++opd x++[.gen b,.knd b],zfg b i cs++wrT o.dst (.im (.val undef))⟩))
  |_=>False)
 |_,_=>False
def aBox(t:TypeId)(x:Operand):Prop :=
 match o.dst,zl1 (evA σ x) with
 |some d,some cs=>match own.contains (700000+d) with
  |true=>match fzL σ cs with
   |some (xs,bs)=>zkj σ bs (K ⟨opd x++frd σ bs,fwr bs++[(.tmp d,.av (.im (.ref xs)))]⟩)
   |none=>False
  |false=>K ⟨opd x++[.gen d],zd2 σ d (.box t cs.length)++zfg d 0 cs++[(.tmp d,.av (.own d (σ.gn d+1) 0))]⟩
 |_,_=>False
def aAlloc(t:TypeId):Prop :=
 match o.dst,zeroOf P t with
 |some d,some cs=>Chk (cs.all (·.oneCell')) (K ⟨[.gen d],zd2 σ d (.box t cs.length)++zfg d 0 (cs.map λv=>.im (.val v))++[(.tmp d,.av (.own d (σ.gn d+1) 0))]⟩)
 |_,_=>False
def aAllocA(t:TypeId):Prop :=
 match o.dst,zeroOf P t with
 |some d,some cs=>Chk (cs.all (·.oneCell')&&Nat.blt 0 cs.length&&Nat.ble cs.length 17592186044416)
   (Nf (cs.map λv=>[nz1 (.val v)]) λr=>K ⟨[.gen d],zd2 σ d (.row t 1 r)++[(.tmp d,.av (.elt d (σ.gn d+1) 1 0 0))]⟩)
 |_,_=>False
def aAllocs(t:TypeId):Prop:=match intArr P t with
 |some n=>match Nat.ble n 4 with
  |true=>aAlloc P o σ K t
  |false=>aAllocA P o σ K t
 |none=>aAlloc P o σ K t
def zov(t:TypeId)(p:Operand)(f:Nat):Prop :=
 match fldOf P t f with
 |some (off,ft)=>match szOf P ft with
  |some m=>Chk (Nat.blt 0 m) (match evA σ p with
   | .im (.ref cs)=>K ⟨opd p,wrT o.dst (.im (.ref (cs.drop off)))⟩
   | .own b g i=>Side (σ.gn b=g) (K ⟨opd p++[.gen b],wrT o.dst (.own b g (i+off))⟩)
   | .elt b g k i j=>Side (σ.gn b=g) (K ⟨opd p++[.gen b],wrT o.dst (.elt b g k i (j+off))⟩)
   |_=>False)
  |none=>False
 |none=>False
def aField(t:TypeId)(x:Operand)(f:Nat):Prop :=
 match fldOf P t f with
 |some (off,ft)=>match aggCs (evA σ x) with
  |some cs=>match zma P ft with
   |some false=>match cs[off]? with
    |some c=>K ⟨opd x,wrT o.dst c⟩
    |none=>False
   |some true=>match szOf P ft with
    |some m=>Chk (Nat.ble (off+m) cs.length) (K ⟨opd x,wrT o.dst (aggA ((cs.drop off).take m))⟩)
    |none=>False
   |none=>False
  |none=>False
 |none=>False
def zll(t:TypeId)(x i:Operand):Prop :=
 match asInt (evA σ i),zgc P t with
 |some (_,n),some et=>match evA σ x with
  | .im (.sl es)=>∃e,(0<=n/\es[n.toNat]?=some e/\szOf P et=some e.length)/\K ⟨opd x++opd i,wrT o.dst (.im (.ref e))⟩
  | .osl b g=>match esOf (σ.kd b) with
   |some es=>match szOf P et with
    |some k=>Side (0<=n/\σ.gn b=g/\n.toNat<es.length) (K ⟨opd x++opd i++[.gen b,.knd b],wrT o.dst (.elt b g k n.toNat 0)⟩)
    |none=>False
   |_=>False
  |_=>False
 |_,_=>False
def optI(σ:St)(d:Int):Option Operand->Option Int
 |none=>some d
 |some x=>(asInt (evA σ x)).map (·.2)
def aSlice(t:TypeId)(x:Operand)(lo hi:Option Operand):Prop :=
 match zgc P t with
 |some et=>match szOf P et with
  |some k=>match nz (match evA σ x with|.im y=>y|_=>.any) with
   | .sl es=>match optI σ 0 lo,optI σ es.length hi with
    |some l,some h=>Side (0<=l/\l<=h/\h<=es.length/\∀e∈es,e.length=k) (Nf ((es.take h.toNat).drop l.toNat) λr=>K ⟨opd x++(lo.map opd).getD []++(hi.map opd).getD [],wrT o.dst (.im (.sl r))⟩)
    |_,_=>False
   |_=>False
  |none=>False
 |none=>False
def aSlice3(t:TypeId)(x:Operand)(lo hi:Option Operand)(mx:Operand):Prop :=
 match lo,hi,zgc P t with
 |none,some hi,some et=>match szOf P et,nz (match evA σ x with|.im y=>y|_=>.any),asInt (evA σ hi),asInt (evA σ mx) with
  |some k,.sl es,some (_,h),some (_,m)=>Side (0<=h/\h<=es.length/\m=h/\∀e∈es,e.length=k) (Nf (es.take h.toNat) λr=>K ⟨opd x++opd hi++opd mx,wrT o.dst (.full r)⟩)
  |_,_,_,_=>False
 |_,_,_=>False
def aSliceV(t:TypeId)(x:Operand)(b g:Nat)(lo:Operand):Prop :=
 match zgc P t,asInt (evA σ lo),σ.kd b with
 |some et,some (_,l),.row _ k es=>match szOf P et with
  |some k'=>Chk (Nat.beq k k') (Side (σ.gn b=g/\0<=l/\l.toNat<=es.length/\0<es.length) (K ⟨opd x++opd lo++[.gen b,.knd b],wrT o.dst (.osv b g l.toNat k)⟩))
  |none=>False
 |_,_,_=>False
def aSliceT(t:TypeId)(x:Operand)(b g:Nat)(hi:Operand):Prop :=
 match zgc P t,asInt (evA σ hi),σ.kd b,o.dst with
 |some et,some (_,l),.row et' k es,some d=>match szOf P et with
  |some k'=>Chk (Nat.beq k k') (Side (σ.gn b=g/\0<=l/\l.toNat<=es.length/\0<es.length)
   (Nf (es.take l.toNat) λr=>K ⟨opd x++opd hi++[.gen b,.knd b],(.knd b,.kd .dead)::(zd2 σ b (.row et' k r)++[(.tmp d,.av (.osl b (σ.gn b+1)))])⟩))
  |none=>False
 |_,_,_,_=>False
def aLenV(x:Operand)(b g k:Nat):Prop :=
 match σ.kd b with
 | .row _ _ es=>Side (σ.gn b=g) (Nf (es.length-k) λn=>K ⟨opd x++[.gen b,.knd b],wrT o.dst (vI n)⟩)
 |_=>False
def aIndexV(t:TypeId)(x i:Operand)(b g k m:Nat):Prop :=
 match asInt (evA σ i),zgc P t,σ.kd b with
 |some (_,n),some et,.row _ _ es=>match szOf P et with
  |some m'=>Chk (Nat.beq m m') (Side (0<=n/\σ.gn b=g/\k+n.toNat<es.length) (Nf (k+n.toNat) λj=>K ⟨opd x++opd i++[.gen b,.knd b],wrT o.dst (.elt b g m j 0)⟩))
  |none=>False
 |_,_,_=>False
def aClear(t:TypeId)(x:Operand):Prop :=
 match zgc P t,evA σ x with
 |some et,.osv b g k m=>match σ.kd b,szOf P et,zeroOf P et with
  | .row et' k' es,some m',some z=>Chk (Nat.beq m m'&&Nat.beq k' m'&&Nat.blt 0 m'&&Nat.beq z.length m'&&z.all (·.oneCell')) (Side (σ.gn b=g/\k<=es.length)
   (Nf (es.take k++List.replicate (es.length-k) (z.map λv=>nz1 (.val v))) λr=>K ⟨opd x++[.gen b,.knd b],(.knd b,.kd (.row et' k' r))::wrT o.dst (.im .any)⟩))
  |_,_,_=>False
 |_,_=>False
def aCopy(t:TypeId)(x y:Operand):Prop :=
 match zgc P t,evA σ x with
 |some et,.osl b g=>match σ.kd b,szOf P et,nz (match evA σ y with|.im y=>y|_=>.any) with
  | .row et' k es,some m,.sl ss=>Chk (Nat.beq k m) (Side (σ.gn b=g/\0<es.length/\0<ss.length/\∀e∈ss,e.length=k)
   (Nf (ss.take es.length++es.drop ss.length) λr=>K ⟨opd x++opd y++[.gen b,.knd b],(.knd b,.kd (.row et' k r))::wrT o.dst (.im .any)⟩))
  |_,_,_=>False
 |_,_=>False
def aIndexG(t:TypeId)(x i:Operand)(b g:Nat):Prop :=
 match asInt (evA σ i),zgc P t,σ.kd b with
 |some (_,n),some et,.grid _ _ _ gs _=>match szOf P et with
  |some k=>Chk (Nat.beq k 1) (Side (0<=n/\σ.gn b=g/\n.toNat<gs.length) (K ⟨opd x++opd i++[.gen b,.knd b],wrT o.dst (.elt b g 1 n.toNat 0)⟩))
  |none=>False
 |_,_,_=>False
def aIndexS(t:TypeId)(x i:Operand)(b g j:Nat):Prop :=
 match asInt (evA σ i),zgc P t,σ.kd b with
 |some (_,n),some et,.grid _ _ k gs none=>match szOf P et with
  |some k'=>Chk (Nat.beq k' k) (∃es,(0<=n/\σ.ig b=g/\gs[j]?=some [.sl es]/\n.toNat<es.length)/\K ⟨opd x++opd i++[.ign b,.knd b],wrT o.dst (.elt2 b g j k n.toNat 0)⟩)
  |none=>False
 |_,_,_=>False
def aLoadG(t:TypeId)(p:Operand)(b g k i j:Nat):Prop :=
 match zma P t,σ.kd b with
 |some false,.grid _ _ _ gs none=>Chk (Nat.beq k 1&&Nat.beq j 0) (Side (σ.gn b=g/\i<gs.length) (K ⟨opd p++[.gen b,.knd b]++[.ign b],wrT o.dst (.sub b (σ.ig b) i)⟩))
 |_,_=>False
def aLoadS(t:TypeId)(p:Operand)(b g i k j c:Nat):Prop :=
 match zma P t,σ.kd b with
 |some false,.grid _ _ k' gs none=>Chk (Nat.beq k' k) (∃es e x,(σ.ig b=g/\gs[i]?=some [.sl es]/\es[j]?=some e/\e[c]?=some x)/\K ⟨opd p++[.ign b,.knd b],wrT o.dst (.im x)⟩)
 |_,_=>False
def aStoreS(t:TypeId)(p x:Operand)(b g i k j c:Nat):Prop :=
 match szOf P t,zl1 (evA σ x),σ.kd b with
 |some m,some cs,.grid e e' k' gs none=>match fzL σ cs with
  |some (xs,[])=>Chk (Nat.beq cs.length m&&Nat.blt 0 m&&Nat.ble (c+m) k&&Nat.beq k' k) (∃es el,(σ.ig b=g/\gs[i]?=some [.sl es]/\es[j]?=some el)/\Nf (gs.set i [.sl (es.set j (splice el c xs))]) λr=>K ⟨opd p++opd x++[.ign b,.knd b],(.knd b,.kd (.grid e e' k' r none))::wrT o.dst (.im (.val undef))⟩)
  |_=>False
 |_,_,_=>False
def holeOk(hole:Option Nat)(i:Nat):Prop:=match hole with|none=>True|some h=>h=i
def aStoreG(t:TypeId)(p x:Operand)(b g k i j:Nat):Prop :=
 match szOf P t,evA σ x,σ.kd b with
 |some m,.osl r gr,.grid e e' k' gs hole=>match σ.kd r with
  | .row e2 k2 es=>Chk (Nat.beq m 1&&Nat.beq k 1&&Nat.beq j 0&&Nat.beq e2 e'&&Nat.beq k2 k'&&!Nat.beq r b) (Side (σ.gn b=g/\σ.gn r=gr/\i<gs.length/\holeOk hole i)
    (Nf (gs.set i [.sl es]) λrr=>K ⟨opd p++opd x++[.gen b,.knd b]++[.ign b,.gen r,.knd r],(.knd r,.kd .dead)::(.ign b,.n (σ.ig b+1))::(.knd b,.kd (.grid e e' k' rr none))::wrT o.dst (.im (.val undef))⟩))
  |_=>False
 |_,_,_=>False
def aLenG(x:Operand)(b g:Nat):Prop :=
 match σ.kd b with
 | .grid _ _ _ gs none=>Side (σ.gn b=g) (Nf gs.length λn=>K ⟨opd x++[.gen b,.knd b],wrT o.dst (vI n)⟩)
 |_=>False
def aLenS(x:Operand)(b g i:Nat):Prop :=
 match σ.kd b with
 | .grid _ _ _ gs none=>∃es,(σ.ig b=g/\gs[i]?=some [.sl es])/\Nf es.length λn=>K ⟨opd x++[.ign b,.knd b],wrT o.dst (vI n)⟩
 |_=>False
def aIndexA(n:Nat)(et:TypeId)(x i:Operand):Prop :=
 match asInt (evA σ i),szOf P et with
 |some (_,j),some m=>match evA σ x with
  | .elt b g k p q=>match Nat.beq k 1&&Nat.beq p 0&&Nat.beq q 0&&Nat.beq m 1 with
   |true=>Side (0<=j/\j<n/\σ.gn b=g) (K ⟨opd x++opd i++[.gen b],wrT o.dst (.elt b g 1 j.toNat 0)⟩)
   |false=>Side (0<=j/\j<n/\σ.gn b=g) (K ⟨opd x++opd i++[.gen b],wrT o.dst (.elt b g k p (q+j.toNat*m))⟩)
  | .im (.ref cs)=>Side (0<=j/\j<n) (K ⟨opd x++opd i,wrT o.dst (.im (.ref (cs.drop (j.toNat*m))))⟩)
  | .own b g p=>Side (0<=j/\j<n/\σ.gn b=g) (K ⟨opd x++opd i++[.gen b],wrT o.dst (.own b g (p+j.toNat*m))⟩)
  |_=>False
 |_,_=>False
def aLoadA(t:TypeId)(p:Operand)(b g k i j:Nat):Prop :=
 match σ.kd b,szOf P t with
 | .row _ k' es,some m=>Chk (Nat.beq k' 1&&Nat.beq k 1&&Nat.beq i 0&&Nat.beq j 0) (Side (σ.gn b=g/\es.length=m) (Nf es.flatten λr=>K ⟨opd p++[.gen b,.knd b],wrT o.dst (.im (.agg r))⟩))
 |_,_=>False
def wholeA(P:Program)(t:TypeId)(k:Nat):Bool:=match intArr P t with
 |some n=>Nat.beq k 1&&Nat.blt 1 n
 |none=>false
def aLenM(x:Operand)(b g:Nat)(l:List (Value×Value)):Prop:=Side (σ.gn b=g) (Nf l.length λn=>K ⟨opd x++[.gen b,.knd b],wrT o.dst (vI n)⟩)
def zox:Kd->Bool
 | .grid _ _ _ _ _=>true
 |_=>false
def aSliceQ(t:TypeId)(x:Operand)(b g:Nat)(lo:Operand):Prop :=
 match zgc P t,asInt (evA σ lo),σ.kd b,o.dst with
 |some et,some (_,l),.que et' k es,some d=>match szOf P et with
  |some k'=>Chk (Nat.beq k k') (Side (σ.gn b=g/\0<=l/\l.toNat<=es.length)
   (Nf (es.drop l.toNat) λr=>K ⟨opd x++opd lo++[.gen b,.knd b],(.knd b,.kd .dead)::(zd2 σ b (.que et' k r)++[(.tmp d,.av (.osl b (σ.gn b+1)))])⟩))
  |none=>False
 |_,_,_,_=>False
def aSlices(t:TypeId)(x:Operand)(lo hi:Option Operand):Prop :=
 match evA σ x with
 | .osl b g=>match lo,hi with
  |some l,none=>match isQue (σ.kd b) with
   |true=>aSliceQ P o σ K t x b g l
   |false=>aSliceV P o σ K t x b g l
  |none,some h=>aSliceT P o σ K t x b g h
  |_,_=>False
 |_=>aSlice P o σ K t x lo hi
def aIndexes(t:TypeId)(x i:Operand):Prop :=
 match evA σ x with
 | .osv b g k m=>aIndexV P o σ K t x i b g k m
 | .sub b g j=>aIndexS P o σ K t x i b g j
 | .osl b g=>match zox (σ.kd b) with
  |true=>aIndexG P o σ K t x i b g
  |false=>zll P o σ K t x i
 |_=>match arrOf P t with
  |some (n,et)=>aIndexA P o σ K n et x i
  |none=>zll P o σ K t x i
def aLoads(t:TypeId)(p:Operand):Prop :=
 match evA σ p with
 | .elt2 b g i k j c=>aLoadS P o σ K t p b g i k j c
 | .elt b g k i j=>match zox (σ.kd b) with
  |true=>aLoadG P o σ K t p b g k i j
  |false=>match wholeA P t k with
   |true=>aLoadA P o σ K t p b g k i j
   |false=>aLoad P o σ K t p
 |_=>aLoad P o σ K t p
def isStr(P:Program)(t:TypeId):Bool:=match P.underlying t with|some .string=>true|_=>false
def aLen(t:TypeId)(x:Operand):Prop :=
 match zgc P t with
 |some _=>match evA σ x with
  | .im (.sl es)=>Nf es.length λn=>K ⟨opd x,wrT o.dst (vI n)⟩
  | .im (.val (.slice _ n _))=>K ⟨opd x,wrT o.dst (vI n)⟩
  | .osl b g=>match esOf (σ.kd b) with
   |some es=>Side (σ.gn b=g) (Nf es.length λn=>K ⟨opd x++[.gen b,.knd b],wrT o.dst (vI n)⟩)
   |_=>False
  |_=>False
 |none=>match asStr (evA σ x) with
  |some s=>Chk (isStr P t) (K ⟨opd x,wrT o.dst (vI s.size)⟩)
  |none=>False
def aLens(t:TypeId)(x:Operand):Prop :=
 match evA σ x with
 | .osv b g k _=>match zgc P t with
  |some _=>aLenV o σ K x b g k
  |none=>False
 | .sub b g i=>match zgc P t with
  |some _=>aLenS o σ K x b g i
  |none=>False
 | .osl b g=>match zox (σ.kd b) with
  |true=>match zgc P t with
   |some _=>aLenG o σ K x b g
   |none=>False
  |false=>match zsc P t,σ.kd b with
   |some _,.map l=>aLenM o σ K x b g l
   |_,_=>aLen P o σ K t x
 |_=>aLen P o σ K t x
def zgd(σ:St)(b d i:Nat)(e e':TypeId)(k:Nat)(gs es:List (List IV)):List (Loc×Ct) :=
 [(.ign b,.n (σ.ig b+1)),(.knd b,.kd (.grid e e' k gs (some i))),(.gen d,.n (σ.gn d+1)),(.knd d,.kd (.row e' k es))]
def zOk(P:Program)(t:TypeId)(k:Nat):Bool:=match zeroOf P t with|some z=>Nat.beq z.length k|none=>false
def aAppend(t:TypeId)(x y:Operand):Prop :=
 match o.dst,zgc P t with
 |some d,some et=>match szOf P et,byteOf P et,fz σ (evA σ y) with
  |some k,some by_,some (.sl new,[])=>match evA σ x with
   | .im (.val (.slice none 0 0))=>Chk (Nat.blt 0 k&&zOk P et k) (Side ((∀e∈new,e.length=k)/\za5 new.length by_)
     (Nf new λr=>K ⟨opd x++opd y++[.gen d],zd2 σ d (.row et k r)++[(.tmp d,.av (.osl d (σ.gn d+1)))]⟩))
   | .osl b g=>match σ.kd b with
    | .row et' k' es=>Chk (Nat.blt 0 k&&Nat.beq et' et&&Nat.beq k' k&&zOk P et k) (Side (σ.gn b=g/\(∀e∈new,e.length=k)/\za5 (es.length+new.length) by_)
      (Nf (es++new) λr=>K ⟨opd x++opd y++[.gen b,.knd b],(.knd b,.kd .dead)::(zd2 σ b (.row et k r)++[(.tmp d,.av (.osl b (σ.gn b+1)))])⟩))
    | .que et' k' es=>Chk (Nat.blt 0 k&&Nat.beq et' et&&Nat.beq k' k&&zOk P et k) (Side (σ.gn b=g/\0<new.length/\(∀e∈new,e.length=k)/\za5 (es.length+new.length) by_)
      (Nf (es++new) λr=>K ⟨opd x++opd y++[.gen b,.knd b],(.knd b,.kd .dead)::(zd2 σ b (.que et k r)++[(.tmp d,.av (.osl b (σ.gn b+1)))])⟩))
    |_=>False
   | .full es=>Chk (Nat.blt 0 k&&zOk P et k) (Side (0<new.length/\(∀e∈es,e.length=k)/\(∀e∈new,e.length=k)/\za5 (es.length+new.length) by_)
     (Nf (es++new) λr=>K ⟨opd x++opd y++[.gen d],zd2 σ d (.row et k r)++[(.tmp d,.av (.osl d (σ.gn d+1)))]⟩))
   |_=>False
  |_,_,_=>False
 |_,_=>False
def aAppendS(t:TypeId)(x y:Operand)(b g i:Nat):Prop :=
 match o.dst,zgc P t,σ.kd b with
 |some d,some et,.grid e e' k' gs none=>match szOf P et,byteOf P et,fz σ (evA σ y) with
  |some k,some by_,some (.sl new,[])=>Chk (Nat.blt 0 k&&Nat.beq e' et&&Nat.beq k' k&&zOk P et k&&!Nat.beq d b)
    (∃es,(σ.ig b=g/\gs[i]?=some [.sl es]/\(∀e∈new,e.length=k)/\za5 (es.length+new.length) by_) /\
     Nf (es++new) λr=>K ⟨opd x++opd y++[.ign b,.knd b,.gen d],zgd σ b d i e e' k' gs es++((.knd d,.kd .dead)::([(.gen d,.n (σ.gn d+2)),(.knd d,.kd (.row et k r))]++[(.tmp d,.av (.osl d (σ.gn d+2)))]))⟩)
  |_,_,_=>False
 |_,_,_=>False
def aAppendT(t:TypeId)(x y:Operand)(b g i b' g' j:Nat):Prop :=
 match o.dst,zgc P t,σ.kd b with
 |some d,some et,.grid e e' k' gs none=>match szOf P et,byteOf P et with
  |some k,some by_=>Chk (Nat.blt 0 k&&Nat.beq e' et&&Nat.beq k' k&&zOk P et k&&!Nat.beq d b&&Nat.beq b' b)
    (∃es new,(σ.ig b=g/\σ.ig b=g'/\i≠j/\gs[i]?=some [.sl es]/\gs[j]?=some [.sl new]/\za5 (es.length+new.length) by_) /\
     Nf (es++new) λr=>K ⟨opd x++opd y++[.ign b,.knd b,.gen d],zgd σ b d i e e' k' gs es++((.knd d,.kd .dead)::([(.gen d,.n (σ.gn d+2)),(.knd d,.kd (.row et k r))]++[(.tmp d,.av (.osl d (σ.gn d+2)))]))⟩)
  |_,_=>False
 |_,_,_=>False
def zfr:IV->List IV
 | .agg cs=>cs
 | .any=>[]
 | .val v=>if v.oneCell'=true then [.val v] else []
 |x=>[x]
def zqk(σ:St):Nat->List (Nat×Operand)->Option (List IV×yad)
 |_,[]=>some ([],[])
 |i,(j,x)::l=>if i=j then match fz σ (evA σ x),zqk σ (i+1) l with|some (v,b),some (vs,bs)=>some (v::vs,b++bs)|_,_=>none else none
def opdL(l:List Operand):List Loc:=l.flatMap opd
def zkb(t:TypeId)(len:Nat)(parts:Array (Nat×Operand)):Prop :=
 match o.dst,zgc P t with
 |some d,some et=>match szOf P et,zqk σ 0 parts.toList with
  |some k,some (vs,bs)=>Chk (Nat.beq vs.length len&&Nat.ble (len*k) 65536&&Nat.blt 0 k&&zOk P et k&&vs.all λv=>Nat.beq (zfr v).length k)
   (zkj σ bs (if own.contains d=true then K ⟨opdL (parts.toList.map (·.2))++frd σ bs++[.gen d],fwr bs++(zd2 σ d (.row et k (vs.map zfr))++[(.tmp d,.av (.osl d (σ.gn d+1)))])⟩
   else if own.contains (9500000+d)=true then K ⟨opdL (parts.toList.map (·.2))++frd σ bs,fwr bs++[(.tmp d,.av (.im (.nsl (vs.map zfr))))]⟩
   else K ⟨opdL (parts.toList.map (·.2))++frd σ bs,fwr bs++[(.tmp d,.av (.im (.sl (vs.map zfr))))]⟩))
  |_,_=>False
 |_,_=>False
def aBuildG(t:TypeId)(len:Nat)(parts:Array (Nat×Operand)):Prop :=
 match o.dst,zgc P t,parts.toList with
 |some d,some et,[(0,x)]=>match szOf P et,evA σ x with
  |some k,.osl r gr=>match σ.kd r with
   | .row e' k' es=>Chk (Nat.beq len 1&&Nat.beq k 1&&zOk P et 1) (zkj σ [(r,gr)] (Nf [[IV.sl es]] λgs=>K ⟨opd x++frd σ [(r,gr)]++zks [(d,.grid et e' k' gs none)],fwr [(r,gr)]++(zc7 σ [(d,.grid et e' k' gs none)]++[(.tmp d,.av (.osl d (σ.gn d+1)))])⟩))
   |_=>False
  |_,_=>False
 |_,_,_=>False
def aAppendG(t:TypeId)(x y:Operand)(c gc:Nat):Prop :=
 match o.dst,zgc P t,σ.kd c with
 |some d,some et,.grid e e' k hs none=>match szOf P et,byteOf P et,evA σ x with
  |some m,some by_,.osl b gb=>match σ.kd b with
   | .grid e1 e1' k1 gs none=>Chk (Nat.beq m 1&&Nat.beq e et&&Nat.beq e1 et&&Nat.beq e1' e'&&Nat.beq k1 k&&zOk P et 1&&!Nat.beq b c) (zkj σ [(b,gb),(c,gc)] (Side (za5 (gs.length+hs.length) by_)
     (Nf (gs++hs) λr=>K ⟨opd x++opd y++frd σ [(b,gb),(c,gc)]++zks [(d,.grid et e' k r none)],fwr [(b,gb),(c,gc)]++(zc7 σ [(d,.grid et e' k r none)]++[(.tmp d,.av (.osl d (σ.gn d+1)))])⟩)))
   |_=>False
  |_,_,_=>False
 |_,_,_=>False
def zgq{α:Type}(cs:List α):Nat->List α->List α
 |_,[]=>cs
 |i,c::r=>zgq (cs.set i c) (i+1) r
def buildA(P:Program)(t:TypeId)(σ:St):List (Nat×Operand)->List AV->Option (List AV)
 |[],cs=>some cs
 |(i,x)::l,cs=>match fldOf P t i,zl1 (evA σ x) with
  |some (off,ft),some vs=>match szOf P ft with|some m=>if(Nat.beq m vs.length&&Nat.ble (off+vs.length) cs.length)=true then buildA P t σ l (zgq cs off vs) else none|none=>none
  |_,_=>none
def plcOf(P:Program)(t:TypeId):Option (yad):=match P.underlying t with|some (.struct fs)=>fs.toList.mapM (λf=>(P.info? f.type).map λi=>(f.offset,i.size))|_=>none
def aBuild(t:TypeId)(parts:Array (Nat×Operand)):Prop :=
 match zeroOf P t with
 |some z=>match buildA P t σ parts.toList (z.map λv=>.im (.val v)) with
  |some cs=>Chk ((plcOf P t).isSome&&z.all (·.oneCell')) (K ⟨opdL (parts.toList.map (·.2)),wrT o.dst (aggA cs)⟩)
  |none=>False
 |none=>False
def buildG(pl:Nat->Option (Nat×Nat))(σ:St):List (Nat×Operand)->List AV->Option (List AV)
 |[],cs=>some cs
 |(i,x)::l,cs=>match pl i,zl1 (evA σ x) with
  |some (off,m),some vs=>if(Nat.beq m vs.length&&Nat.ble (off+vs.length) cs.length)=true then buildG pl σ l (zgq cs off vs) else none
  |_,_=>none
def aBuildR(t et:TypeId)(parts:Array (Nat×Operand)):Prop :=
 match zeroOf P t,szOf P et with
 |some z,some m=>match buildG (λi=>some (i*m,m)) σ parts.toList (z.map λv=>.im (.val v)) with
  |some cs=>Chk (z.all (·.oneCell')) (K ⟨opdL (parts.toList.map (·.2)),wrT o.dst (aggA cs)⟩)
  |none=>False
 |_,_=>False
def aBuilds(t:TypeId)(parts:Array (Nat×Operand)):Prop :=
 match arrOf P t with
 |some (_,et)=>aBuildR P o σ K t et parts
 |none=>aBuild P o σ K t parts
def aIndexX(t:TypeId)(x i:Operand):Prop :=
 match arrOf P t,aggCs (evA σ x),asInt (evA σ i) with
 |some (n,et),some cs,some (_,j)=>match zma P et,szOf P et with
  |some true,some m=>Chk (Nat.beq n 2&&Nat.ble (m+m) cs.length) (Both (decide (j=0)) (K ⟨opd x++opd i,wrT o.dst (aggA (cs.take m))⟩) (Side (j=1) (K ⟨opd x++opd i,wrT o.dst (aggA ((cs.drop m).take m))⟩)))
  |_,_=>False
 |_,_,_=>False
def aExtract(x:Operand)(i:Nat):Prop :=
 match evA σ x with
 | .tup l=>match l[i]? with
  |some v=>K ⟨opd x,wrT o.dst v⟩
  |none=>False
 |_=>False
def isBl(P:Program)(t:TypeId):Bool:=match P.underlying t with|some .bool=>true|_=>false
def isShr:BinOp->Bool
 | .shr=>true
 |_=>false
def isAdd:BinOp->Bool
 | .add=>true
 |_=>false
def aBin(op:BinOp)(t:TypeId)(x y:Operand):Prop :=
 match isShr op with
 |true=>match asInt (evA σ x),asInt (evA σ y),P.underlying t with
  |some (k,a),some (_,b),some (.int k')=>Chk (decide (k=k')&&decide (k=.u64)) (Side (rng k (a / 2^b.toNat)/\0<=a/\0<=b/\b<=62) (K ⟨opd x++opd y,wrT o.dst (.im (.val (.int k (a / 2^b.toNat))))⟩))
  |_,_,_=>False
 |false=>match asStr (evA σ x),asStr (evA σ y) with
 |some a,some b=>Chk (isStr P t&&isAdd op) (Side (a.size+b.size<=9223372036854775807) (K ⟨opd x++opd y,wrT o.dst (.im (.val (.string (a++b))))⟩))
 |_,_=>match asInt (evA σ x),asInt (evA σ y) with
 |some (k,a),some (k',b)=>Chk (decide (k=k')) (match op with
  | .add=>zbt k (a+b) λn=>K ⟨opd x++opd y,wrT o.dst (.im (.val (.int k n)))⟩
  | .sub=>zbt k (a-b) λn=>K ⟨opd x++opd y,wrT o.dst (.im (.val (.int k n)))⟩
  | .mul=>zbt k (a*b) λn=>K ⟨opd x++opd y,wrT o.dst (.im (.val (.int k n)))⟩
  | .quo=>Side (rng k (a / b)/\0<=a/\1<=b) (K ⟨opd x++opd y,wrT o.dst (.im (.val (.int k (a / b))))⟩)
  | .rem=>Side (rng k (a%b)/\0<=a/\1<=b) (K ⟨opd x++opd y,wrT o.dst (.im (.val (.int k (a%b))))⟩)
  | .xor=>K ⟨opd x++opd y,wrT o.dst (.im (.val (.int k (xorK k a b))))⟩
  | .eql=>K ⟨opd x++opd y,wrT o.dst (vB (decide (a=b)))⟩
  | .neq=>K ⟨opd x++opd y,wrT o.dst (vB (decide (a≠b)))⟩
  | .lss=>K ⟨opd x++opd y,wrT o.dst (vB (decide (a<b)))⟩
  | .leq=>K ⟨opd x++opd y,wrT o.dst (vB (decide (a<=b)))⟩
  | .gtr=>K ⟨opd x++opd y,wrT o.dst (vB (decide (b<a)))⟩
  | .geq=>K ⟨opd x++opd y,wrT o.dst (vB (decide (b<=a)))⟩
  |_=>False)
 |_,_=>match asBool (evA σ x),asBool (evA σ y) with
  |some a,some b=>match op with
   | .eql=>Chk (isBl P t) (K ⟨opd x++opd y,wrT o.dst (vB (a==b))⟩)
   | .neq=>Chk (isBl P t) (K ⟨opd x++opd y,wrT o.dst (vB (!(a==b)))⟩)
   |_=>False
  |_,_=>False
def eqCs:List AV->List AV->Option Bool
 |[],[]=>some true
 |x::xs,y::ys=>match asInt x,asInt y,eqCs xs ys with
  |some (k,a),some (k',b),some r=>match decide (k=k') with
   |true=>some (decide (a=b)&&r)
   |false=>none
  |_,_,_=>none
 |_,_=>none
def intF(P:Program)(f:Field)(i:Nat):Bool:=decide (f.name≠"_")&&Nat.beq f.offset i&&(match P.underlying f.type with|some (.int _)=>true|_=>false)
def intFs(P:Program):Nat->List Field->Bool
 |_,[]=>true
 |i,f::fs=>intF P f i&&intFs P (i+1) fs
def eqT(P:Program)(t:TypeId)(n:Nat):Bool:=match P.underlying t with
 |some (.struct fs)=>Nat.beq fs.toList.length n&&intFs P 0 fs.toList&&!P.stoodInHeld t&&!P.eqGuardType P.depth t
 |_=>false
def aBinS(op:BinOp)(t:TypeId)(x y:Operand):Prop :=
 match aggCs (evA σ x),aggCs (evA σ y) with
 |some xs,some ys=>match eqCs xs ys with
  |some r=>Side (eqT P t xs.length=true) (match op with
   | .eql=>Nf r λr=>K ⟨opd x++opd y,wrT o.dst (vB r)⟩
   | .neq=>Nf r λr=>K ⟨opd x++opd y,wrT o.dst (vB (!r))⟩
   |_=>False)
  |none=>False
 |_,_=>False
def isPt(P:Program)(t:TypeId):Bool:=match P.underlying t with|some (.pointer _)=>true|_=>false
def nilP:AV->Option Bool
 | .im (.val (.pointer none))=>some true
 | .im (.val (.pointer (some _)))=>some false
 | .im (.ref _)=>some false
 |_=>none
def aBinN(op:BinOp)(x y:Operand):Prop :=
 match nilP (evA σ x),nilP (evA σ y) with
 |some b,some true=>match op with
  | .eql=>K ⟨opd x++opd y,wrT o.dst (vB b)⟩
  | .neq=>K ⟨opd x++opd y,wrT o.dst (vB (!b))⟩
  |_=>False
 |_,_=>False
def isSl(P:Program)(t:TypeId):Bool:=match P.underlying t with|some (.slice _)=>true|_=>false
def nilS(x:AV)(b:Bool):Prop:=match x with
 | .im v=>(b=true/\v=.val (.slice none 0 0))\/(b=false/\∃es,v=.nsl es)
 |_=>False
def isNilC:AV->Bool
 | .im (.val (.slice none 0 0))=>true
 |_=>false
def aBinZ(op:BinOp)(x y:Operand):Prop :=
 match isNilC (evA σ y) with
 |true=>∃b,nilS (evA σ x) b/\(match op with
  | .eql=>K ⟨opd x++opd y,wrT o.dst (vB b)⟩
  | .neq=>K ⟨opd x++opd y,wrT o.dst (vB (!b))⟩
  |_=>False)
 |false=>False
def aBins(op:BinOp)(t:TypeId)(x y:Operand):Prop :=
 match zma P t with
 |some true=>aBinS P o σ K op t x y
 |_=>match isPt P t with
  |true=>aBinN o σ K op x y
  |false=>match isSl P t with
   |true=>aBinZ o σ K op x y
   |false=>aBin P o σ K op t x y
def aUn(op:UnOp)(x:Operand):Prop :=
 match op,asBool (evA σ x) with
 | .not,some b=>K ⟨opd x,wrT o.dst (vB (!b))⟩
 | .neg,_=>match asInt (evA σ x) with
  |some (k,n)=>zbt k (0-n) λm=>K ⟨opd x,wrT o.dst (.im (.val (.int k m)))⟩
  |none=>False
 |_,_=>False
def aConvert(dst:TypeId)(x:Operand):Prop :=
 match asInt (evA σ x),P.underlying dst with
 |some (_,n),some (.int k)=>Side (rng k n) (K ⟨opd x,wrT o.dst (.im (.val (.int k n)))⟩)
 |_,_=>False
def aMax(x y:Operand):Prop :=
 match asInt (evA σ x),asInt (evA σ y) with
 |some (k,a),some (k',b)=>Chk (decide (k=k')) (K ⟨opd x++opd y,wrT o.dst (.im (.val (.int k (max a b))))⟩)
 |_,_=>False
def aMin(x y:Operand):Prop :=
 match asInt (evA σ x),asInt (evA σ y) with
 |some (k,a),some (k',b)=>Chk (decide (k=k')) (K ⟨opd x++opd y,wrT o.dst (.im (.val (.int k (min a b))))⟩)
 |_,_=>False
def aMin3(x y z:Operand):Prop :=
 match asInt (evA σ x),asInt (evA σ y),asInt (evA σ z) with
 |some (k,a),some (k',b),some (k'',c)=>Chk (decide (k=k')&&decide (k=k'')) (K ⟨opd x++opd y++opd z,wrT o.dst (.im (.val (.int k (min (min a b) c))))⟩)
 |_,_,_=>False
variable (C:FuncId->List Arg->Rs->Prop)
def ndB:List Nat->List Nat->Bool
 |[],_=>true
 |a::l,bs=>!(l.contains a)&&!(bs.contains a)&&ndB l bs
def fzS(σ:St)(nn:Bool)(cs:List AV):Option (List IV×yad):=match nn with
 |false=>fzL σ cs
 |true=>match cs with
  |[.im (.nsl ys)]=>some ([.nsl ys],[])
  |[.osl c g]=>match σ.kd c with
   | .row _ _ ys=>some ([.nsl ys],[(c,g)])
   |_=>none
  |_=>none
def nslS(σ:St)(nn:Bool)(cs:List AV)(A:Prop):Prop:=match nn with
 |false=>A
 |true=>match cs with
  |[.osl c _]=>match σ.kd c with
   | .row _ _ ys=>Side (0<ys.length) A
   |_=>A
  |_=>A
def aStoreE(t:TypeId)(p x:Operand)(b g k i j:Nat):Prop :=
 match szOf P t,zl1 (evA σ x),σ.kd b with
 |some m,some cs,.row et k' es=>match fzS σ (own.contains (9600000+b)) cs with
  |some (xs,bs)=>Chk (Nat.beq cs.length m&&Nat.blt 0 m&&Nat.ble (j+m) k&&Nat.beq k' k&&ndB [b] (bs.map (·.1)))
   (zkj σ ((b,g)::bs) (∃e,es[i]?=some e/\nslS σ (own.contains (9600000+b)) cs (Nf (es.set i (splice e j xs)) λr=>K ⟨opd p++opd x++frd σ ((b,g)::bs),fwr bs++((.knd b,.kd (.row et k r))::wrT o.dst (.im (.val undef)))⟩)))
  |none=>False
 |_,_,_=>False
def nilF:List Nat->Nat->Option (Nat×Nat)
 |[],_=>none
 |x::l,key=>match Nat.beq (Nat.div x 1000000000) key with
  |true=>some (Nat.div (Nat.mod x 1000000000) 100,Nat.mod x 100)
  |false=>nilF l key
def nilH(own:List Nat)(d i j:Nat):Option (Nat×Nat):=nilF own (Nat.succ (Nat.add (Nat.mul (Nat.add (Nat.mul d 16) i) 64) j))
def nilRow(x:IV)(e k:Nat):Option Kd:=match x with
 | .val (.slice none 0 0)=>match k with
  |0=>none
  |k+1=>some (.row e (k+1) [])
 |_=>none
def objG(σ:St)(p:Nat):Option Kd:=match σ.kd p with
 | .dead=>none
 | .box _ _=>none
 | .bag _ _ _ _ _=>none
 | .mapI _ _=>none
 | .que _ _ _=>none
 |k=>some k
def ztb(σ:St)(own:List Nat)(d i j:Nat):AV->Option (Oc×yad)
 | .im x=>match nilH own d i j with
  |some (e,k)=>match nilRow x e k with
   |some q=>some (.ow q,[])
   |none=>none
  |none=>some (.im (nz1 x),[])
 | .osl p g=>match objG σ p with
  |some k=>some (.ow k,[(p,g)])
  |none=>none
 |_=>none
def holeH(own:List Nat)(d i j:Nat):Bool:=own.contains (Nat.add 1000000000000000000 (Nat.add (Nat.mul (Nat.add (Nat.mul d 16) i) 64) j))
def cellG(σ:St)(own:List Nat)(d i j:Nat)(a:AV):Option (Oc×yad):=match holeH own d i j with
 |true=>some (.im .any,[])
 |false=>ztb σ own d i j a
def isAny:Oc->Bool
 | .im .any=>true
 |_=>false
def fillC(v:Value)(h:Bool)(c:Oc):Oc:=match h with
 |true=>match isAny c with
  |true=>.im (.ex v)
  |false=>c
 |false=>c
def fillCs(h:Nat->Bool)(V:Nat->Value):Nat->List Oc->List Oc
 |_,[]=>[]
 |j,c::l=>fillC (V j) (h j) c::fillCs h V (j+1) l
def fillA(own:List Nat)(d i:Nat)(V:Nat->Nat->Value):Arg->Arg
 | .box t cs=>.box t (fillCs (holeH own d i) (V i) 0 cs)
 |x=>x
def fillX(own:List Nat)(d:Nat)(V:Nat->Nat->Value):Nat->List Arg->List Arg
 |_,[]=>[]
 |i,x::l=>fillA own d i V x::fillX own d V (i+1) l
def fillY(own:List Nat)(d:Nat)(V:Nat->Nat->Value):yad->List Arg->List Arg
 |[],l=>l
 |_,[]=>[]
 |(_,i)::bx,x::l=>fillA own d i V x::fillY own d V bx l
def hlC(own:List Nat)(d i b:Nat):Nat->List Oc->yad
 |_,[]=>[]
 |j,c::l=>match holeH own d i j,isAny c with
  |true,true=>(b,j)::hlC own d i b (j+1) l
  |_,_=>hlC own d i b (j+1) l
def hlY(own:List Nat)(d:Nat):yad->List Arg->yad
 |(b,i)::bx,y::l=>match y with
  | .box _ cs=>hlC own d i b 0 cs++hlY own d bx l
  |_=>hlY own d bx l
 |_,_=>[]
def memB(b:Nat):List Nat->Bool
 |[]=>false
 |x::l=>match Nat.beq x b with
  |true=>true
  |false=>memB b l
def memC(b j:Nat):yad->Bool
 |[]=>false
 |x::l=>match Nat.beq x.1 b&&Nat.beq x.2 j with
  |true=>true
  |false=>memC b j l
def keepL(bs:List Nat)(hs:yad):Loc->Bool
 | .knd b=>!memB b bs
 | .cel b j=>!memC b j hs
 |_=>true
def zpc(σ:St)(own:List Nat)(d i:Nat):Nat->List AV->Option (List Oc×yad)
 |_,[]=>some ([],[])
 |j,c::l=>match cellG σ own d i j c,zpc σ own d i (j+1) l with
  |some (x,gs),some (xs,gs')=>some (x::xs,gs++gs')
  |_,_=>none
def lentG(own:List Nat)(d i:Nat)(k:Kd):Arg:=match own.contains (2000000+(1000*(d+1)+i)) with
 |true=>.lent k
 |false=>.ow k
def argG(σ:St)(own:List Nat)(d i:Nat)(a:AV):Option (Arg×yad×yad):=match own.contains (1000*(d+1)+i) with
 |true=>match a with
  | .osl b g=>match objG σ b with
   |some k=>some (lentG own d i k,[],[(b,g)])
   |none=>none
  | .own b g 0=>match σ.kd b with
   | .box t _=>match zpc σ own d i 0 (zok σ b) with
    |some (cs,gs)=>some (.box t cs,[],(b,g)::gs)
    |none=>none
   |_=>none
  | .im x=>match nilH own d i 63 with
   |some (e,k)=>match nilRow x e k with
    |some q=>some (.ow q,[],[])
    |none=>none
   |none=>none
  |_=>none
 |false=>match own.contains (4000000+(1000*(d+1)+i)) with
  |true=>match a with
   | .im x=>some (.im x,[],[])
   |_=>none
  |false=>match fz σ a with
   |some (x,bs)=>some (.im x,bs,[])
   |none=>none
def ziw(σ:St)(own:List Nat)(d:Nat):Nat->List AV->Option (List Arg×yad×yad)
 |_,[]=>some ([],[],[])
 |i,a::l=>match argG σ own d i a,ziw σ own d (i+1) l with
  |some (x,bs,gs),some (xs,bs',gs')=>some (x::xs,bs++bs',gs++gs')
  |_,_=>none
def bxG(own:List Nat)(d:Nat):Nat->List AV->yad
 |_,[]=>[]
 |i,a::l=>match own.contains (1000*(d+1)+i) with
  |true=>match a with
   | .own b _ _=>(b,i)::bxG own d (i+1) l
   | .osl b _=>match own.contains (2000000+(1000*(d+1)+i)) with
    |true=>(b,i)::bxG own d (i+1) l
    |false=>bxG own d (i+1) l
   |_=>bxG own d (i+1) l
  |false=>bxG own d (i+1) l
def cellNm(σ:St)(b i j:Nat):Nat:=match σ.ce b j with
 | .osl p _=>p
 |_=>nmC i j
inductive LK where
 |box (t:TypeId) (al:List AV)
 |obj (k:Kd)
def flatK:Kd->Bool
 | .row _ _ _=>true
 | .map _=>true
 |_=>false
def bxPl(σ:St):yad->List Arg->Option (List (Nat×LK)×List (Nat×Kd))
 |[],[]=>some ([],[])
 |(b,i)::bx,.box t cs::ys=>match zcc σ (cellNm σ b i) 0 cs,bxPl σ bx ys with
  |(al,ss),some (l,ss')=>some ((b,.box t al)::l,ss++ss')
  |_,none=>none
 |(b,_)::bx,.lent k::ys=>match flatK k,bxPl σ bx ys with
  |true,some (l,ss')=>some ((b,.obj k)::l,ss')
  |_,_=>none
 |_,_=>none
def lkWr(b:Nat):LK->List (Loc×Ct)
 | .box t al=>(.knd b,.kd (.box t al.length))::zfg b 0 al
 | .obj k=>[(.knd b,.kd k)]
def bxWr:List (Nat×LK)->List (Loc×Ct)
 |[]=>[]
 |(b,x)::l=>lkWr b x++bxWr l
def resV(tp:Bool)(al:List AV):Option AV:=match tp with
 |true=>some (.tup al)
 |false=>match al with
  |[a]=>some a
  |_=>none
def zd4(tp:Bool)(d i:Nat):Nat:=match tp with
 |true=>nmR d i
 |false=>d
def aCall(f:Operand)(args:List Operand):Prop :=
 match o.dst,(match evA σ f with|.im (.fn g caps)=>some (g,caps.map AV.im)|.fn g caps=>some (g,caps)|_=>none) with
 |some d,some (g,caps)=>match ziw σ own d 0 (args.map (evA σ)++caps) with
  |some (xs,bs,gs)=>Chk (ndB (gs.map (·.1)) (bs.map (·.1))) (zkj σ (bs++gs) (∃r,C g xs r/\match r with
   | .mk tp l ys=>match zcc σ (zd4 tp d) 0 l,bxPl σ (bxG own d 0 (args.map (evA σ)++caps)) ys with
    |(al,ss),some (bl,ss')=>match resV tp al with
     |some v=>Chk (ndB ((ss++ss').map (·.1)) (bl.map (·.1))) (match own.contains (500000+d) with
      |true=>Side (flatRs (.mk tp l ys)) (K ⟨opd f++opdL args++frd σ (bs++gs)++zks (ss++ss'),fwr gs++(zc7 σ (ss++ss')++(bxWr bl++[(.tmp d,.av v)]))⟩)
      |false=>K ⟨opd f++opdL args++frd σ (bs++gs)++zks (ss++ss'),fwr bs++(fwr gs++(zc7 σ (ss++ss')++(bxWr bl++[(.tmp d,.av v)])))⟩)
     |none=>False
    |_,none=>False))
  |none=>False
 |_,_=>False
def resVA(m:Bool)(tp:Bool)(al:List AV):Option AV:=match m with
 |false=>resV tp al
 |true=>match tp with
  |true=>some (.agg al)
  |false=>none
def agT(m:Bool):TypeId:=match m with
 |true=>1
 |false=>0
def agL:List AV->List Oc
 |[]=>[]
 |_::l=>.im .any::agL l
def aCallA(f:Operand)(args:List Operand):Prop :=
 match o.dst,(match evA σ f with|.im (.fn g caps)=>some (g,caps.map AV.im)|.fn g caps=>some (g,caps)|_=>none),args.map (evA σ) with
 |some d,some (g,caps),.agg cs::rest=>match ziw σ own d 0 (cs++(rest++caps)) with
  |some (xs,bs,gs)=>Chk (ndB (gs.map (·.1)) (bs.map (·.1))) (zkj σ (bs++gs) (∃r,C g (.lent .dead::.box (agT (own.contains (8500000+d))) (agL cs)::xs) r/\match r with
   | .mk tp l ys=>match zcc σ (zd4 tp d) 0 l,bxPl σ (bxG own d 0 (cs++(rest++caps))) ys with
    |(al,ss),some (bl,ss')=>match resVA (own.contains (8500000+d)) tp al with
     |some v=>Chk (ndB ((ss++ss').map (·.1)) (bl.map (·.1))) (K ⟨opd f++opdL args++frd σ (bs++gs)++zks (ss++ss'),fwr bs++(fwr gs++(zc7 σ (ss++ss')++(bxWr bl++[(.tmp d,.av v)])))⟩)
     |none=>False
    |_,none=>False))
  |none=>False
 |_,_,_=>False
def aCallR(f:Operand)(args:List Operand):Prop :=
 match o.dst,(match evA σ f with|.im (.fn g caps)=>some (g,caps.map AV.im)|.fn g caps=>some (g,caps)|_=>none) with
 |some d,some (g,caps)=>match ziw σ own d 0 (args.map (evA σ)++caps) with
  |some (xs,bs,gs)=>Chk (ndB (gs.map (·.1)) (bs.map (·.1))) (zkj σ (bs++gs) (∃r,C g (.lent .dead::.ow .dead::xs) r/\match r with
   | .mk tp l ys=>match zcc σ (zd4 tp d) 0 l,bxPl σ (bxG own d 0 (args.map (evA σ)++caps)) ys with
    |(al,ss),some (bl,ss')=>match resVA true tp al with
     |some v=>Chk (ndB ((ss++ss').map (·.1)) (bl.map (·.1))) (K ⟨opd f++opdL args++frd σ (bs++gs)++zks (ss++ss'),fwr bs++(fwr gs++(zc7 σ (ss++ss')++(bxWr bl++[(.tmp d,.av v)])))⟩)
     |none=>False
    |_,none=>False))
  |none=>False
 |_,_=>False
def bxN:List (Nat×LK)->List Nat
 |[]=>[]
 |(b,.box _ _)::l=>b::bxN l
 |(_,.obj _)::l=>bxN l
def sameBx(σ:St):List (Nat×LK)->Bool
 |[]=>true
 |(b,.box t al)::l=>(match σ.kd b with|.box t' m=>Nat.beq t' t&&Nat.beq m al.length|_=>false)&&sameBx σ l
 |(_,.obj _)::l=>sameBx σ l
def keepW(bs:List Nat)(hs:yad):List (Loc×Ct)->List (Loc×Ct)
 |[]=>[]
 |p::l=>match keepL bs hs p.1 with
  |true=>p::keepW bs hs l
  |false=>keepW bs hs l
def aCallH(f:Operand)(args:List Operand):Prop :=
 match o.dst,(match evA σ f with|.im (.fn g caps)=>some (g,caps.map AV.im)|.fn g caps=>some (g,caps)|_=>none) with
 |some d,some (g,caps)=>match ziw σ own d 0 (args.map (evA σ)++caps) with
  |some (xs,bs,gs)=>Chk (ndB (gs.map (·.1)) (bs.map (·.1))) (zkj σ (bs++gs) (∃(tp:Bool) (l:List Oc) (ys:List Arg),(∀V:Nat->Nat->Value,C g (fillX own d V 0 xs) (.mk tp l (fillY own d V (bxG own d 0 (args.map (evA σ)++caps)) ys))) /\
   match zcc σ (zd4 tp d) 0 l,bxPl σ (bxG own d 0 (args.map (evA σ)++caps)) ys with
    |(al,ss),some (bl,ss')=>match resV tp al with
     |some v=>Chk (ndB ((ss++ss').map (·.1)) (bl.map (·.1))&&sameBx σ bl) (K ⟨opd f++opdL args++frd σ (bs++gs)++zks (ss++ss'),
       keepW (bxN bl) (hlY own d (bxG own d 0 (args.map (evA σ)++caps)) ys) (fwr bs++(fwr gs++(zc7 σ (ss++ss')++bxWr bl)))++[(.tmp d,.av v)]⟩)
     |none=>False
    |_,none=>False))
  |none=>False
 |_,_=>False
def zqe(x:Operand):Prop :=
 match evA σ x with
 | .own b g i=>Side (σ.gn b=g) (K ⟨opd x++[.gen b],wrT o.dst (.own b g i)⟩)
 | .im (.ref cs)=>K ⟨opd x,wrT o.dst (.im (.ref cs))⟩
 | .im (.fn f caps)=>K ⟨opd x,wrT o.dst (.im (.fn f caps))⟩
 | .fn f caps=>K ⟨opd x,wrT o.dst (.fn f caps)⟩
 |_=>False
def zod(t:TypeId)(len cap:Operand):Prop :=
 match o.dst,zgc P t with
 |some d,some et=>match asInt (evA σ len),asInt (evA σ cap),szOf P et,zeroOf P et,byteOf P et with
  |some (.i64,l),some (.i64,c),some k,some z,some by_=>Chk (Nat.blt 0 k&&zOk P et k&&z.all (·.oneCell')) (Side (0<=l/\l<=c/\za5 c.toNat by_) (match own.contains (600000+d) with
   |true=>match zgc P et with
    |some e'=>match szOf P e' with
     |some k'=>Chk (Nat.beq k 1&&(match z with|[.slice none 0 0]=>true|_=>false)&&Nat.blt 0 k') (Nf (List.replicate l.toNat [IV.sl []]) λr=>K ⟨opd len++opd cap++[.gen d,.ign d],zfq σ d (.grid et e' k' r none)++[(.tmp d,.av (.osl d (σ.gn d+1)))]⟩)
     |none=>False
    |none=>False
   |false=>match own.contains (6000000+d) with
    |true=>Nf (List.replicate l.toNat (z.map λv=>nz1 (.val v))) λr=>K ⟨opd len++opd cap,[(.tmp d,.av (.im (.sl r)))]⟩
    |false=>Nf (List.replicate l.toNat (z.map λv=>mkZ own d v)) λr=>K ⟨opd len++opd cap++[.gen d],zd2 σ d (.row et k r)++[(.tmp d,.av (.osl d (σ.gn d+1)))]⟩))
  |_,_,_,_,_=>False
 |_,_=>False
def keyD(P:Program)(kt:TypeId):Option TypeDesc:=match P.underlying kt with
 |some (.int k)=>some (.int k)
 |some .string=>some .string
 |some .bool=>some .bool
 |_=>none
def findV(D:TypeDesc)(k:Value):List (Value×Value)->Option (Option Value)
 |[]=>some none
 |p::l=>match Instr.sameNow D k p.1 with
  |some true=>some (some p.2)
  |some false=>findV D k l
  |none=>none
def setV(D:TypeDesc)(k v:Value):List (Value×Value)->Option (List (Value×Value))
 |[]=>some [(k,v)]
 |p::l=>match Instr.sameNow D k p.1 with
  |some true=>some ((k,v)::l)
  |some false=>(setV D k v l).map (p::·)
  |none=>none
def delV(D:TypeDesc)(k:Value):List (Value×Value)->Option (List (Value×Value))
 |[]=>some []
 |p::l=>match Instr.sameNow D k p.1 with
  |some true=>some l
  |some false=>(delV D k l).map (p::·)
  |none=>none
def asVal:AV->Option Value
 | .im (.val v)=>some v
 |_=>none
def zeroV(P:Program)(t:TypeId):Option Value:=match P.info? t with|some i=>i.zero|none=>none
def aMakeMap(t:TypeId)(r:Option Operand):Prop :=
 match o.dst,r with
 |some d,none=>K ⟨[.gen d],zd2 σ d (.map [])++[(.tmp d,.av (.osl d (σ.gn d+1)))]⟩
 |_,_=>False
def aLookup(t:TypeId)(x i:Operand)(ok:Bool):Prop :=
 match zsc P t,evA σ x,asVal (evA σ i) with
 |some (kt,et),.osl b g,some kv=>match σ.kd b,keyD P kt,zeroV P et with
  | .map l,some D,some z=>Side (σ.gn b=g) (∃r,findV D kv l=some r/\Nf (r.getD z) λv=>match ok with
   |true=>Nf r.isSome λis=>K ⟨opd x++opd i++[.gen b,.knd b],wrT o.dst (.tup [.im (.val v),vB is])⟩
   |false=>K ⟨opd x++opd i++[.gen b,.knd b],wrT o.dst (.im (.val v))⟩)
  |_,_,_=>False
 |_,_,_=>False
def wA(ks:yab):Value:=.agg (ks.map (Value.int .i64)).toArray
def getA(ks:yab):List (yab×Value)->Option Value
 |[]=>none
 |p::m=>match decide (ks=p.1) with|true=>some p.2|false=>getA ks m
def setA(ks:yab)(v:Value):List (yab×Value)->List (yab×Value)
 |[]=>[(ks,v)]
 |p::m=>match decide (ks=p.1) with|true=>(ks,v)::m|false=>p::setA ks v m
def zsz(P:Program)(t:TypeId):Option Nat:=match zsc P t with|some (k,_)=>intArr P k|none=>none
def KeysA(n:Nat)(cs:List IV)(l:List (Value×Value))(ks:yab)(m:List (yab×Value)):Prop :=
 cs=ks.map (λc=>.val (.int .i64 c))/\ks.length=n/\l=m.map (λp=>(wA p.1,p.2))/\∀p∈m,p.1.length=n
def aLookupA(n:Nat)(t:TypeId)(x i:Operand)(ok:Bool):Prop :=
 match zsc P t,evA σ x,evA σ i with
 |some (_,et),.osl b g,.im (.agg cs)=>match σ.kd b,zeroV P et with
  | .map l,some z=>Side (σ.gn b=g) (∃ks m,KeysA n cs l ks m/\Nf ((getA ks m).getD z) λv=>match ok with
   |true=>Nf (getA ks m).isSome λis=>K ⟨opd x++opd i++[.gen b,.knd b],wrT o.dst (.tup [.im (.val v),vB is])⟩
   |false=>K ⟨opd x++opd i++[.gen b,.knd b],wrT o.dst (.im (.val v))⟩)
  |_,_=>False
 |_,_,_=>False
def zmk(n:Nat)(t:TypeId)(x i y:Operand):Prop :=
 match zsc P t,evA σ x,evA σ i,asVal (evA σ y) with
 |some _,.osl b g,.im (.agg cs),some v=>match σ.kd b with
  | .map l=>Side (σ.gn b=g) (∃ks m,KeysA n cs l ks m/\Nf ((setA ks v m).map λp=>(wA p.1,p.2)) λr=>K ⟨opd x++opd i++opd y++[.gen b,.knd b],(.knd b,.kd (.map r))::wrT o.dst (.im (.val undef))⟩)
  |_=>False
 |_,_,_,_=>False
def zor(t:TypeId)(x i y:Operand):Prop :=
 match zsc P t,evA σ x,asVal (evA σ i),asVal (evA σ y) with
 |some (kt,_),.osl b g,some kv,some v=>match σ.kd b,keyD P kt with
  | .map l,some D=>Side (σ.gn b=g) (∃l',setV D kv v l=some l'/\K ⟨opd x++opd i++opd y++[.gen b,.knd b],(.knd b,.kd (.map l'))::wrT o.dst (.im (.val undef))⟩)
  |_,_=>False
 |_,_,_,_=>False
def aDelete(t:TypeId)(x i:Operand):Prop :=
 match zsc P t,evA σ x,asVal (evA σ i) with
 |some (kt,_),.osl b g,some kv=>match σ.kd b,keyD P kt with
  | .map l,some D=>Side (σ.gn b=g) (∃l',delV D kv l=some l'/\K ⟨opd x++opd i++[.gen b,.knd b],(.knd b,.kd (.map l'))::wrT o.dst (.im .any)⟩)
  |_,_=>False
 |_,_,_=>False
def capF(σ:St)(own:List Nat):List Operand->Option (List AV×yad×List (Nat×IV))
 |[]=>some ([],[],[])
 |x::l=>match capF σ own l with
  |some (vs,bs,ws)=>match x with
   | .tmp t=>match own.contains (800000+t) with
    |true=>match fz2 σ (σ.av t) with
     |some (y,b)=>some (.im y::vs,b++bs,(t,y)::ws)
     |none=>none
    |false=>some (σ.av t::vs,bs,ws)
   |x=>some (evA σ x::vs,bs,ws)
  |none=>none
def wrI(ws:List (Nat×IV)):List (Loc×Ct):=ws.map λp=>(.tmp p.1,.av (.im p.2))
def zrw(fn:Fn)(first captured:Array Operand):Prop :=
 match fn with
 | .func g=>match capF σ own captured.toList with
  |some (vs,bs,ws)=>Chk first.isEmpty (zkj σ bs (K ⟨opdL captured.toList++frd σ bs,fwr bs++(wrI ws++wrT o.dst (.fn g vs))⟩))
  |none=>False
 |_=>False
def aBuiltin(b:Builtin)(args:List Operand)(ts:List TypeId):Prop :=
 match b with
 | .len=>match args with
  |[x]=>match ts with
   |t::_=>aLens P o σ K t x
   |[]=>False
  |_=>False
 | .append=>match args with
  |[x,y]=>match ts with
   |[t,t']=>Chk (Nat.beq t' t) (match evA σ x with
    | .sub b g i=>match evA σ y with
     | .sub b' g' j=>aAppendT P o σ K t x y b g i b' g' j
     |_=>aAppendS P o σ K t x y b g i
    |_=>match evA σ y with
     | .osl c gc=>aAppendG P o σ K t x y c gc
     |_=>aAppend P o σ K t x y)
   |_=>False
  |_=>False
 | .max=>match args with
  |[x,y]=>aMax o σ K x y
  |_=>False
 | .min=>match args with
  |[x,y]=>aMin o σ K x y
  |[x,y,z]=>aMin3 o σ K x y z
  |_=>False
 | .clear=>match args,ts with
  |[x],t::_=>aClear P o σ K t x
  |_,_=>False
 | .copy=>match args,ts with
  |[x,y],[t,_]=>aCopy P o σ K t x y
  |_,_=>False
 | .delete=>match args,ts with
  |[x,y],[t,_]=>aDelete P o σ K t x y
  |_,_=>False
 |_=>False
def aCalls(c:Call):Prop :=
 match c.callee with
 | .builtin b=>aBuiltin P o σ K b c.args.toList c.argTypes.toList
 | .value f=>match o.dst with
  |some d=>match own.contains (900000+d) with
   |true=>aCallH own o σ K C f c.args.toList
   |false=>match own.contains (8000000+d) with
    |true=>match own.contains (8700000+d) with
     |true=>aCallR own o σ K C f c.args.toList
     |false=>aCallA own o σ K C f c.args.toList
    |false=>aCall own o σ K C f c.args.toList
  |none=>False
 |_=>False
def aMoves(x:Operand):Prop :=
 match o.dst with
 |some d=>match own.contains (8000000+d) with
  |true=>match fz σ (evA σ x) with
   |some (y,bs)=>zkj σ bs (K ⟨opd x++frd σ bs,fwr bs++[(.tmp d,.av (.im y))]⟩)
   |none=>False
  |false=>K ⟨opd x,[(.tmp d,.av (evA σ x))]⟩
 |none=>K ⟨opd x,[]⟩
def aOp:Prop :=
 match o.op with
 | .move x|.assign x=>aMoves own o σ K x
 | .pick c a b=>aPick o σ K c a b
 | .load t p=>aLoads P o σ K t p
 | .store t p x=>match evA σ p with
  | .elt b g k i j=>match zox (σ.kd b) with
   |true=>aStoreG P o σ K t p x b g k i j
   |false=>aStoreE P own o σ K t p x b g k i j
  | .elt2 b g i k j c=>aStoreS P o σ K t p x b g i k j c
  |_=>aStore P o σ K t p x
 | .box t x=>aBox own o σ K t x
 | .alloc t=>aAllocs P o σ K t
 | .fieldAddr t p f=>zov P o σ K t p f
 | .field t x f=>aField P o σ K t x f
 | .indexAddr t x i=>aIndexes P o σ K t x i
 | .slice t x lo hi mx=>match mx with
  |none=>aSlices P o σ K t x lo hi
  |some m=>aSlice3 P o σ K t x lo hi m
 | .build t parts=>aBuilds P o σ K t parts
 | .index t x i=>aIndexX P o σ K t x i
 | .buildSlice t len parts=>match o.dst with
  |some d=>match own.contains (9000000+d) with
   |true=>aBuildG P o σ K t len parts
   |false=>zkb P own o σ K t len parts
  |none=>False
 | .extract x i=>aExtract o σ K x i
 | .binOp op t x y _=>aBins P o σ K op t x y
 | .unOp op _ x=>aUn o σ K op x
 | .convert src dst x=>Chk (P.underlying src).isSome (aConvert P o σ K dst x)
 | .makeFunc fn first captured=>zrw own o σ K fn first captured
 | .nilCheck x=>zqe o σ K x
 | .makeSlice t len cap=>zod P own o σ K t len cap
 | .makeMap t r=>aMakeMap o σ K t r
 | .lookup t x i ok=>match zsz P t with
  |some n=>aLookupA P o σ K n t x i ok
  |none=>aLookup P o σ K t x i ok
 | .mapUpdate t x i y=>match zsz P t with
  |some n=>zmk P o σ K n t x i y
  |none=>zor P o σ K t x i y
 | .call c=>aCalls P own o σ K C c
 |_=>False
end
def zct(n:Nat)(o:Oper):Bool:=match o.dst with|some d=>decide (d<n)|none=>true
def notBool:Value->Bool
 | .bool _=>false
 |_=>true
def aGuard(P:Program)(C:FuncId->List Arg->Rs->Prop)(n:Nat)(own:List Nat)(ops:List Oper)(o:Oper)(σ:St)(K:Fx->Prop):Prop :=
 Chk (zct n o) (match o.guard with
 |none=>aOp P own o σ K C
 |some (j,want)=>match (ops[j]?).bind (·.dst) with
  |some t=>match asBool (σ.av t) with
   |some b=>Both (b==want) (aOp P own o σ (λfx=>K ⟨.tmp t::fx.rd,fx.wr⟩) C) (K ⟨[.tmp t],wrT o.dst (.im (.val undef))⟩)
   |none=>match σ.av t with
    | .im (.val v)=>Chk (notBool v) (K ⟨[.tmp t],wrT o.dst (.im (.val undef))⟩)
    |_=>False
  |none=>False)
def frcN{α:Sort _}(n:Nat)(K:Nat->α):α:=match n with
 |0=>K 0
 |m+1=>K (m+1)
def frcM{α:Sort _}:Nat->Nat->(Nat->α)->α
 |0,a,K=>K a
 |m+1,a,K=>frcM m (a+1) K
def frcL{α:Sort _}(l:Loc)(K:Loc->α):α:=match l with
 | .tmp t=>frcN t λt=>K (.tmp t)
 | .gen t=>frcN t λt=>K (.gen t)
 | .ign t=>frcN t λt=>K (.ign t)
 | .knd t=>frcN t λt=>K (.knd t)
 | .cel t i=>frcN t λt=>frcN i λi=>K (.cel t i)
def frcA{α:Sort _}(a:AV)(K:AV->α):α:=match a with
 | .im x=>K (.im x)
 | .own o g i=>frcN o λo=>frcN i λi=>K (.own o g i)
 | .osl o g=>frcN o λo=>K (.osl o g)
 | .elt o g k i j=>frcN o λo=>frcN k λk=>frcN j λj=>K (.elt o g k i j)
 | .sub o g i=>frcN o λo=>K (.sub o g i)
 | .elt2 o g i k j c=>frcN o λo=>frcN k λk=>frcN c λc=>K (.elt2 o g i k j c)
 | .osv o g k m=>K (.osv o g k m)
 | .full es=>K (.full es)
 | .fn f caps=>K (.fn f caps)
 | .agg cs=>K (.agg cs)
 | .tup cs=>K (.tup cs)
def frcC{α:Sort _}(c:Ct)(K:Ct->α):α:=match c with
 | .av a=>frcA a λa=>K (.av a)
 | .n g=>K (.n g)
 | .kd k=>match k with
  | .dead=>K (.kd .dead)
  | .box t m=>frcM m 0 λm=>K (.kd (.box t m))
  | .row e k es=>K (.kd (.row e k es))
  | .grid e e' k gs hole=>K (.kd (.grid e e' k gs hole))
  | .map l=>K (.kd (.map l))
  | .bag t e k l hole=>K (.kd (.bag t e k l hole))
  | .mapI left cur=>K (.kd (.mapI left cur))
  | .que e k es=>K (.kd (.que e k es))
def frcN_eq{α:Sort _}(n:Nat)(K:Nat->α):frcN n K=K n:=by cases n<;>rfl
def frcM_eq{α:Sort _}(n a:Nat)(K:Nat->α):frcM n a K=K (a+n):=by
 induction n generalizing a with
 |zero=>rfl
 |succ n ih=>rw[frcM,ih];congr 1;omega
def frcL_eq{α:Sort _}(l:Loc)(K:Loc->α):frcL l K=K l:=by cases l<;>simp only[frcL,frcN_eq]
def frcA_eq{α:Sort _}(l:AV)(K:AV->α):frcA l K=K l:=by cases l<;>simp only[frcA,frcN_eq]
def frcC_eq{α:Sort _}(l:Ct)(K:Ct->α):frcC l K=K l:=by
 cases l with
 |av a=>simp only[frcC,frcA_eq]
 |n g=>rfl
 |kd k=>cases k<;>simp only[frcC,frcM_eq,yal]
abbrev Mk:=Nat×Nat
def p2(n:Nat):Nat:=Nat.mul (Nat.pow 340282366920938463463374607431768211456 (Nat.div n 128)) (Nat.pow 2 (Nat.mod n 128))
def p2_eq(n:Nat):p2 n=2^n:=by
 show(340282366920938463463374607431768211456^(n / 128))*2^(n%128)=2^n;rw[show(340282366920938463463374607431768211456:Nat)=2^128 from by decide,<- Nat.pow_mul,<- Nat.pow_add,yew]
def bit1(m:Nat)(l:Loc):Nat:=Nat.lor m (p2 l.code)
def mskR:List Loc->Nat->Nat
 |[],m=>m
 |l::r,m=>mskR r (bit1 m l)
def mskW:List (Loc×Ct)->Nat->Nat
 |[],m=>m
 |p::r,m=>mskW r (bit1 m p.1)
def fxm(f:Fx):Mk:=(mskR f.rd 0,mskW f.wr 0)
def frcR{α:Sort _}:List Loc->Nat->(Nat->α)->α
 |[],m,K=>K m
 |l::r,m,K=>frcL l λl=>frcN (bit1 m l) λm=>frcR r m K
def frcW{α:Sort _}:List (Loc×Ct)->Nat->St->(Nat->St->α)->α
 |[],m,σ,K=>K m σ
 |p::r,m,σ,K=>frcL p.1 λl=>frcC p.2 λc=>frcN (bit1 m l) λm=>frcW r m (upd σ l c) K
def frcR_eq{α:Sort _}(l:List Loc):∀(m:Nat) (K:Nat->α),frcR l m K=K (mskR l m):=by
 induction l with
 |nil=>intro m K;rfl
 |cons l r ih=>intro m K;simp only[frcR,frcL_eq,frcN_eq,ih,mskR]
def zre{α:Sort _}(l:List (Loc×Ct)):∀(m:Nat) (σ:St) (K:Nat->St->α),frcW l m σ K=K (mskW l m) (app σ l):=by
 induction l with
 |nil=>intro m σ K;rfl
 |cons p r ih=>intro m σ K;simp only[frcW,frcL_eq,frcC_eq,frcN_eq,ih,mskW];rfl
def frcF{α:Sort _}(fx:Fx)(σ:St)(K:Mk->St->α):α:=frcR fx.rd 0 λr=>frcW fx.wr 0 σ λm σ'=>K (r,m) σ'
def frcF_eq{α:Sort _}(fx:Fx)(σ:St)(K:Mk->St->α):frcF fx σ K=K (fxm fx) (app σ fx.wr):=by
 unfold frcF fxm;rw[frcR_eq,zre]
def aOps(P:Program)(C:FuncId->List Arg->Rs->Prop)(n:Nat)(own:List Nat)(ops:List Oper):List Oper->List Mk->St->(List Mk->St->Prop)->Prop
 |[],fs,σ,K=>K fs σ
 |o::l,fs,σ,K=>aGuard P C n own ops o σ λfx=>frcF fx σ λm σ'=>aOps P C n own ops l (fs++[m]) σ' K
def indepM(f g:Mk):Bool:=Nat.beq (Nat.lor (Nat.lor (Nat.land f.2 g.1) (Nat.land f.2 g.2)) (Nat.land g.2 f.1)) 0
def indep(f g:Fx):Bool:=indepM (fxm f) (fxm g)
def zmo(acc:List Nat)(o:Oper):Nat:=o.after.toList.foldl (λs e=>if Region.binds .any e=true then s ||| 2^e.on ||| acc.getD e.on 0 else s) 0
def befs(ops:List Oper):List Nat:=ops.foldl (λacc o=>acc++[zmo acc o]) []
def drawRow(bs:List Nat)(f:Mk)(i:Nat):Nat->List Mk->Bool
 |_,[]=>true
 |j,g::gs=>(indepM f g||(bs.getD j 0).testBit i)&&drawRow bs f i (j+1) gs
def zqj(bs:List Nat):Nat->List Mk->Bool
 |_,[]=>true
 |i,f::fs=>drawRow bs f i (i+1) fs&&zqj bs (i+1) fs
def edgeOk:Nat->List Oper->Bool
 |_,[]=>true
 |i,o::l=>(o.after.toList.all λe=>!Region.binds .any e||Nat.blt e.on i)&&edgeOk (i+1) l
def drawOk(ops:List Oper)(fs:List Mk):Bool:=edgeOk 0 ops&&zqj (befs ops) 0 fs
section
variable (P:Program)(C:FuncId->List Arg->Rs->Prop)(n:Nat)(own:List Nat)
attribute [irreducible] Side Both zb7 Nf Cut zbt
def anyGuard:List Oper->Bool
 |[]=>false
 |o::l=>match o.guard with|some _=>true|none=>match o.op with|.pick _ _ _=>true|_=>anyGuard l
def cntE(id:Nat):List Nat->Nat
 |[]=>0
 |j::l=>match Nat.beq j id with|true=>cntE id l+1|false=>cntE id l
def remE(id:Nat):List Nat->List Nat
 |[]=>[]
 |j::l=>match Nat.beq j id with|true=>remE id l|false=>j::remE id l
def paths:Code->Nat×List Nat
 | .skip=>(1,[])
 | .region _ ops _=>(match anyGuard ops.toList with|true=>2|false=>1,[])
 | .seq a b=>match paths a with
  |(0,e)=>(0,e)
  |(_,e)=>match paths b with|(m,f)=>(m,e++f)
 | .cond _ a b=>match paths a,paths b with|(n,e),(m,f)=>(n+m,e++f)
 | .block id body=>match paths body with
  |(n,e)=>(match n+cntE id e with|0=>0|_=>1,remE id e)
 | .loop body=>(0,(paths body).2)
 | .scope body=>paths body
 | .label _=>(1,[])
 | .exit id=>(0,[id])
 |_=>(0,[])
def one(a:Code):Bool:=Nat.ble (paths a).1 1
def oneB(id:Nat)(a:Code):Bool:=Nat.beq (cntE id (paths a).2) 0
def zje:Code->(Exit->St->Prop)->St->Prop
 | .skip,K,σ=>K .normal σ
 | .region _ ops draw,K,σ=>aOps P C n own ops.toList ops.toList [] σ λfs σ'=>Chk (!draw||drawOk ops.toList fs) (K .normal σ')
 | .seq a b,K,σ=>match one a with
  |true=>zje a (λe σ'=>match e with|.normal=>zje b K σ'|e=>K e σ') σ
  |false=>Cut (λJ=>zje a (λe σ'=>match e with|.normal=>J σ'|e=>K e σ') σ) λσ'=>zje b K σ'
 | .cond c a b,K,σ=>match asBool (evA σ c) with
  |some t=>Both t (zje a K σ) (zje b K σ)
  |none=>False
 | .block id body,K,σ=>match oneB id body with
  |true=>zje body (λe σ'=>match e with|.exit j=>if j=id then K .normal σ' else K (.exit j) σ'|e=>K e σ') σ
  |false=>Cut (λJ=>zje body (λe σ'=>match e with|.normal=>J σ'|.exit j=>if j=id then J σ' else K (.exit j) σ'|e=>K e σ') σ) λσ'=>K .normal σ'
 | .loop body,K,σ=>zb7 (λK' σ'=>zje body K' σ') K σ
 | .exit id,K,σ=>K (.exit id) σ
 | .ret,K,σ=>K .ret σ
 | .scope body,K,σ=>zje body (λe σ'=>match e with|.goto _=>False|e=>K e σ') σ
 | .label _,K,σ=>K .normal σ
 |_,_,_=>False
end
end
section
open Go.RowKit
def RepI.mono{w w':World}{S S':Nat->Prop}(hS:∀b,S b->S' b)(hc:∀p u,S p.block->w.cell? p=some u->w'.cell? p=some u){v:Value}{x:IV}(h:RepI w S v x):RepI w' S' v x:=by
 induction h with
 |val v=>exact .val v
 |any v=>exact .any v
 |ex v h1=>exact .ex v h1
 |emp A c=>exact .emp A c
 |sl b o c k n es us hn hk hcap hs hb hl h1 hu hr ih=>exact .sl b o c k n es us hn hk hcap hs (hS b hb) hl h1 (λi u hi=>hc _ _ hb (hu i u hi)) ih
 |agg us cs hl h1 hr ih=>exact .agg us cs hl h1 ih
 |ref b o us cs hb hl h1 hu hr ih=>exact .ref b o us cs (hS b hb) hl h1 (λi u hi=>hc _ _ hb (hu i u hi)) ih
 |fn f us cs hl hr ih=>exact .fn f us cs hl ih
 |nsl a n c es h ih=>exact .nsl a n c es ih
def RepA.mono{w w':World}{S S':Nat->Prop}{ρ ρ':Ly}{γ γ':Nat->Nat}(hI:∀v x,RepI w S v x->RepI w' S' v x)(hγ:∀o,γ o<=γ' o)(hρ:∀o,γ' o=γ o->ρ' o=ρ o)
  (hi:∀o,ρ.ig o<=ρ'.ig o/\(ρ'.ig o=ρ.ig o->ρ'.inn o=ρ.inn o)) {v:Value} {x:AV} (h:RepA w S ρ γ v x):RepA w' S' ρ' γ' v x:=by
 have key:∀o g,g<=γ o->γ' o=g->γ o=g/\ρ' o=ρ o:=λo g h1 h2=>by
  have:=hγ o;exact⟨by omega,hρ o (by omega)⟩
 have a0:∀o g,g<=ρ.ig o->ρ'.ig o=g->ρ.ig o=g/\ρ'.inn o=ρ.inn o:=λo g h1 h2=>by
  have:=(hi o).1;exact⟨by omega,(hi o).2 (by omega)⟩
 induction h with
 |im v x h=>exact .im v x (hI v x h)
 |own v o g i h1 hg h =>
  refine .own v o g i h1 (ycg hg (hγ o)) λe=>?_;obtain⟨e1,e2⟩:=key o g hg e;rw[e2];exact h e1
 |osl v o g h1 hg h =>
  refine .osl v o g h1 (ycg hg (hγ o)) λe=>?_;obtain⟨e1,e2⟩:=key o g hg e;rw[e2];exact h e1
 |elt v o g k i j h1 hg h =>
  refine .elt v o g k i j h1 (ycg hg (hγ o)) λe=>?_;obtain⟨e1,e2⟩:=key o g hg e;rw[e2];exact h e1
 |sub v o g i h1 hg h =>
  refine .sub v o g i h1 (ycg hg (hi o).1) λe=>?_;obtain⟨e1,e2⟩:=a0 o g hg e;rw[e2];exact h e1
 |osv v o g k m h1 hg h =>
  refine .osv v o g k m h1 (ycg hg (hγ o)) λe=>?_;obtain⟨e1,e2⟩:=key o g hg e;rw[e2];exact h e1
 |elt2 v o g i k j c h1 hg h =>
  refine .elt2 v o g i k j c h1 (ycg hg (hi o).1) λe=>?_;obtain⟨e1,e2⟩:=a0 o g hg e;rw[e2];exact h e1
 |full A n es h=>exact .full A n es (hI _ _ h)
 |fn f us cs hl hr ih=>exact .fn f us cs hl ih
 |agg us cs hl h1 hr ih=>exact .agg us cs hl h1 ih
 |tup us cs hl hr ih=>exact .tup us cs hl ih
def noInn:Kd->Bool
 | .grid _ _ _ _ _=>false
 | .bag _ _ _ _ _=>false
 | .mapI _ _=>false
 |_=>true
def fpk_flat{v:Value}{inn:List Value}{k:Kd}(h:noInn k=true){b:Nat}(hb:b∈fpk v inn k):zb3 v=some b:=by
 cases k with
 |dead=>simp[fpk]at hb
 |grid e e' m gs q=>cases h
 |box t m=>simpa[fpk]using hb
 |row e m es=>simpa[fpk]using hb
 |map l=>simpa[fpk]using hb
 |bag t e m l q=>cases h
 |mapI l c=>cases h
 |que e m es=>simpa[fpk]using hb
def fpk_root{v:Value}{inn:List Value}{k:Kd}(h:k≠.dead){b:Nat}(hb:zb3 v=some b):b∈fpk v inn k:=by
 cases k with
 |dead=>exact absurd rfl h
 |grid e e' m gs q=>simp[fpk,fpv,hb]
 |box t m=>simp[fpk,hb]
 |row e m es=>simp[fpk,hb]
 |map l=>simp[fpk,hb]
 |bag t e m l q=>simp[fpk,fpv,hb]
 |mapI l c=>simp[fpk,fpv,hb]
 |que e m es=>simp[fpk,hb]
def fpk_inn{v u:Value}{inn:List Value}{e e':TypeId}{m:Nat}{gs:List (List IV)}{q:Option Nat}{i b:Nat}(hu:inn[i]?=some u)(hb:zb3 u=some b):b∈fpk v inn (.grid e e' m gs q):=by
 unfold fpk fpv;exact yb5.2 ⟨u,yau _ (zkH hu),hb⟩
def Owns.root{σ:St}{ρ:Ly}{o b:Nat}(hl:live σ o)(hb:zb3 (ρ o)=some b):Owns σ ρ o b:=fpk_root hl hb
def Owns.lv{σ:St}{ρ:Ly}{o b:Nat}(h:Owns σ ρ o b):live σ o:=λe=>by
 unfold Owns at h;rw[e]at h;simp[fpk]at h
def zg1{w:World}{base:Nat}{e:TypeId}{k n:Nat}{v:Value}{us:List Value}(h:w.ownsRow base e k v n us):v.ownBlock=zb3 v:=by
 rcases h.2 with⟨rfl,_⟩|⟨_,_,_,rfl,_⟩<;>rfl
def zg6{w w':World}{base:Nat}{e:TypeId}{k n:Nat}{v:Value}{us:List Value}(h:w.ownsRow base e k v n us)(hb:∀b,zb3 v=some b->w'.heap[b]?=w.heap[b]?):w'.ownsRow base e k v n us:=by
 refine⟨h.1,?_⟩;rcases h.2 with h1|⟨g,cap,cur,e1,e2,e3,e4⟩
 ·exact .inl h1
 ·exact .inr ⟨g,cap,cur,e1,e2,(hb g (by rw[e1];rfl)).trans e3,e4⟩
def zg7.mono{w w':World}{S S':Nat->Prop}{v:Value}{e:TypeId}{k:Nat}{es:List (List IV)}(h:zg7 w S v e k es)(hb:∀b,zb3 v=some b->w'.heap[b]?=w.heap[b]?)(hI:∀u x,RepI w S u x->RepI w' S' u x):zg7 w' S' v e k es:=by
 obtain⟨us,h1,h2,h3,h4,h5,h6,h7⟩:=h;exact⟨us,h1,h2,h3,zg6 h4 hb,h5,h6,λi u x hu hx=>hI _ _ (h7 i u x hu hx)⟩
def zj3.mono{w w':World}{S S':Nat->Prop}{v:Value}{e:TypeId}{k:Nat}{es:List (List IV)}(h:zj3 w S v e k es)(hb:∀b,zb3 v=some b->w'.heap[b]?=w.heap[b]?)(hI:∀u x,RepI w S u x->RepI w' S' u x):zj3 w' S' v e k es:=by
 obtain⟨us,h1,h2,h3,h4,h5,h6,h7⟩:=h;refine⟨us,h1,h2,h3,h4,h5,λi u x hu hx=>hI _ _ (h6 i u x hu hx),?_⟩;rcases h7 with h7|⟨q,off,cap,cur,e1,e2,e3⟩
 ·exact .inl h7
 ·exact .inr ⟨q,off,cap,cur,e1,(hb q (by rw[e1];rfl)).trans e2,e3⟩
def zj3.lt{w:World}{S:Nat->Prop}{v:Value}{e:TypeId}{k:Nat}{es:List (List IV)}(h:zj3 w S v e k es){b:Nat}(hb:zb3 v=some b):b<w.heap.size:=by
 obtain⟨us,h1,h2,h3,h4,h5,h6,h7⟩:=h;rcases h7 with⟨h7,_⟩|⟨q,off,a0,cur,e1,e2,e3⟩
 ·rw[h7]at hb;cases hb
 ·rw[e1]at hb;simp only[zb3,zkF]at hb;subst hb;exact(yb2.1 e2).1
def zg7.que{w:World}{S:Nat->Prop}{v:Value}{e:TypeId}{k:Nat}{es:List (List IV)}(h:zg7 w S v e k es):zj3 w S v e k es:=by
 obtain⟨us,h1,h2,h3,h4,h5,h6,h7⟩:=h;refine⟨us,h1,h2,h3,h5,h6,h7,?_⟩;rcases h4.2 with⟨e1,e2⟩|⟨q,a0,cur,e1,_,e3,e4,e5,e6,e7⟩
 ·exact .inl ⟨e1,yaz e2⟩
 ·refine .inr ⟨q,0,a0,cur,e1,e3,e4,e5,by omega,λj u hu=>?_⟩;rw[<- e7,ybk]at hu;split at hu
  ·rw[yal,<- ya6];exact hu
  ·cases hu
def zig.mono{w w':World}{S S':Nat->Prop}{v:Value}{inn:List Value}{e e':TypeId}{k:Nat}{gs:List (List IV)}{q:Option Nat}(h:zig w S v inn e e' k gs q)(hb:∀b,b∈fpv v inn->w'.heap[b]?=w.heap[b]?)(hI:∀u x,RepI w S u x->RepI w' S' u x):zig w' S' v inn e e' k gs q:=by
 obtain⟨h0,h1,us,h2,h3,h4,h5⟩:=h;refine⟨h0,h1,us,h2,zg6 h3 λb a0=>hb b (by simp[fpv,a0]),h4,λi u hu=>?_⟩;rcases h5 i u hu with h6|⟨h6,es,h7,h8⟩
 ·exact .inl h6
 ·exact .inr ⟨h6,es,h7,h8.mono (λb a0=>hb b (yb5.2 ⟨u,yau _ (zkH hu),a0⟩)) hI⟩
def zdq.mono{w w':World}{S S':Nat->Prop}{v:Value}{inn:List Value}:∀{k:Kd},zdq w S v inn k->(∀b,b∈fpk v inn k->w'.heap[b]?=w.heap[b]?)->(∀u x,RepI w S u x->RepI w' S' u x)->zdq w' S' v inn k
 | .dead,h,_,_=>h
 | .box _ _,h,_,_=>h
 | .row _ _ _,h,hb,hI=>zg7.mono h (λb hb'=>hb b (by simp[fpk,hb'])) hI
 | .grid _ _ _ _ _,h,hb,hI=>zig.mono h hb hI
 | .map _,⟨b,clock,es,h1,h2,h3⟩,hb,_=>⟨b,clock,es,h1,(hb b (by rw[h1];simp[fpk,zb3])).trans h2,h3⟩
 | .bag _ _ _ _ _,h,_,_=>h
 | .mapI _ _,h,_,_=>h
 | .que _ _ _,h,hb,hI=>zj3.mono h (λb hb'=>hb b (by simp[fpk,hb'])) hI
def born_modify(es:Array MapEntry)(j:Nat)(f:MapEntry->MapEntry)(hf:∀e,(f e).born=e.born):(es.modify j f).toList.map (·.born)=es.toList.map (·.born):=by
 apply yca;intro n;rw[yae,yae,ya6,ydh,ya6];by_cases hn:j=n
 ·rw[if_pos hn,Option.map_map];congr 1;funext e;exact hf e
 ·rw[if_neg hn]
def zoo.nil(c:Nat):zoo #[] c:=⟨by simp,by simp⟩
def zoo.push{es:Array MapEntry}{c:Nat}(h:zoo es c)(k v:Value):zoo (es.push { key:=k,val:=v,born:=c }) (c+1):=by
 refine⟨λx hx=>?_,?_⟩
 ·rw[Array.toList_push]at hx;rcases yam.1 hx with hx|hx
  ·exact Nat.lt_succ_of_lt (h.1 x hx)
  ·rw[yag.1 hx];exact ydb _
 ·rw[Array.toList_push,ya0,ybm];refine⟨h.2,by simp,λa ha b hb=>?_⟩;obtain⟨x,hx,rfl⟩:=yao.1 ha;have:=h.1 x hx;simp at hb;omega
def zoo.modify{es:Array MapEntry}{c:Nat}(h:zoo es c)(j:Nat)(f:MapEntry->MapEntry)(hf:∀e,(f e).born=e.born):zoo (es.modify j f) c:=by
 have e:=born_modify es j f hf;refine⟨λx hx=>?_,by rw[e];exact h.2⟩;have:x.born∈es.toList.map (·.born):=by rw[<- e];exact yao.2 ⟨x,hx,rfl⟩
 obtain⟨y,hy,h2⟩:=yao.1 this;rw[<- h2];exact h.1 y hy
def EntOk.mono{w w':World}{S S':Nat->Prop}{t e:TypeId}{k:Nat}{g:Nat×List IV×List (List IV)}{row:Value}(h:EntOk w S t e k g row)(hb:∀b,(g.1=b\/zb3 row=some b)->w'.heap[b]?=w.heap[b]?)(hI:∀u x,RepI w S u x->RepI w' S' u x):EntOk w' S' t e k g row:=by
 obtain⟨us,h2,h3,h4,h5,h6⟩:=h;exact⟨us,(hb g.1 (.inl rfl)).trans h2,h3,h4,λi u x hu hx=>hI _ _ (h5 i u x hu hx),h6.mono (λb a0=>hb b (.inr a0)) hI⟩
def zpq.mono{w w':World}{S S':Nat->Prop}{v:Value}{inn:List Value}{t e:TypeId}{k:Nat}{l:List (Nat×List IV×List (List IV))}(h:zpq w S v inn t e k l)(hb:∀b,b∈fpv v inn->w'.heap[b]?=w.heap[b]?)(hI:∀u x,RepI w S u x->RepI w' S' u x):zpq w' S' v inn t e k l:=by
 obtain⟨h0,h1,rows,h2,h3,h4⟩:=h;refine⟨h0,h1,rows,h2,h3,λi g row hg hr=>(h4 i g row hg hr).mono (λb a0=>hb b ?_) hI⟩;rcases a0 with a0|a0
 ·exact yb5.2 ⟨pv g.1,yau _ (by rw[h3];exact yan _ (yao.2 ⟨g,zkH hg,rfl⟩)),by rw[<- a0];rfl⟩
 ·exact yb5.2 ⟨row,yau _ (by rw[h3];exact yai _ (zkH hr)),a0⟩
def GoOk.mono{w w':World}{S S':Nat->Prop}{v:Value}{inn:List Value}{left:List IV}{cur:Option IV}(h:GoOk w S v inn left cur)(hb:∀b,b∈fpv v inn->w'.heap[b]?=w.heap[b]?)(hI:∀u x,RepI w S u x->RepI w' S' u x):GoOk w' S' v inn left cur:=by
 obtain⟨b,r,a0,a3,c0,es,a4,rd,h1,h2,h3,h4,h5,h6,h7,h8,h9,a2,a6⟩:=h;exact⟨b,r,a0,a3,c0,es,a4,rd,h1,h2,h3,(hb b (by rw[h1];simp[fpv,zb3])).trans h4,(hb r (by rw[h2];simp[fpv,zb3])).trans h5,h6,h7,h8,h9,λx hx=>hI _ _ (a2 x hx),a6⟩
def zg7.lt{w:World}{S:Nat->Prop}{v:Value}{e:TypeId}{k:Nat}{es:List (List IV)}(h:zg7 w S v e k es){b:Nat}(hb:zb3 v=some b):b<w.heap.size:=by
 obtain⟨us,h1,h2,h3,h4,_⟩:=h;exact(h4.lt b ((zg1 h4).trans hb)).2
def zdq.lt{w:World}{S:Nat->Prop}{v:Value}{inn:List Value}:∀{k:Kd},zdq w S v inn k->∀{b},b∈fpk v inn k->b<w.heap.size
 | .dead,h,_,_=>h.elim
 | .box _ _,h,_,_=>h.elim
 | .row _ _ _,h,b,hb=>zg7.lt h (by simpa[fpk]using hb)
 | .map _,⟨q,clock,es,h1,h2,h3⟩,b,hb=>by
  rw[h1]at hb;simp[fpk,zb3]at hb;subst hb;exact(yb2.1 h2).1
 | .bag _ _ _ _ _,h,_,_=>h.elim
 | .mapI _ _,h,_,_=>h.elim
 | .que _ _ _,h,b,hb=>zj3.lt h (by simpa[fpk]using hb)
 | .grid e e' k gs q,⟨h0,h1,us,h2,h3,h4,h5⟩,b,hb=>by
  obtain⟨u,hu,hub⟩:=yb5.1 (show b∈fpv v inn from hb);rcases yaw.1 hu with rfl|hu
  ·exact(h3.lt b ((zg1 h3).trans hub)).2
  ·obtain⟨i,hi⟩:=ych hu;rcases h5 i u hi with h6|⟨h6,es,h7,h8⟩
   ·rw[h6.2]at hub;cases hub
   ·exact h8.lt hub
def zpq.lt{w:World}{S:Nat->Prop}{v:Value}{inn:List Value}{t e:TypeId}{k:Nat}{l:List (Nat×List IV×List (List IV))}(h:zpq w S v inn t e k l){b:Nat}(hb:b∈fpv v inn):b<w.heap.size:=by
 obtain⟨h0,h1,rows,h2,h3,h4⟩:=h;obtain⟨u,hu,a0⟩:=yb5.1 hb;rcases yaw.1 hu with rfl|hu
 ·rw[h0]at a0;cases a0
 ·rw[h3]at hu;rcases yam.1 hu with hu|hu
  ·obtain⟨g,hg,rfl⟩:=yao.1 hu;obtain⟨i,hi⟩:=ych hg;have a2:i<rows.length:=by rw[h2];exact(zkI.1 hi).1
   obtain⟨us,e2,_⟩:=h4 i g _ hi (zkM a2);simp only[zb3,zkF]at a0;subst a0;exact(yb2.1 e2).1
  ·obtain⟨i,hi⟩:=ych hu;have a2:i<l.length:=by rw[<- h2];exact(zkI.1 hi).1
   obtain⟨us,e2,e3,e4,e5,e6⟩:=h4 i _ _ (zkM a2) hi;exact e6.lt a0
def GoOk.lt{w:World}{S:Nat->Prop}{v:Value}{inn:List Value}{left:List IV}{cur:Option IV}(h:GoOk w S v inn left cur){b:Nat}(hb:b∈fpv v inn):b<w.heap.size:=by
 obtain⟨q,r,a0,a2,c0,es,a3,rd,h1,h2,h3,h4,h5,_⟩:=h;rw[h1,h2]at hb;simp only[fpv,zb3,yce,List.filterMap_nil,yaw,yfa,or_false]at hb;rcases hb with rfl|rfl
 ·exact(yb2.1 h4).1
 ·exact(yb2.1 h5).1
structure zgp(σ σ':St):Prop where
 gn:σ'.gn=σ.gn
 ig:σ'.ig=σ.ig
 kd:σ'.kd=σ.kd
 ce:σ'.ce=σ.ce
def zgp.tmp(σ:St)(d:Nat)(c:Ct):zgp σ (upd σ (.tmp d) c):=⟨funext λ_=>gn_tmp σ d _ c,funext λ_=>ig_tmp σ d _ c,funext λ_=>kd_tmp σ d _ c,funext λ_=>funext λ_=>ce_tmp σ d _ _ c⟩
def Imm.same{B:Base}{σ σ':St}(h:σ'.kd=σ.kd)(ρ:Ly)(w:World):Imm B σ' ρ w=Imm B σ ρ w:=by
 unfold Imm Owns;rw[h]
def zkl.of_hold{B:Base}{σ:St}{ρ:Ly}{w:World}{o:Nat}{k:Kd}(hb:∀t m,k≠.box t m)(h:zdq w (Imm B σ ρ w) (ρ o) (ρ.inn o) k):zkl B σ ρ w o k:=by
 cases k with
 |dead=>trivial
 |box t m=>exact absurd rfl (hb t m)
 |row e m es=>exact h
 |grid e e' m gs q=>exact h
 |map l=>exact h
 |bag t e m l q=>exact h.elim
 |mapI l c=>exact h.elim
 |que e m es=>exact h
def zkl.mono{B B':Base}{σ σ':St}{ρ ρ':Ly}{w w':World}{o:Nat}{k:Kd}(hk:zkl B σ ρ w o k)(hρ:ρ' o=ρ o)(hinn:ρ'.inn o=ρ.inn o)(hce:∀i,σ'.ce o i=σ.ce o i)(hb:∀b,b∈fpk (ρ o) (ρ.inn o) k->w'.heap[b]?=w.heap[b]?)
  (hI:∀v x,RepI w (Imm B σ ρ w) v x->RepI w' (Imm B' σ' ρ' w') v x) (hA:∀v x,RepA w (Imm B σ ρ w) ρ σ.gn v x->RepA w' (Imm B' σ' ρ' w') ρ' σ'.gn v x):zkl B' σ' ρ' w' o k:=by
 cases k with
 |dead=>trivial
 |box t m =>
  obtain⟨b,us,h1,h3,h4,h5,h6⟩:=hk;refine⟨b,us,hρ.trans h1,(hb b (by rw[h1];simp[fpk,zb3])).trans h3,h4,h5,λi u hu=>?_⟩;rw[hce];exact hA _ _ (h6 i u hu)
 |row e m es=>show zdq w' (Imm B' σ' ρ' w') (ρ' o) (ρ'.inn o) (.row e m es);rw[hρ,hinn];exact zdq.mono (k:=.row e m es) hk hb hI
 |grid e e' m gs q=>show zdq w' (Imm B' σ' ρ' w') (ρ' o) (ρ'.inn o) (.grid e e' m gs q);rw[hρ,hinn];exact zdq.mono (k:=.grid e e' m gs q) hk hb hI
 |map l=>show zdq w' (Imm B' σ' ρ' w') (ρ' o) (ρ'.inn o) (.map l);rw[hρ,hinn];exact zdq.mono (k:=.map l) hk hb hI
 |bag t e m l q =>
  show zpq w' (Imm B' σ' ρ' w') (ρ' o) (ρ'.inn o) t e m l/\_;rw[hρ,hinn,hce];exact⟨zpq.mono hk.1 hb hI,λp hp=>hA _ _ (hk.2 p hp)⟩
 |mapI l c =>
  show GoOk w' (Imm B' σ' ρ' w') (ρ' o) (ρ'.inn o) l c;rw[hρ,hinn];exact GoOk.mono hk hb hI
 |que e m es=>show zdq w' (Imm B' σ' ρ' w') (ρ' o) (ρ'.inn o) (.que e m es);rw[hρ,hinn];exact zdq.mono (k:=.que e m es) hk hb hI
def zkl.lt{B:Base}{σ:St}{ρ:Ly}{w:World}{o:Nat}{k:Kd}(hk:zkl B σ ρ w o k){b:Nat}(hb:b∈fpk (ρ o) (ρ.inn o) k):b<w.heap.size:=by
 cases k with
 |dead=>simp[fpk]at hb
 |box t m =>
  obtain⟨q,us,h1,h3,_⟩:=hk;rw[h1]at hb;simp[fpk,zb3]at hb;subst hb;exact(yb2.1 h3).1
 |row e m es=>exact zdq.lt (S:=Imm B σ ρ w) (k:=.row e m es) hk hb
 |grid e e' m gs q=>exact zdq.lt (S:=Imm B σ ρ w) (k:=.grid e e' m gs q) hk hb
 |map l=>exact zdq.lt (S:=Imm B σ ρ w) (k:=.map l) hk hb
 |bag t e m l q=>exact zpq.lt hk.1 hb
 |mapI l c=>exact GoOk.lt hk hb
 |que e m es=>exact zdq.lt (S:=Imm B σ ρ w) (k:=.que e m es) hk hb
def put_getD(a:Act)(d:Tmp)(u:Value)(t:Nat)(hd:d<a.tmps.size):(a.put (some d) u).tmps.getD t undef=if t=d then u else a.tmps.getD t undef:=by
 simp only[Act.put,ycy,Array.getElem?_setIfInBounds];by_cases h:t=d
 ·subst h;simp[hd]
 ·rw[if_neg (λe=>h e.symm),if_neg h]
def SatR.stepZ{B:Base}{σ σ':St}{a:Act}{w w':World}{ρ ρ':Ly}(h:SatR B σ a w ρ)(D Z':Nat->Prop)(hav:∀t,σ'.av t=σ.av t)
  (hout:∀o,¬D o->σ'.kd o=σ.kd o/\σ'.gn o=σ.gn o/\(∀i,σ'.ce o i=σ.ce o i)/\ρ' o=ρ o/\ρ'.inn o=ρ.inn o/\ρ'.ig o=ρ.ig o)
  (hin:∀o,D o->(σ.gn o<=σ'.gn o/\(σ'.gn o=σ.gn o->ρ' o=ρ o))/\ρ.ig o<=ρ'.ig o/\(ρ'.ig o=ρ.ig o->ρ'.inn o=ρ.inn o))
  (hig:∀o,ρ'.ig o=σ'.ig o) (hw:Belo (λb=>B.Z b\/∃o,D o/\Owns σ ρ o b) w.heap.size w w') (hfp:∀o b,D o->Owns σ' ρ' o b->w.heap.size<=b\/B.Z b\/∃p,D p/\Owns σ ρ p b)
  (hdis:∀o p b,D o->D p->Owns σ' ρ' o b->Owns σ' ρ' p b->o=p) (hz:∀b,Z' b->b<w'.heap.size/\(w.heap.size<=b\/B.Z b\/∃p,D p/\Owns σ ρ p b)/\∀o,D o->¬Owns σ' ρ' o b)
  (hob:(∀v x,RepI w (Imm B σ ρ w) v x->RepI w' (Imm { B with Z:=Z' } σ' ρ' w') v x)->(∀v x,RepA w (Imm B σ ρ w) ρ σ.gn v x->RepA w' (Imm { B with Z:=Z' } σ' ρ' w') ρ' σ'.gn v x)->∀o,D o->zkl { B with Z:=Z' } σ' ρ' w' o (σ'.kd o)) :
  SatR { B with Z:=Z' } σ' a w' ρ'/\(∀v x,RepI w (Imm B σ ρ w) v x->RepI w' (Imm { B with Z:=Z' } σ' ρ' w') v x)/\(∀v x,RepA w (Imm B σ ρ w) ρ σ.gn v x->RepA w' (Imm { B with Z:=Z' } σ' ρ' w') ρ' σ'.gn v x)/\∀b,Imm B σ ρ w b->Imm { B with Z:=Z' } σ' ρ' w' b:=by
 have a0:∀o b,¬D o->(Owns σ' ρ' o b↔Owns σ ρ o b):=λo b hd=>by
  obtain⟨h1,_,_,h2,h3,_⟩:=hout o hd;unfold Owns;rw[h1,h2,h3]
 have a4:∀b,(w.heap.size<=b\/B.Z b\/∃p,D p/\Owns σ ρ p b)->Mine B b:=λb hb=>by
  rcases hb with h1|h1|⟨p,_,h1⟩
  ·exact .inl (ycg h.bel.size h1)
  ·exact(h.res b h1).1.1
  ·exact(h.own p b h1).1
 have a6:∀b,Imm B σ ρ w b->¬(w.heap.size<=b\/B.Z b\/∃p,D p/\Owns σ ρ p b):=λb hi hb=>by
  rcases hb with h1|h1|⟨p,_,h1⟩
  ·have:=hi.2.1;omega
  ·exact hi.2.2.2 h1
  ·exact hi.2.2.1 p h1
 have a3:∀b,Imm B σ ρ w b->Imm { B with Z:=Z' } σ' ρ' w' b:=λb hi=>⟨hi.1,yct hi.2.1 hw.size,λo ho=>by
  by_cases hd:D o
  ·exact a6 b hi (hfp o b hd ho)
  ·exact hi.2.2.1 o ((a0 o b hd).1 ho),λhb=>a6 b hi (hz b hb).2.1⟩
 have a8:∀b,Imm B σ ρ w b->w'.heap[b]?=w.heap[b]?:=λb hi=>hw.block b hi.2.1 λhb=>by
  rcases hb with h1|⟨o,_,ho⟩
  ·exact hi.2.2.2 h1
  ·exact hi.2.2.1 o ho
 have hI:∀v x,RepI w (Imm B σ ρ w) v x->RepI w' (Imm { B with Z:=Z' } σ' ρ' w') v x:=λv x hr =>
  hr.mono a3 λp u hi hu=>(World.cell?_of_block (w:=w) (a8 p.block hi)).trans hu
 have hA:∀v x,RepA w (Imm B σ ρ w) ρ σ.gn v x->RepA w' (Imm { B with Z:=Z' } σ' ρ' w') ρ' σ'.gn v x:=λv x hr=>by
  refine hr.mono hI (λo=>?_) (λo e=>?_) λo=>?_
  ·by_cases hd:D o
   ·exact(hin o hd).1.1
   ·rw[(hout o hd).2.1];exact yaq _
  ·by_cases hd:D o
   ·exact(hin o hd).1.2 e
   ·exact(hout o hd).2.2.2.1
  ·by_cases hd:D o
   ·exact(hin o hd).2
   ·obtain⟨_,_,_,_,h3,h4⟩:=hout o hd;exact⟨by rw[h4];exact yaq _,λ_=>h3⟩
 have hob:=hob hI hA
 have a5:∀o,zkl { B with Z:=Z' } σ' ρ' w' o (σ'.kd o):=λo=>by
  by_cases hd:D o
  ·exact hob o hd
  ·obtain⟨h1,h2,h3,h4,h5,h6⟩:=hout o hd;rw[h1];refine(h.obs o).mono h4 h5 h3 (λb hb=>hw.block b (h.own o b hb).2 λhn=>?_) hI hA;rcases hn with hn|⟨p,hp,hpb⟩
   ·exact(h.res b hn).2 o hb
   ·have:=h.dis o p b hb hpb;subst this;exact hd hp
 have a2:∀o b,¬D o->Owns σ ρ o b->¬(w.heap.size<=b\/B.Z b\/∃p,D p/\Owns σ ρ p b):=λo b hd ho hb=>by
  rcases hb with h1|h1|⟨p,hp,h1⟩
  ·have:=(h.own o b ho).2;omega
  ·exact(h.res b h1).2 o ho
  ·have:=h.dis o p b ho h1;subst this;exact hd hp
 refine⟨⟨h.bel.trans ⟨hw.os,hw.tape,hw.output,hw.size,λk hk a9=>hw.block k (yct hk h.bel.size) λhn=>?_⟩,a5,λo b ho=>⟨?_,(a5 o).lt ho⟩,λo p b ho hp=>?_,λt=>?_,hig,λb hb=>?_,λo v hl b0=>?_,h.siz,h.dfr⟩,hI,hA,a3⟩
 ·have h3:Mine B k:=by
   rcases hn with hn|⟨o,_,ho⟩
   ·exact(h.res k hn).1.1
   ·exact(h.own o k ho).1
  rcases h3 with h3|h3
  ·omega
  ·exact a9 h3
 ·by_cases hd:D o
  ·exact a4 b (hfp o b hd ho)
  ·exact(h.own o b ((a0 o b hd).1 ho)).1
 ·by_cases h1:D o
  ·by_cases h2:D p
   ·exact hdis o p b h1 h2 ho hp
   ·exact absurd (hfp o b h1 ho) (a2 p b h2 ((a0 p b h2).1 hp))
  ·have a7:=(a0 o b h1).1 ho;by_cases h2:D p
   ·exact absurd (hfp p b h2 hp) (a2 o b h1 a7)
   ·exact h.dis o p b a7 ((a0 p b h2).1 hp)
 ·rw[hav];exact hA _ _ (h.tms t)
 ·obtain⟨h1,h2,h3⟩:=hz b hb;refine⟨⟨a4 b h2,h1⟩,λo ho=>?_⟩;by_cases hd:D o
  ·exact h3 o hd ho
  ·exact a2 o b hd ((a0 o b hd).1 ho) h2
 ·by_cases hd:D o
  ·obtain⟨h1,h2⟩:=(hin o hd).1;rw[h2 (by omega)];exact h.rt o v hl (by omega)
  ·obtain⟨_,h1,_,h2,_⟩:=hout o hd;rw[h2];exact h.rt o v hl (by rw[<- h1];exact b0)
def SatR.step{B:Base}{σ σ':St}{a:Act}{w w':World}{ρ ρ':Ly}(h:SatR B σ a w ρ)(D:Nat->Prop)(hav:∀t,σ'.av t=σ.av t)
  (hout:∀o,¬D o->σ'.kd o=σ.kd o/\σ'.gn o=σ.gn o/\(∀i,σ'.ce o i=σ.ce o i)/\ρ' o=ρ o/\ρ'.inn o=ρ.inn o/\ρ'.ig o=ρ.ig o)
  (hin:∀o,D o->(σ.gn o<=σ'.gn o/\(σ'.gn o=σ.gn o->ρ' o=ρ o))/\ρ.ig o<=ρ'.ig o/\(ρ'.ig o=ρ.ig o->ρ'.inn o=ρ.inn o))
  (hig:∀o,ρ'.ig o=σ'.ig o) (hw:Belo (λb=>∃o,D o/\Owns σ ρ o b) w.heap.size w w') (hfp:∀o b,D o->Owns σ' ρ' o b->w.heap.size<=b\/∃p,D p/\Owns σ ρ p b)
  (hdis:∀o p b,D o->D p->Owns σ' ρ' o b->Owns σ' ρ' p b->o=p)
  (hob:(∀v x,RepI w (Imm B σ ρ w) v x->RepI w' (Imm B σ' ρ' w') v x)->(∀v x,RepA w (Imm B σ ρ w) ρ σ.gn v x->RepA w' (Imm B σ' ρ' w') ρ' σ'.gn v x)->∀o,D o->zkl B σ' ρ' w' o (σ'.kd o)) :
  SatR B σ' a w' ρ'/\(∀v x,RepI w (Imm B σ ρ w) v x->RepI w' (Imm B σ' ρ' w') v x)/\∀v x,RepA w (Imm B σ ρ w) ρ σ.gn v x->RepA w' (Imm B σ' ρ' w') ρ' σ'.gn v x:=by
 obtain⟨h1,h2,h3,_⟩:=h.stepZ D B.Z hav hout hin hig ⟨hw.os,hw.tape,hw.output,hw.size,λk hk hn=>hw.block k hk λhh=>hn (.inr hh)⟩ (λo b hd ho=>(hfp o b hd ho).elim .inl λh=>.inr (.inr h)) hdis
  (λb hb=>⟨yct (h.res b hb).1.2 hw.size,.inr (.inl hb),λo hd ho=>by
   rcases hfp o b hd ho with h1|⟨p,_,h1⟩
   ·have:=(h.res b hb).1.2;omega
   ·exact(h.res b hb).2 p h1⟩) hob
 exact⟨h1,h2,h3⟩
def SatR.slots{B:Base}{σ σ':St}{a a':Act}{w:World}{ρ:Ly}(h:SatR B σ a w ρ)(hs:zgp σ σ')(ht:∀t,RepA w (Imm B σ ρ w) ρ σ.gn (a'.tmps.getD t undef) (σ'.av t))(hz:a'.tmps.size=B.n)(hd:a'.defers=B.ds):SatR B σ' a' w ρ:=by
 have a0:∀o b,Owns σ' ρ o b↔Owns σ ρ o b:=λo b=>by unfold Owns;rw[hs.kd]
 refine⟨h.bel,λo=>?_,λo b ho=>h.own o b ((a0 o b).1 ho),λo p b ho hp=>h.dis o p b ((a0 o b).1 ho) ((a0 p b).1 hp),λt=>?_,λo=>by rw[hs.ig];exact h.igs o,λb hb=>⟨(h.res b hb).1,λo ho=>(h.res b hb).2 o ((a0 o b).1 ho)⟩,λo v hl hg=>h.rt o v hl (by rw[<- hs.gn];exact hg),hz,hd⟩
 ·rw[hs.kd];refine(h.obs o).mono rfl rfl (λi=>by rw[hs.ce]) (λ_ _=>rfl) (λv x hr=>by rw[Imm.same hs.kd];exact hr) λv x hr=>by rw[Imm.same hs.kd,hs.gn];exact hr
 ·rw[Imm.same hs.kd,hs.gn];exact ht t
def SatR.put{B:Base}{σ:St}{a:Act}{w:World}{ρ:Ly}(h:SatR B σ a w ρ){d:Option Tmp}(hd:∀t,d=some t->t<B.n){u:Value}{v:AV}(hv:RepA w (Imm B σ ρ w) ρ σ.gn u v) :
  SatR B (app σ (wrT d v)) (a.put d u) w ρ:=by
 cases d with
 |none=>exact h
 |some d =>
  have a0:d<a.tmps.size:=by rw[h.siz];exact hd d rfl
  refine h.slots (zgp.tmp σ d (.av v)) (λt=>?_) (by simp[Act.put,h.siz]) h.dfr;show RepA _ _ _ _ _ ((upd σ (.tmp d) (.av v)).av t);rw[put_getD a d u t a0,zqv];by_cases e:t=d
  ·rw[if_pos e,if_pos e];exact hv
  ·rw[if_neg e,if_neg e];exact h.tms t
def SatR.world{B:Base}{σ:St}{a:Act}{w w':World}{ρ:Ly}(h:SatR B σ a w ρ)(hb:Below w.heap.size w w'):SatR B σ a w' ρ/\∀v x,RepI w (Imm B σ ρ w) v x->RepI w' (Imm B σ ρ w') v x:=by
 obtain⟨h1,h2,_⟩:=h.step (σ':=σ) (ρ':=ρ) (w':=w') (λ_=>False) (λ_=>rfl) (λo _=>⟨rfl,rfl,λ_=>rfl,rfl,rfl,rfl⟩) (λo hd=>hd.elim) h.igs (.of hb) (λo b hd=>hd.elim) (λo p b hd=>hd.elim) λ_ _ o hd=>hd.elim;exact⟨h1,h2⟩
def SatR.kill{B:Base}{σ:St}{a:Act}{w:World}{ρ:Ly}(h:SatR B σ a w ρ)(d:Nat):SatR B (upd σ (.knd d) (.kd .dead)) a w ρ/\∀v x,RepI w (Imm B σ ρ w) v x->RepI w (Imm B (upd σ (.knd d) (.kd .dead)) ρ w) v x:=by
 obtain⟨h1,h2,_⟩:=h.step (σ':=upd σ (.knd d) (.kd .dead)) (ρ':=ρ) (w':=w) (λo=>o=d) (λt=>zg8 σ d t _) (λo hd=>⟨by rw[zei,if_neg hd],zfe σ d o _,λi=>zh1 σ d o i _,rfl,rfl,rfl⟩)
  (λo _=>⟨⟨by rw[zfe];exact yaq _,λ_=>rfl⟩,yaq _,λ_=>rfl⟩) (λo=>by rw[zh7];exact h.igs o) (Belo.refl _ _ _) (λo b hd ho=>by
   subst hd
   exact absurd (by rw[zei,if_pos rfl]) ho.lv) (λo p b hd hp _ _=>hd.trans hp.symm) λ_ _ o hd=>by subst hd;rw[zei,if_pos rfl];trivial
 exact⟨h1,h2⟩
def SatR.kills{B:Base}{a:Act}{w:World}{ρ:Ly}:∀(bs:yad) {σ:St},SatR B σ a w ρ->SatR B (app σ (fwr bs)) a w ρ/\∀v x,RepI w (Imm B σ ρ w) v x->RepI w (Imm B (app σ (fwr bs)) ρ w) v x
 |[],σ,h=>⟨h,λ_ _ hr=>hr⟩
 |b::bs,σ,h=>by
  obtain⟨h1,h2⟩:=h.kill b.1;obtain⟨h3,h4⟩:=SatR.kills bs h1;exact⟨h3,λv x hr=>h4 v x (h2 v x hr)⟩
def zp5(b:Nat)(cs:List AV):∀(i:Nat) (σ:St),(app σ (zfg b i cs)).gn=σ.gn:=by
 induction cs with
 |nil=>intro i σ;rfl
 |cons c cs ih=>intro i σ;rw[zfg,zb6,ih];exact funext λt=>gn_cel σ b i t _
def celWr_ig(b:Nat)(cs:List AV):∀(i:Nat) (σ:St),(app σ (zfg b i cs)).ig=σ.ig:=by
 induction cs with
 |nil=>intro i σ;rfl
 |cons c cs ih=>intro i σ;rw[zfg,zb6,ih];exact funext λt=>ig_cel σ b i t _
def znu(b:Nat)(cs:List AV):∀(i:Nat) (σ:St),(app σ (zfg b i cs)).kd=σ.kd:=by
 induction cs with
 |nil=>intro i σ;rfl
 |cons c cs ih=>intro i σ;rw[zfg,zb6,ih];exact funext λt=>kd_cel σ b i t _
def zpv(b:Nat)(cs:List AV):∀(i:Nat) (σ:St),(app σ (zfg b i cs)).av=σ.av:=by
 induction cs with
 |nil=>intro i σ;rfl
 |cons c cs ih=>intro i σ;rw[zfg,zb6,ih];exact funext λt=>av_cel σ b i t _
def zlx(b:Nat)(cs:List AV):∀(i:Nat) (σ:St) (p j:Nat),(app σ (zfg b i cs)).ce p j=if p=b/\i<=j/\j<i+cs.length then cs.getD (j-i) (.im .any) else σ.ce p j:=by
 induction cs with
 |nil =>
  intro i σ p j;rw[if_neg (λe=>by have:=e.2;simp only[ya8]at this;omega)];rfl
 |cons c cs ih =>
  intro i σ p j;rw[zfg,zb6,ih,ce_cel];simp only[zkL];by_cases hp:p=b
  ·by_cases hj:j=i
   ·subst hj;rw[if_neg (by omega),if_pos ⟨hp,rfl⟩,if_pos ⟨hp,by omega,by omega⟩];simp
   ·by_cases h:i+1<=j/\j<i+1+cs.length
    ·rw[if_pos ⟨hp,h⟩,if_pos ⟨hp,by omega,by omega⟩];obtain⟨m,hm⟩:∃m,j-i=m+1:=⟨j-i-1,by omega⟩;rw[hm,show j-(i+1)=m from by omega];simp
    ·rw[if_neg (λe=>h e.2),if_neg (λe=>hj e.2),if_neg (λe=>h (by omega))]
  ·rw[if_neg (λe=>hp e.1),if_neg (λe=>hp e.1),if_neg (λe=>hp e.1)]
def zaz(σ:St)(u v:List (Loc×Ct)):app σ (u++v)=app (app σ u) v:=by
 induction u generalizing σ with
 |nil=>rfl
 |cons p u ih=>exact ih _
def zeo(σ:St)(used:Option Nat)(d:Nat)(k:Kd)(cs:List AV):St :=
 app (app (match used with|some b=>upd σ (.knd b) (.kd .dead)|none=>σ) [(.gen d,.n (σ.gn d+1)),(.knd d,.kd k)]) (zfg d 0 cs)
def setρ(ρ:Ly)(d:Nat)(v:Value):Ly:={ ρ with root:=λo=>if o=d then v else ρ o }
def setρ_eq(ρ:Ly)(d:Nat)(v:Value)(o:Nat):(setρ ρ d v) o=if o=d then v else ρ o:=rfl
def zjz(σ:St)(used:Option Nat)(d:Nat)(k:Kd)(cs:List AV)(o:Nat):(zeo σ used d k cs).gn o=if o=d then σ.gn d+1 else σ.gn o:=by
 unfold zeo;rw[zp5];simp only[zb6,zeq];rw[zfe,gn_gen];cases used with
 |none=>rfl
 |some b=>simp only[zfe]
def zls(σ:St)(used:Option Nat)(d:Nat)(k:Kd)(cs:List AV)(o:Nat):(zeo σ used d k cs).kd o=if o=d then k else if used=some o then .dead else σ.kd o:=by
 unfold zeo;rw[znu];simp only[zb6,zeq];rw[zei,kd_gen];cases used with
 |none=>simp
 |some b =>
  simp only[zei,zkF];by_cases e:o=d
  ·simp[e]
  ·by_cases e2:o=b
   ·subst e2;simp
   ·rw[if_neg e,if_neg e,if_neg e2,if_neg (λh=>e2 h.symm)]
def newSt_av(σ:St)(used:Option Nat)(d:Nat)(k:Kd)(cs:List AV)(t:Nat):(zeo σ used d k cs).av t=σ.av t:=by
 unfold zeo;rw[zpv];simp only[zb6,zeq];rw[zg8,av_gen];cases used with
 |none=>rfl
 |some b=>simp only[zg8]
def newSt_ce(σ:St)(used:Option Nat)(d:Nat)(k:Kd)(cs:List AV)(o i:Nat)(h:o≠d):(zeo σ used d k cs).ce o i=σ.ce o i:=by
 unfold zeo;rw[zlx,if_neg (λe=>h e.1)];simp only[zb6,zeq];rw[zh1,ce_gen];cases used with
 |none=>rfl
 |some b=>simp only[zh1]
def newSt_new(σ:St)(used:Option Nat)(d:Nat)(k:Kd)(cs:List AV)(i:Nat)(h:i<cs.length):(zeo σ used d k cs).ce d i=cs.getD i (.im .any):=by
 unfold zeo;rw[zlx,if_pos ⟨rfl,by omega,by omega⟩];rfl
def newSt_ig(σ:St)(used:Option Nat)(d:Nat)(k:Kd)(cs:List AV)(o:Nat):(zeo σ used d k cs).ig o=σ.ig o:=by
 unfold zeo;rw[celWr_ig];simp only[zb6,zeq];rw[zh7,ig_gen];cases used with
 |none=>rfl
 |some b=>simp only[zh7]
section
variable {B:Base}{σ:St}{a:Act}{w w':World}{ρ:Ly}{used:Option Nat}{d:Nat}{k:Kd}{cs:List AV}{hv:Value}{row:Option Nat}
structure zo7(σ:St)(w w':World)(ρ:Ly)(used:Option Nat)(hv:Value)(row:Option Nat):Prop where
 grown:w.grownBy w' row
 used_:∀b,row=some b->∃o,used=some o/\Owns σ ρ o b
 lies:∀b,zb3 hv=some b->row=some b\/w.heap.size<=b
def SatR.new(h:SatR B σ a w ρ)(m:zo7 σ w w' ρ used hv row)(hk:noInn k=true)(hobj:(∀v x,RepI w (Imm B σ ρ w) v x->RepI w' (Imm B (zeo σ used d k cs) (setρ ρ d hv) w') v x) ->
  (∀v x,RepA w (Imm B σ ρ w) ρ σ.gn v x->RepA w' (Imm B (zeo σ used d k cs) (setρ ρ d hv) w') (setρ ρ d hv) (zeo σ used d k cs).gn v x)->zkl B (zeo σ used d k cs) (setρ ρ d hv) w' d k) :
  SatR B (zeo σ used d k cs) a w' (setρ ρ d hv):=by
 have hD:∀o,¬(o=d\/used=some o)->o≠d/\used≠some o:=λo hd=>⟨λe=>hd (.inl e),λe=>hd (.inr e)⟩;refine(h.step (λo=>o=d\/used=some o) (λt=>newSt_av ..) (λo hd=>?_) (λo hd=>?_) (λo=>by rw[newSt_ig];exact h.igs o) ?_ (λo b hd ho=>?_) (λo p b hd hp ho a3=>?_) λhI hA o hd=>?_).1
 ·obtain⟨h1,h2⟩:=hD o hd;exact⟨by rw[zls,if_neg h1,if_neg h2],by rw[zjz,if_neg h1],λi=>newSt_ce _ _ _ _ _ _ _ h1,by rw[setρ_eq,if_neg h1],rfl,rfl⟩
 ·refine⟨⟨by rw[zjz];split<;>(try subst_vars)<;>omega,λe=>?_⟩,yaq _,λ_=>rfl⟩;rw[zjz]at e;by_cases e2:o=d
  ·rw[if_pos e2,e2]at e;omega
  ·rw[setρ_eq,if_neg e2]
 ·refine⟨m.grown.os,m.grown.tape,m.grown.output,m.grown.size,λb hb hn=>m.grown.block b hb λe=>?_⟩;obtain⟨o,ho,a4⟩:=m.used_ b e.symm;exact hn ⟨o,.inr ho,a4⟩
 ·by_cases e:o=d
  ·subst e;unfold Owns at ho;rw[zls,if_pos rfl,setρ_eq,if_pos rfl]at ho;rcases m.lies b (fpk_flat hk ho) with h1|h1
   ·obtain⟨p,hp,a2⟩:=m.used_ b h1;exact .inr ⟨p,.inr hp,a2⟩
   ·exact .inl h1
  ·have hu:=hd.resolve_left e;exact absurd (by rw[zls,if_neg e,if_pos hu]) ho.lv
 ·have a0:∀o,(o=d\/used=some o)->Owns (zeo σ used d k cs) (setρ ρ d hv) o b->o=d:=λo hd ho=>by
   by_cases e:o=d
   ·exact e
   ·exact absurd (by rw[zls,if_neg e,if_pos (hd.resolve_left e)]) ho.lv
  rw[a0 o hd ho,a0 p hp a3]
 ·by_cases e:o=d
  ·subst e;rw[zls,if_pos rfl];exact hobj hI hA
  ·rw[zls,if_neg e,if_pos (hd.resolve_left e)];trivial
end
end
section
open Go.RowKit
def Eff(P:Program)(B:Base)(o:Oper)(rd:List Loc)(σ:St)(wr:List (Loc×Ct)):Prop :=
 ∀σ',(∀l∈rd,σ' l=σ l)->∀a w,Sat B σ' a w->∀(K:Act->World->Prop) (Q:Exit->Act->World->Prop),(∀a' w',Sat B (app σ' wr) a' w'->K a' w')->o.wp P a w K Q
section
variable {P:Program}{B:Base}{o:Oper}{σ:St}{K:Fx->Prop}
def za4{a:Act}{w:World}{ρ:Ly}(h:SatR B σ a w ρ)(x:Operand):RepA w (Imm B σ ρ w) ρ σ.gn (a.eval x) (evA σ x):=by
 cases x with
 |tmp t=>exact h.tms t
 |const v=>exact .im _ _ (.val v)
 |global g=>exact .im _ _ (.any _)
 |func f=>exact .im _ _ (.fn f [] [] rfl (by simp))
def zal{σ':St}{x:Operand}(h:∀l∈opd x,σ' l=σ l):evA σ' x=evA σ x:=by
 cases x with
 |tmp t =>
  have e:=h (.tmp t) (by simp[opd]);show σ'.av t=σ.av t;unfold St.av;rw[e]
 |const v=>rfl
 |global g=>rfl
 |func f=>rfl
def RepA.im_inv{w:World}{S:Nat->Prop}{ρ:Ly}{γ:Nat->Nat}{v:Value}{x:IV}(h:RepA w S ρ γ v (.im x)):RepI w S v x:=by
 cases h with
 |im _ _ h=>exact h
def zci{w:World}{S:Nat->Prop}{ρ:Ly}{γ:Nat->Nat}{v:Value}{x:AV}{k:IntKind}{n:Int}(e:asInt x=some (k,n))(h:RepA w S ρ γ v x):v=.int k n:=by
 unfold asInt at e;split at e
 ·injection e with e
  injection e with e1 e2
  subst e1 e2;cases h.im_inv;rfl
 ·cases e
def zhu{w:World}{S:Nat->Prop}{ρ:Ly}{γ:Nat->Nat}{v:Value}{x:AV}{b:Bool}(e:asBool x=some b)(h:RepA w S ρ γ v x):v=.bool b:=by
 unfold asBool at e;split at e
 ·injection e with e
  subst e;cases h.im_inv;rfl
 ·cases e
def zrc{w:World}{S:Nat->Prop}{ρ:Ly}{γ:Nat->Nat}{v:Value}{x:AV}{b:ByteArray}(e:asStr x=some b)(h:RepA w S ρ γ v x):v=.string b:=by
 unfold asStr at e;split at e
 ·injection e with e
  subst e;cases h.im_inv;rfl
 ·cases e
def zio(hd:zct B.n o=true):∀t,o.dst=some t->t<B.n:=λt e=>by
 unfold zct at hd;rw[e]at hd;exact of_decide_eq_true hd
def Eff.pure(hd:zct B.n o=true){rd:List Loc}{v:AV}
  (h:∀σ',(∀l∈rd,σ' l=σ l)->∀a w ρ,SatR B σ' a w ρ->∃u,(execOp a.eval o).run P w=.ok (.value u) w/\RepA w (Imm B σ' ρ w) ρ σ'.gn u v):Eff P B o rd σ (wrT o.dst v):=by
 intro σ' hag a w ⟨ρ,hs⟩ K Q hK;obtain⟨u,hr,hv⟩:=h σ' hag a w ρ hs;unfold Oper.wp;rw[hr,Oper.upon_value];exact hK _ _ ⟨ρ,hs.put (zio hd) hv⟩
def aMove_ok{x:Operand}(hop:o.op=.move x\/o.op=.assign x)(hd:zct B.n o=true):Eff P B o (opd x) σ (wrT o.dst (evA σ x)) :=
 Eff.pure hd λσ' hag a w ρ hs=>⟨a.eval x,by rcases hop with e|e<;>simp[execOp,e],by rw[<- zal hag];exact za4 hs x⟩
def vB_rep{w:World}{S:Nat->Prop}{ρ:Ly}{γ:Nat->Nat}(b:Bool):RepA w S ρ γ (.bool b) (vB b):=.im _ _ (.val _)
def zc1{w:World}{S:Nat->Prop}{ρ:Ly}{γ:Nat->Nat}(v:Value):RepA w S ρ γ v (.im (.val v)):=.im _ _ (.val _)
def zaw{σ':St}{l m:List Loc}(h:∀x∈l++m,σ' x=σ x):∀x∈l,σ' x=σ x:=λx hx=>h x (yan _ hx)
def za7{σ':St}{l m:List Loc}(h:∀x∈l++m,σ' x=σ x):∀x∈m,σ' x=σ x:=λx hx=>h x (yai _ hx)
def Both.out{b:Bool}{A C:Prop}(h:Both b A C):(b=true->A)/\(b=false->C):=by unfold Both at h;exact h
def Nf.out{α:Type}{a:α}{F:α->Prop}(h:Nf a F):F a:=by unfold Nf at h;obtain⟨b,rfl,h⟩:=h;exact h
def Cut.out{body:(St->Prop)->Prop}{rest:St->Prop}(h:Cut body rest):∃Post:St->Prop,body (λσ'=>∃σ1,Ent σ' σ1/\Post σ1)/\∀σ,Post σ->∃φ,Holds σ φ/\(φ->rest σ):=by unfold Cut at h;exact h
def Side.out{A C:Prop}(h:Side A C):A/\C:=by unfold Side at h;exact h
def aPick_ok{c x y:Operand}(hop:o.op=.pick c x y)(hd:zct B.n o=true)(h:aPick o σ K c x y):∃fx,K fx/\Eff P B o fx.rd σ fx.wr:=by
 unfold aPick at h;split at h
 ·rename_i t ht
  have run:∀σ',(∀l∈opd c++opd x++opd y,σ' l=σ l)->∀a w ρ,SatR B σ' a w ρ->(execOp a.eval o).run P w=.ok (.value (if t=true then a.eval x else a.eval y)) w:=λσ' hag a w ρ hs=>by
   have h1:=za4 hs c;rw[zal (zaw (zaw hag))]at h1;simp[execOp,hop,zhu ht h1,Go.asBool]
  have h:=h.out;cases ht2:t with
  |true =>
   refine⟨_,h.1 ht2,Eff.pure hd λσ' hag a w ρ hs=>⟨_,run σ' hag a w ρ hs,?_⟩⟩;have h1:=za4 hs x;rw[zal (za7 (zaw hag))]at h1;rw[ht2];exact h1
  |false =>
   refine⟨_,h.2 ht2,Eff.pure hd λσ' hag a w ρ hs=>⟨_,run σ' hag a w ρ hs,?_⟩⟩;have h1:=za4 hs y;rw[zal (za7 hag)]at h1;rw[ht2];exact h1
 ·exact h.elim
def rng_wrap{k:IntKind}{n:Int}(h:rng k n):k.wrap n=n:=by
 unfold rng at h;split at h
 ·exact IntWalk.i64_in n (by unfold inR at h;exact h)
 ·simp[IntKind.wrap,IntKind.bits,IntKind.signed];omega
 ·simp[IntKind.wrap,IntKind.bits,IntKind.signed];omega
 ·exact h.elim
def zbt.out{k:IntKind}{n:Int}{F:Int->Prop}(h:zbt k n F):F (k.wrap n):=by
 unfold zbt at h;rcases h with⟨h1,h2⟩|h
 ·rw[rng_wrap h1];exact h2
 ·exact h
def aUn_ok{op:UnOp}{x:Operand}{t:TypeId}(hop:o.op=.unOp op t x)(hd:zct B.n o=true)(h:aUn o σ K op x):∃fx,K fx/\Eff P B o fx.rd σ fx.wr:=by
 unfold aUn at h;split at h
 ·rename_i b hb;refine⟨_,h,Eff.pure hd λσ' hag a w ρ hs=>⟨.bool !b,?_,vB_rep _⟩⟩;have h1:=za4 hs x;rw[zal hag]at h1;simp[execOp,hop,zhu hb h1,Op.unary]
 ·split at h
  ·rename_i k n hx;refine⟨_,h.out,Eff.pure hd λσ' hag a w ρ hs=>⟨.int k (k.wrap (0-n)),?_,zc1 _⟩⟩;have h1:=za4 hs x;rw[zal hag]at h1;simp[execOp,hop,zci hx h1,Op.unary,Op.intArith]
  ·exact h.elim
 ·exact h.elim
def aBin_ok{op:BinOp}{x y:Operand}{t t':TypeId}(hop:o.op=.binOp op t x y t')(hd:zct B.n o=true)(h:aBin P o σ K op t x y):∃fx,K fx/\Eff P B o fx.rd σ fx.wr:=by
 unfold aBin at h;split at h
 ·rename_i a6;have a2:op=.shr:=by cases op<;>first|rfl|cases a6
  subst a2;split at h
  ·rename_i k a kb b k' hx hy hu;obtain⟨hk,h⟩:=h.ok;simp only[yax,decide_eq_true_eq]at hk;obtain⟨rfl,rfl⟩:=hk;obtain⟨⟨h1,h2,h3,h4⟩,h⟩:=h.out;refine⟨_,h,Eff.pure hd λσ' hag c w ρ hs=>⟨_,?_,zc1 _⟩⟩;have g1:=za4 hs x;have g2:=za4 hs y;rw[zal (zaw hag)]at g1;rw[zal (za7 hag)]at g2;have a3:min b.toNat IntKind.u64.bits=b.toNat:=by simp[IntKind.bits];omega
   have hb:¬b<0:=by omega
   have a4:binOp .shr t (.int .u64 a) (.int kb b)=Pure.pure (.int .u64 (a / 2^b.toNat)):=by
    simp only[binOp,Op.shift,if_neg hb,a3];rw[Int.fdiv_eq_ediv_of_nonneg a (by exact Int.le_of_lt (Int.pow_pos (by decide)))]
   simp only[execOp,hop,zci hx g1,zci hy g2,Sem.run_bind,eqGuard,Result.andThen_ok,a4,Sem.run_pure];rfl
  ·exact h.elim
 split at h
 ·rename_i a b hx hy;obtain⟨hk,h2⟩:=h.ok;clear h;rw[yax]at hk;have a2:op=.add:=by cases op<;>first|rfl|cases hk.2
  subst a2;obtain⟨h1,h⟩:=h2.out;refine⟨_,h,Eff.pure hd λσ' hag c w ρ hs=>⟨_,?_,zc1 _⟩⟩;have g1:=za4 hs x;have g2:=za4 hs y;rw[zal (zaw hag)]at g1;rw[zal (za7 hag)]at g2
  have a7:¬(((a.size+b.size:Nat):Int) > IntKind.i64.max):=by
   have:IntKind.i64.max=9223372036854775807:=by rfl
   rw[this];omega
  simp only[execOp,hop,zrc hx g1,zrc hy g2,Sem.run_bind,eqGuard,Result.andThen_ok,binOp,Op.stringOp,if_neg a7,Sem.run_pure];rfl
 ·split at h
  ·rename_i k b k' d hx hy;obtain⟨hk,h⟩:=h.ok;have hk:=of_decide_eq_true hk;subst hk
   have a0:∀v:Value,(binOp op t (.int k b) (.int k d)=Pure.pure v)->Eff P B o (opd x++opd y) σ (wrT o.dst (.im (.val v))):=λv hv =>
    Eff.pure hd λσ' hag a w ρ hs=>by
     have h1:=za4 hs x;have h2:=za4 hs y;rw[zal (zaw hag)]at h1;rw[zal (za7 hag)]at h2;refine⟨v,?_,zc1 _⟩
     have hg:∀W,(eqGuard op t x y (.int k b) (.int k d)).run P W=.ok () W:=λW=>by
      unfold eqGuard;cases op<;>rfl
     simp only[execOp,hop,zci hx h1,zci hy h2,Sem.run_bind,hg,Result.andThen_ok,hv,Sem.run_pure]
   cases op<;>simp only at h
   case add=>exact⟨_,h.out,a0 _ (by simp[binOp,Op.intArith])⟩
   case sub=>exact⟨_,h.out,a0 _ (by simp[binOp,Op.intArith])⟩
   case mul=>exact⟨_,h.out,a0 _ (by simp[binOp,Op.intArith])⟩
   case quo =>
    obtain⟨⟨h1,h2,h3⟩,h⟩:=h.out;exact⟨_,h,a0 _ (by simp[binOp,Op.intDiv,Int.tdiv_eq_ediv_of_nonneg h2,rng_wrap h1];omega)⟩
   case rem =>
    obtain⟨⟨h1,h2,h3⟩,h⟩:=h.out;exact⟨_,h,a0 _ (by simp[binOp,Op.intDiv,Int.tmod_eq_emod_of_nonneg h2];omega)⟩
   case xor=>exact⟨_,h,a0 _ (by simp[binOp,Op.intBits,xorK])⟩
   case eql=>exact⟨_,h,a0 _ (by simp[binOp,Op.intCmp];rfl)⟩
   case neq=>exact⟨_,h,a0 _ (by simp[binOp,Op.intCmp,bne];rfl)⟩
   case lss=>exact⟨_,h,a0 _ (by simp[binOp,Op.intCmp])⟩
   case leq=>exact⟨_,h,a0 _ (by simp[binOp,Op.intCmp])⟩
   case gtr=>exact⟨_,h,a0 _ (by simp[binOp,Op.intCmp])⟩
   case geq=>exact⟨_,h,a0 _ (by simp[binOp,Op.intCmp])⟩
   all_goals exact h.elim
  ·split at h
   ·rename_i b d hx hy
    have a0:∀v:Value,(∀W,(binOp op t (.bool b) (.bool d)).run P W=.ok v W)->Eff P B o (opd x++opd y) σ (wrT o.dst (.im (.val v))):=λv hv =>
     Eff.pure hd λσ' hag a w ρ hs=>by
      have h1:=za4 hs x;have h2:=za4 hs y;rw[zal (zaw hag)]at h1;rw[zal (za7 hag)]at h2;refine⟨v,?_,zc1 _⟩
      have hg:∀W,(eqGuard op t x y (.bool b) (.bool d)).run P W=.ok () W:=λW=>by
       unfold eqGuard;cases op<;>rfl
      simp only[execOp,hop,zhu hx h1,zhu hy h2,Sem.run_bind,hg,Result.andThen_ok,hv,Sem.run_pure]
    have a5:isBl P t=true->P.underlying t=some .bool:=λe=>by
     unfold isBl at e;split at e
     ·assumption
     ·cases e
    cases op<;>simp only at h
    case eql=>obtain⟨h1,h⟩:=h.ok;exact⟨_,h,a0 _ (λW=>run_eql_bool W t b d (a5 h1))⟩
    case neq=>obtain⟨h1,h⟩:=h.ok;exact⟨_,h,a0 _ (λW=>run_neq_bool W t b d (a5 h1))⟩
    all_goals exact h.elim
   ·exact h.elim
def nilP_inv{w:World}{S:Nat->Prop}{ρ:Ly}{γ:Nat->Nat}{v:Value}{x:AV}{b:Bool}(e:nilP x=some b)(h:RepA w S ρ γ v x):∃q:Option Addr,v=.pointer q/\q.isNone=b:=by
 unfold nilP at e;split at e
 ·injection e with e
  have h:=h.im_inv;cases h;exact⟨none,rfl,e⟩
 ·injection e with e
  have h:=h.im_inv;cases h;exact⟨_,rfl,e⟩
 ·injection e with e
  have h:=h.im_inv;cases h;exact⟨_,rfl,e⟩
 ·cases e
def zs7{t:TypeId}(hp:isPt P t=true)(q:Option Addr)(W:World):(Op.equal t (.pointer q) (.pointer none)).run P W=.ok q.isNone W:=by
 unfold isPt at hp;split at hp
 ·rename_i e hu;unfold Op.equal Op.maxDepth Op.equalIn;rw[Sem.run_bind,run_underlying hu];cases q<;>simp
 ·cases hp
def aBinN_ok{op:BinOp}{t z:TypeId}{x y:Operand}(hop:o.op=.binOp op t x y z)(hp:isPt P t=true)(hd:zct B.n o=true)(h:aBinN o σ K op x y):∃fx,K fx/\Eff P B o fx.rd σ fx.wr:=by
 unfold aBinN at h;split at h
 ·rename_i b hx hy
  have a0:∀v:Value,(∀q W,q.isNone=b->(binOp op t (.pointer q) (.pointer none)).run P W=.ok v W)->Eff P B o (opd x++opd y) σ (wrT o.dst (.im (.val v))):=λv hv =>
   Eff.pure hd λσ' hag a w ρ hs=>by
    have h1:=za4 hs x;have h2:=za4 hs y;rw[zal (zaw hag)]at h1;rw[zal (za7 hag)]at h2;obtain⟨q,e1,e2⟩:=nilP_inv hx h1;obtain⟨q',e3,e4⟩:=nilP_inv hy h2;cases q' with
    |some _=>cases e4
    |none =>
     refine⟨v,?_,zc1 _⟩
     have hg:∀W,(eqGuard op t x y (.pointer q) (.pointer none)).run P W=.ok () W:=λW=>by
      unfold eqGuard;cases op<;>rfl
     simp only[execOp,hop,e1,e3,Sem.run_bind,hg,Result.andThen_ok,hv q _ e2,Sem.run_pure]
  cases op<;>simp only at h
  case eql=>exact⟨_,h,a0 _ λq W e=>by simp only[binOp,Sem.run_bind,zs7 hp,Result.andThen_ok,Sem.run_pure,e]⟩
  case neq=>exact⟨_,h,a0 _ λq W e=>by simp only[binOp,Sem.run_bind,zs7 hp,Result.andThen_ok,Sem.run_pure,e]⟩
  all_goals exact h.elim
 ·exact h.elim
def isNilC_inv{w:World}{S:Nat->Prop}{ρ:Ly}{γ:Nat->Nat}{v:Value}{x:AV}(e:isNilC x=true)(h:RepA w S ρ γ v x):v=.slice none 0 0:=by
 unfold isNilC at e;split at e
 ·have h:=h.im_inv;cases h;rfl
 ·cases e
def nilS_inv{w:World}{S:Nat->Prop}{ρ:Ly}{γ:Nat->Nat}{v:Value}{x:AV}{b:Bool}(e:nilS x b)(h:RepA w S ρ γ v x):∃(q:Option Addr) (n c:Nat),v=.slice q n c/\q.isNone=b:=by
 unfold nilS at e;split at e
 ·have h:=h.im_inv;rcases e with⟨rfl,rfl⟩|⟨rfl,es,rfl⟩
  ·cases h;exact⟨none,0,0,rfl,rfl⟩
  ·cases h;exact⟨_,_,_,rfl,rfl⟩
 ·exact e.elim
def zrq{t:TypeId}(hp:isSl P t=true)(q:Option Addr)(n c:Nat)(W:World):(Op.equal t (.slice q n c) (.slice none 0 0)).run P W=.ok q.isNone W:=by
 unfold isSl at hp;split at hp
 ·rename_i e hu;unfold Op.equal Op.maxDepth Op.equalIn;rw[Sem.run_bind,run_underlying hu];cases q<;>simp
 ·cases hp
def aBinZ_ok{op:BinOp}{t z:TypeId}{x y:Operand}(hop:o.op=.binOp op t x y z)(hp:isSl P t=true)(hd:zct B.n o=true)(h:aBinZ o σ K op x y):∃fx,K fx/\Eff P B o fx.rd σ fx.wr:=by
 unfold aBinZ at h;split at h
 ·rename_i hy;obtain⟨b,hx,h⟩:=h
  have a0:∀v:Value,(∀q n c W,q.isNone=b->(binOp op t (.slice q n c) (.slice none 0 0)).run P W=.ok v W)->Eff P B o (opd x++opd y) σ (wrT o.dst (.im (.val v))):=λv hv =>
   Eff.pure hd λσ' hag a w ρ hs=>by
    have h1:=za4 hs x;have h2:=za4 hs y;rw[zal (zaw hag)]at h1;rw[zal (za7 hag)]at h2;obtain⟨q,n,c,e1,e2⟩:=nilS_inv hx h1;have e3:=isNilC_inv hy h2;refine⟨v,?_,zc1 _⟩
    have hg:∀W,(eqGuard op t x y (.slice q n c) (.slice none 0 0)).run P W=.ok () W:=λW=>by
     unfold eqGuard;cases op<;>rfl
    simp only[execOp,hop,e1,e3,Sem.run_bind,hg,Result.andThen_ok,hv q n c _ e2,Sem.run_pure]
  cases op<;>simp only at h
  case eql=>exact⟨_,h,a0 _ λq n c W e=>by simp only[binOp,Sem.run_bind,zrq hp,Result.andThen_ok,Sem.run_pure,e]⟩
  case neq=>exact⟨_,h,a0 _ λq n c W e=>by simp only[binOp,Sem.run_bind,zrq hp,Result.andThen_ok,Sem.run_pure,e]⟩
  all_goals exact h.elim
 ·exact h.elim
def aConvert_ok{s d:TypeId}{x:Operand}(hop:o.op=.convert s d x)(hd:zct B.n o=true)(hsrc:∃u,P.underlying s=some u)(h:aConvert P o σ K d x):∃fx,K fx/\Eff P B o fx.rd σ fx.wr:=by
 unfold aConvert at h;split at h
 ·rename_i k0 n k hx hu;obtain⟨h1,h⟩:=h.out;obtain⟨u,a0⟩:=hsrc;refine⟨_,h,Eff.pure hd λσ' hag a w ρ hs=>⟨.int k n,?_,zc1 _⟩⟩;have h2:=za4 hs x;rw[zal hag]at h2;simp[execOp,hop,zci hx h2,convert,run_underlying hu,run_underlying a0,Conv.intToInt,rng_wrap h1]
 ·exact h.elim
end
end
section
open Go.RowKit
section
variable {P:Program}{B:Base}{o:Oper}{σ:St}{K:Fx->Prop}
def zos{t:TypeId}{b:Bool}(h:zma P t=some b)(w:World):(isAgg t).run P w=.ok b w:=by
 unfold zma at h;cases hu:P.underlying t with
 |none=>rw[hu]at h;cases h
 |some d =>
  rw[hu]at h;simp only[yap,zkF]at h;cases d<;>simp_all [isAgg,run_underlying hu]
def zf8{t:TypeId}{m:Nat}(h:szOf P t=some m)(w:World):(Go.sizeOf t).run P w=.ok m w:=by
 unfold szOf at h;cases hi:P.info? t with
 |none=>rw[hi]at h;cases h
 |some i =>
  rw[hi]at h;simp only[yap,zkF]at h;simp[Go.sizeOf,typeInfo,hi,h]
def fld_spec{t:TypeId}{f off ft:Nat}(h:fldOf P t f=some (off,ft)):∃fs x,P.underlying t=some (.struct fs)/\fs[f]?=some x/\x.offset=off/\x.type=ft:=by
 unfold fldOf at h;split at h
 ·rename_i fs hu;cases hx:fs[f]? with
  |none=>rw[hx]at h;cases h
  |some x =>
   rw[hx]at h;simp only[yap,zkF,zkG]at h;exact⟨fs,x,hu,hx,h.1,h.2⟩
 ·cases h
def zdr{t e:TypeId}(h:zgc P t=some e):P.underlying t=some (.slice e):=by
 unfold zgc at h;split at h
 ·rename_i e' hu;injection h with h
  rw[<- h];exact hu
 ·cases h
def zdj{σ':St}{b:Nat}(h:σ' (.gen b)=σ (.gen b)):σ'.gn b=σ.gn b:=by unfold St.gn;rw[h]
def zmf{σ':St}{b:Nat}(h:σ' (.knd b)=σ (.knd b)):σ'.kd b=σ.kd b:=by unfold St.kd;rw[h]
def ce_same{σ':St}{b i:Nat}(h:σ' (.cel b i)=σ (.cel b i)):σ'.ce b i=σ.ce b i:=by unfold St.ce;rw[h]
def boxLen_same{σ':St}{b:Nat}(h:σ'.kd b=σ.kd b):zii σ' b=zii σ b:=by unfold zii;rw[h]
def zs2:∀{cs:List AV} {l:List IV},toIVs cs=some l->cs=l.map .im
 |[],l,h=>by simp only[toIVs,zkF]at h;subst h;rfl
 | .im x::cs,l,h=>by
  simp only[toIVs]at h;cases hc:toIVs cs with
  |none=>rw[hc]at h;cases h
  |some l' =>
   rw[hc]at h;simp only[yap,zkF]at h;subst h;rw[zs2 hc];rfl
 | .own ..::_,_,h=>by cases h
 | .osl ..::_,_,h=>by cases h
 | .elt ..::_,_,h=>by cases h
 | .fn ..::_,_,h=>by cases h
 | .agg ..::_,_,h=>by cases h
 | .tup ..::_,_,h=>by cases h
def Reps(w:World)(S:Nat->Prop)(ρ:Ly)(γ:Nat->Nat)(us:List Value)(cs:List AV):Prop :=
 us.length=cs.length/\∀(i:Nat) u x,us[i]?=some u->cs[i]?=some x->RepA w S ρ γ u x
def zic(w:World)(S:Nat->Prop)(us:List Value)(cs:List IV):Prop :=
 us.length=cs.length/\∀(i:Nat) u x,us[i]?=some u->cs[i]?=some x->RepI w S u x
def Reps.ims{w:World}{S:Nat->Prop}{ρ:Ly}{γ:Nat->Nat}{us:List Value}{l:List IV}(h:Reps w S ρ γ us (l.map .im)):zic w S us l :=
 ⟨by simpa using h.1,λi u x hu hx=>(h.2 i u (.im x) hu (by simp[hx])).im_inv⟩
def zlw{w:World}{S:Nat->Prop}{ρ:Ly}{γ:Nat->Nat}{us:List Value}{cs:List AV}(h:Reps w S ρ γ us cs)(h1:∀u∈us,u.oneCell'=true):RepA w S ρ γ (.agg us.toArray) (aggA cs):=by
 unfold aggA;split
 ·rename_i l hl;have e:=zs2 hl;rw[e]at h;have h:=h.ims;exact .im _ _ (.agg us l h.1 h1 h.2)
 ·exact .agg us cs h.1 h1 h.2
def zho{a:Act}{w:World}{ρ:Ly}(h:SatR B σ a w ρ){v:Value}{b g i m:Nat}{t:TypeId}(hv:RepA w (Imm B σ ρ w) ρ σ.gn v (.own b g i))(hg:σ.gn b=g)(hk:σ.kd b=.box t m) :
  ∃(q:Nat) (us:List Value),v=.pointer (some ⟨q,i,none⟩)/\ρ b=.pointer (some ⟨q,0,none⟩)/\w.heap[q]?=some (.cells us.toArray t (0,0))/\us.length=m/\(∀u∈us,u.oneCell'=true) /\
   (∀(j:Nat) u,us[j]?=some u->w.cell? ⟨q,j,none⟩=some u)/\∀(j:Nat) u,us[j]?=some u->RepA w (Imm B σ ρ w) ρ σ.gn u (σ.ce b j):=by
 cases hv with
 |own _ _ _ _ h1 hgg hh =>
  obtain⟨q,e1,e2⟩:=hh hg;have ho:=h.obs b;rw[hk]at ho;obtain⟨q',us,e3,h3,h4,h5,h6⟩:=ho;rw[e1]at e3;injection e3 with e3
  injection e3 with e3
  injection e3 with e3
  subst e3;refine⟨q,us,e2,e1,h3,h4,h5,λj u hu=>?_,h6⟩;unfold World.cell?;simp only[h3];simpa using hu
def zia{b i:Nat}(h:i<zii σ b):∃t m,σ.kd b=.box t m/\i<m:=by
 unfold zii at h;split at h
 ·rename_i t m hk;exact⟨t,m,hk,h⟩
 ·omega
def zmu{b:Nat}{t:TypeId}{m:Nat}(h:σ.kd b=.box t m):zii σ b=m:=by unfold zii;rw[h]
def flat_get{α:Type}{k:Nat}:∀{es:List (List α)} {i j:Nat} {e:List α},(∀x∈es,x.length=k)->es[i]?=some e->j<k->es.flatten[i*k+j]?=e[j]?
 |[],i,j,e,_,h,_=>by simp at h
 |x::es,0,j,e,hk,h,hj=>by
  simp only[yc8,zkF]at h;subst h;have:=hk x (by simp);rw[ybu,ydc,yal,ya1,if_pos (by omega)]
 |x::es,i+1,j,e,hk,h,hj=>by
  have hx:=hk x (by simp);rw[ybu,ya1,if_neg (by rw[hx,Nat.add_mul];omega),hx];have e1:(i+1)*k+j-k=i*k+j:=by rw[Nat.add_mul];omega
  rw[e1];exact flat_get (λy hy=>hk y (by simp[hy])) (by simpa using h) hj
def zbx{α:Type}{k:Nat}:∀{es:List (List α)},(∀x∈es,x.length=k)->es.flatten.length=es.length*k
 |[],_=>by simp
 |x::es,h=>by
  rw[ybu,zkJ,zbx λy hy=>h y (by simp[hy]),h x (by simp),zkL,Nat.add_mul];omega
def esOf_cases{k:Kd}{es:List (List IV)}(h:esOf k=some es):∃t n,k=.row t n es\/k=.que t n es:=by
 cases k with
 |row t n es'=>injection h with h;subst h;exact⟨t,n,.inl rfl⟩
 |que t n es'=>injection h with h;subst h;exact⟨t,n,.inr rfl⟩
 |_=>cases h
def es_form{a:Act}{w:World}{ρ:Ly}(h:SatR B σ a w ρ){b:Nat}{es:List (List IV)}(hk:esOf (σ.kd b)=some es):∃(k:Nat) (us:List Value),(∀x∈es,x.length=k)/\us.length=es.flatten.length/\(∀u∈us,u.oneCell'=true)/\(∀(p:Nat) u x,us[p]?=some u->es.flatten[p]?=some x->RepI w (Imm B σ ρ w) u x) /\
  ((ρ b=.slice none 0 0/\es.length=0)\/∃q off cap,ρ b=.slice (some ⟨q,off,none⟩) es.length cap/\∀(p:Nat) u,us[p]?=some u->w.cell? ⟨q,off+p,none⟩=some u):=by
 obtain⟨t,n,hk|hk⟩:=esOf_cases hk
 ·have ho:=h.obs b;rw[hk]at ho;obtain⟨us,h2,h3,h4,h5,h6,h7,h8⟩:=ho;refine⟨n,us,h3,h6,h7,h8,?_⟩;rcases h5.2 with⟨e,e0⟩|⟨q,cap,cur,e,e4⟩
  ·exact .inl ⟨e,e0⟩
  ·refine .inr ⟨q,0,cap,e,λp u hu=>?_⟩;have:=h5.cells (g:=q) (by rw[e];rfl) p u hu
   rwa [addr_add]at this
 ·have ho:=h.obs b;rw[hk]at ho;obtain⟨us,h2,h3,h4,h5,h6,h7,h8⟩:=ho;refine⟨n,us,h3,h5,h6,h7,?_⟩;rcases h8 with⟨e,e0⟩|⟨q,off,cap,cur,e,e1,e2,e3,e4,e5⟩
  ·exact .inl ⟨e,by rw[e0];rfl⟩
  ·exact .inr ⟨q,off,cap,e,λp u hu=>by unfold World.cell?;simp only[e1];simpa using e5 p u hu⟩
def elt_read{a:Act}{w:World}{ρ:Ly}(h:SatR B σ a w ρ){v:Value}{b g k i j:Nat}{es:List (List IV)}{e:List IV}(hv:RepA w (Imm B σ ρ w) ρ σ.gn v (.elt b g k i j))(hg:σ.gn b=g)(hk:esOf (σ.kd b)=some es)
  (he:es[i]?=some e) (hek:e.length=k):∃(q off:Nat) (us:List Value),v=.pointer (some ⟨q,off+(i*k+j),none⟩)/\us.length=es.flatten.length/\(∀x∈es,x.length=k)/\(∀u∈us,u.oneCell'=true) /\
   (∀(p:Nat) u,us[p]?=some u->w.cell? ⟨q,off+p,none⟩=some u)/\∀(p:Nat) u x,us[p]?=some u->es.flatten[p]?=some x->RepI w (Imm B σ ρ w) u x:=by
 cases hv with
 |elt _ _ _ _ _ _ h1 hgg hh =>
  obtain⟨q,off,n,c,e1,e2⟩:=hh hg;obtain⟨kk,us,h3,h6,h7,h8,h9⟩:=es_form h hk;have a2:kk=k:=by rw[<- hek];exact(h3 e (zkH he)).symm
  subst a2;rcases h9 with⟨f1,f2⟩|⟨q',a0,a3,f1,f2⟩
  ·rw[f1]at e1;cases e1
  ·rw[f1]at e1;injection e1 with e1 _ _
   injection e1 with e1
   injection e1 with e1 e3
   subst e1 e3;exact⟨q',a0,us,e2,h6,h3,h7,f2,h8⟩
def zd5{a b:Nat}(h:Nat.blt a b=true):a<b:=by simp[Nat.blt]at h;omega
def zf0{a b:Nat}(h:Nat.ble a b=true):a<=b:=by simpa using h
def zlm{t:TypeId}(h:zma P t=some false){ad:Addr}{w:World}{u:Value}(hu:w.cell? ad=some u):(Instr.loadAt t (.pointer (some ad))).run P w=.ok u w:=by
 simp[Instr.loadAt,Instr.sureAddr,loadVar,zos h,hu]
def zkz{t:TypeId}{us:List Value}(h:zma P t=some true)(hs:szOf P t=some us.length){b q:Nat}{w:World}(hu:∀(j:Nat) u,us[j]?=some u->w.cell? ⟨b,q+j,none⟩=some u):(Instr.loadAt t (.pointer (some ⟨b,q,none⟩))).run P w=.ok (.agg us.toArray) w:=by
 have:=run_loadCells_list (P:=P) (w:=w) ⟨b,q,none⟩ us (λj u hj=>by rw[addr_add];exact hu j u hj);simp[Instr.loadAt,Instr.sureAddr,loadVar,zos h,zf8 hs,this]
def zcw{α:Type}{l:List α}{i m j:Nat}{x:α}(h:((l.drop i).take m)[j]?=some x):l[i+j]?=some x/\j<m:=by
 rw[ybk]at h;split at h
 ·rename_i hj;rw[ybq]at h;exact⟨h,hj⟩
 ·cases h
def zcy{σ':St}{l:List Loc}{b:Nat}{r:List Loc}(h:∀x∈l++(.gen b::.knd b::r),σ' x=σ x):(∀x∈l,σ' x=σ x)/\σ'.gn b=σ.gn b/\σ'.kd b=σ.kd b/\∀x∈r,σ' x=σ x :=
 ⟨zaw h,zdj (za7 h _ (by simp)),zmf (za7 h _ (by simp)),λx hx=>za7 h x (by simp[hx])⟩
def aLoad_ok{t:TypeId}{p:Operand}(hop:o.op=.load t p)(hd:zct B.n o=true)(h:aLoad P o σ K t p):∃fx,K fx/\Eff P B o fx.rd σ fx.wr:=by
 have run:∀(a:Act) w v,(Instr.loadAt t (a.eval p)).run P w=.ok v w->(execOp a.eval o).run P w=.ok (.value v) w:=λa w v hv=>by simp[execOp,hop,hv]
 unfold aLoad at h;split at h
 ·rename_i a0;split at h
  ·rename_i c cs hp;refine⟨_,h,Eff.pure hd λσ' hag a w ρ hs=>?_⟩;have h1:=za4 hs p;rw[zal hag,hp]at h1;have h1:=h1.im_inv;generalize hv:a.eval p=v at h1;cases h1 with
   |ref b q us _ hS hl a2 hu hr =>
    have b2:0<us.length:=by rw[hl];simp
    obtain⟨u,b0⟩:∃u,us[0]?=some u:=⟨_,zkM b2⟩;exact⟨u,run a w u (by rw[hv];exact zlm a0 (hu 0 u b0)),.im _ _ (hr 0 u c b0 rfl)⟩
  ·rename_i b g i hp;obtain⟨hi,h⟩:=h.ok;obtain⟨hg,h⟩:=h.out;obtain⟨t',m,hk,b7⟩:=zia (zd5 hi);refine⟨_,h,Eff.pure hd λσ' hag a w ρ hs=>?_⟩;obtain⟨ha,hg',a4,a9⟩:=zcy hag;have h1:=za4 hs p;rw[zal ha,hp]at h1;obtain⟨q,us,e,_,_,hl,a2,hc,hr⟩:=zho hs h1 (hg'.trans hg) (a4.trans hk);obtain⟨u,hu⟩:∃u,us[i]?=some u:=⟨_,zkM (by omega)⟩;refine⟨u,run a w u (by rw[e];exact zlm a0 (hc i u hu)),?_⟩;rw[<- ce_same (a9 (.cel b i) (by simp))];exact hr i u hu
  ·rename_i b g k i j hp;split at h
   ·rename_i es hk;obtain⟨e,c,⟨hg,he,hc,a6⟩,h⟩:=h;refine⟨_,h,Eff.pure hd λσ' hag a w ρ hs=>?_⟩;obtain⟨ha,hg',a4,_⟩:=zcy hag;have h1:=za4 hs p;rw[zal ha,hp]at h1;obtain⟨q,off,us,ev,hl,a5,a2,a8,hr⟩:=elt_read hs h1 (hg'.trans hg) (by rw[a4];exact hk) he a6;have hj:j<k:=by rw[<- a6];exact(zkI.1 hc).1
    have hf:=flat_get a5 he hj;rw[hc]at hf;obtain⟨u,hu⟩:∃u,us[i*k+j]?=some u:=⟨_,zkM (by rw[hl];exact(zkI.1 hf).1)⟩;exact⟨u,run a w u (by rw[ev];exact zlm a0 (a8 _ u hu)),.im _ _ (hr _ u c hu hf)⟩
   ·exact h.elim
  ·exact h.elim
 ·rename_i a0;split at h
  ·rename_i m hm;split at h
   ·rename_i cs hp;obtain⟨hi,h⟩:=h.ok;have hi:=zf0 hi;refine⟨_,h,Eff.pure hd λσ' hag a w ρ hs=>?_⟩;have h1:=za4 hs p;rw[zal hag,hp]at h1;have h1:=h1.im_inv;generalize hv:a.eval p=v at h1;cases h1 with
    |ref b q us _ hS hl a2 hu hr =>
     have a3:(us.take m).length=m:=by rw[yas];omega
     refine⟨.agg (us.take m).toArray,run a w _ (by
      rw[hv]
      exact zkz a0 (by rw[a3];exact hm) λj u hj=>hu j u (by rw[ybk]at hj;split at hj;exact hj;cases hj)),.im _ _ (.agg _ _ (by rw[a3,yas];omega) (λu b4=>a2 u (ybe b4)) λj u x hj hx=>?_)⟩
     rw[ybk]at hj hx;split at hj
     ·rename_i a7;rw[if_pos a7]at hx;exact hr j u x hj hx
     ·cases hj
   ·rename_i b g i hp;obtain⟨hi,h⟩:=h.ok;obtain⟨hg,h⟩:=h.out;rw[yax]at hi;have b9:=zd5 hi.1;have hi:=zf0 hi.2;refine⟨_,h,Eff.pure hd λσ' hag a w ρ hs=>?_⟩;have b3:∀x∈opd p++(.gen b::.knd b::(List.range m).map (λj=>Loc.cel b (i+j))),σ' x=σ x:=λx hx=>hag x (by simpa using hx);obtain⟨ha,hg',a4,a9⟩:=zcy b3;have h1:=za4 hs p;rw[zal ha,hp]at h1;obtain⟨t',m',hk,b7⟩:=zia (σ:=σ) (b:=b) (i:=i) (by omega);obtain⟨q,us,e,_,_,hl,a2,hc,hr⟩:=zho hs h1 (hg'.trans hg) (a4.trans hk);have c7:=zmu hk;have a3:((us.drop i).take m).length=m:=by rw[yas,ybh];omega
    refine⟨.agg ((us.drop i).take m).toArray,run a w _ (by
     rw[e]
     exact zkz a0 (by rw[a3];exact hm) λj u hj=>hc (i+j) u (zcw hj).1),zlw ⟨by rw[a3];simp,λj u x hj hx=>?_⟩ λu hu=>a2 u (ybp (ybe hu))⟩
    obtain⟨h3,a7⟩:=zcw hj;simp only[yae,yba a7,yap,zkF]at hx;rw[<- hx,<- ce_same (a9 (.cel b (i+j)) (by simp;exact a7))];exact hr _ u h3
   ·rename_i b g k i j hp;split at h
    ·rename_i es hk;obtain⟨e,⟨hg,he,c0,a6⟩,h⟩:=h;refine⟨_,h,Eff.pure hd λσ' hag a w ρ hs=>?_⟩;obtain⟨ha,hg',a4,_⟩:=zcy hag;have h1:=za4 hs p;rw[zal ha,hp]at h1;obtain⟨q,off,us,ev,hl,a5,a2,a8,hr⟩:=elt_read hs h1 (hg'.trans hg) (by rw[a4];exact hk) he a6;have b5:i<es.length:=(zkI.1 he).1;have b6:=zbx a5
     have b8:i*k+k<=es.length*k:=by
      have:=ybs k (show i+1<=es.length from b5);rw[Nat.add_mul]at this;omega
     have a3:((us.drop (i*k+j)).take m).length=m:=by rw[yas,ybh,hl,b6];omega
     refine⟨.agg ((us.drop (i*k+j)).take m).toArray,run a w _ (by
      rw[ev]
      exact zkz a0 (by rw[a3];exact hm) λp u hj=>by rw[ybt];exact a8 _ u (zcw hj).1),.im _ _ (.agg _ _ (by rw[a3,yas,ybh];omega) (λu hu=>a2 u (ybp (ybe hu))) λp u x hj hx=>?_)⟩
     obtain⟨h3,c6⟩:=zcw hj;obtain⟨h4,_⟩:=zcw hx;have hf:=flat_get a5 he (j:=j+p) (by omega);rw[h4,<- ybt]at hf;exact hr _ u x h3 hf
    ·exact h.elim
   ·exact h.elim
  ·exact h.elim
 ·exact h.elim
def aFieldAddr_ok{t:TypeId}{p:Operand}{f:Nat}(hop:o.op=.fieldAddr t p f)(hd:zct B.n o=true)(h:zov P o σ K t p f):∃fx,K fx/\Eff P B o fx.rd σ fx.wr:=by
 unfold zov at h;split at h
 ·rename_i off ft hf;split at h
  ·rename_i m hm;obtain⟨h0,h⟩:=h.ok;have h0:=zd5 h0;obtain⟨fs,x,hu,hx,a4,a5⟩:=fld_spec hf
   have run:∀(a:Act) w q i,a.eval p=.pointer (some ⟨q,i,none⟩)->(execOp a.eval o).run P w=.ok (.value (.pointer (some ⟨q,i+off,none⟩))) w:=λa w q i hv=>by
    have a3:=zf8 hm w;have a6:¬m=0:=by omega
    simp[execOp,hop,hv,Instr.fieldAt,run_underlying hu,hx,Instr.sureAddr,fieldPlace,a5,a3,a6,addr_add,a4]
   split at h
   ·rename_i cs hp;refine⟨_,h,Eff.pure hd λσ' hag a w ρ hs=>?_⟩;have h1:=za4 hs p;rw[zal hag,hp]at h1;have h1:=h1.im_inv;generalize hv:a.eval p=v at h1;cases h1 with
    |ref b q us _ hS hl a2 hu hr =>
     refine⟨_,run a w b q hv,.im _ _ (.ref b (q+off) (us.drop off) (cs.drop off) hS (by simp[hl]) (λu a0=>a2 u (ybp a0)) (λj u hj=>?_) λj u y hj hy=>?_)⟩
     ·rw[ybq]at hj;have:=hu _ u hj
      rwa [<- ybt]at this
     ·rw[ybq]at hj hy;exact hr _ u y hj hy
   ·rename_i b g i hp;obtain⟨hg,h⟩:=h.out;refine⟨_,h,Eff.pure hd λσ' hag a w ρ hs=>?_⟩;have h1:=za4 hs p;rw[zal (zaw hag),hp]at h1;have hg':=(zdj (za7 hag (.gen b) (by simp))).trans hg;generalize hv:a.eval p=v at h1;cases h1 with
    |own _ _ _ _ a2 hgg hh =>
     obtain⟨q,e1,e2⟩:=hh hg';exact⟨_,run a w q i (hv.trans e2),.own _ b g (i+off) rfl hgg λ_=>⟨q,e1,rfl⟩⟩
   ·rename_i b g k i j hp;obtain⟨hg,h⟩:=h.out;refine⟨_,h,Eff.pure hd λσ' hag a w ρ hs=>?_⟩;have h1:=za4 hs p;rw[zal (zaw hag),hp]at h1;have hg':=(zdj (za7 hag (.gen b) (by simp))).trans hg;generalize hv:a.eval p=v at h1;cases h1 with
    |elt _ _ _ _ _ _ a2 hgg hh =>
     obtain⟨q,z,n,c,e1,e2⟩:=hh hg';exact⟨_,run a w q (z+(i*k+j)) (hv.trans e2),.elt _ b g k i (j+off) rfl hgg λ_=>⟨q,z,n,c,e1,by rw[ybt,ybt]⟩⟩
   ·exact h.elim
  ·exact h.elim
 ·exact h.elim
def zgo{w:World}{S:Nat->Prop}{ρ:Ly}{γ:Nat->Nat}{v:Value}{x:AV}{cs:List AV}(e:zl1 x=some cs)(h:RepA w S ρ γ v x):Reps w S ρ γ v.cells.toList cs:=by
 unfold zl1 at e;split at e
 ·rename_i l;injection e with e
  subst e;cases h.im_inv with
  |agg us _ hl a2 hr =>
   refine⟨by simpa[Value.cells]using hl,λi u y hu hy=>?_⟩;simp only[yae]at hy;cases hc:l[i]? with
   |none=>rw[hc]at hy;cases hy
   |some c =>
    rw[hc]at hy;simp only[yap,zkF]at hy;rw[<- hy];exact .im _ _ (hr i u c (by simpa[Value.cells]using hu) hc)
 ·rename_i z;split at e
  case isFalse=>cases e
  injection e with e
  subst e;cases h.im_inv with
  |val _ =>
   refine⟨by simp,λi u y hu hy=>?_⟩;simp only[yae,hu,yap,zkF]at hy;rw[<- hy];exact .im _ _ (.val _)
 ·rename_i l;injection e with e
  subst e;cases h with
  |agg us _ hl a2 hr=>exact⟨by simpa[Value.cells]using hl,λi u y hu hy=>hr i u y (by simpa[Value.cells]using hu) hy⟩
 ·cases e
 ·cases e
 ·rename_i a6 a5 a3 a4 a0;injection e with e
  subst e
  have hv:v.cells=#[v]:=by
   cases h with
   |im _ y hy =>
    cases hy with
    |val _=>exact absurd rfl (a5 _)
    |any _=>exact absurd rfl a4
    |ex _ h1=>revert h1;cases v<;>simp[Value.oneCell',Value.cells]
    |emp _ _=>rfl
    |sl _ _ _ _ _ _ _ _ _ _ _ _ _ _ _ _=>rfl
    |agg _ _ _ _ _=>exact absurd rfl (a6 _)
    |ref _ _ _ _ _ _ _ _ _=>rfl
    |fn _ _ _ _ _=>rfl
    |nsl _ _ _ _ _=>rfl
   |own _ _ _ _ a2 _ _=>revert a2;cases v<;>simp[Value.oneCell',Value.cells]
   |osl _ _ _ a2 _ _=>revert a2;cases v<;>simp[Value.oneCell',Value.cells]
   |elt _ _ _ _ _ _ a2 _ _=>revert a2;cases v<;>simp[Value.oneCell',Value.cells]
   |sub _ _ _ _ a2 _ _=>revert a2;cases v<;>simp[Value.oneCell',Value.cells]
   |osv _ _ _ _ _ a2 _ _=>revert a2;cases v<;>simp[Value.oneCell',Value.cells]
   |full _ _ _ _=>rfl
   |elt2 _ _ _ _ _ _ _ a2 _ _=>revert a2;cases v<;>simp[Value.oneCell',Value.cells]
   |fn _ _ _ _ _=>rfl
   |agg _ _ _ _ _=>exact absurd rfl (a3 _)
   |tup _ _ _ _=>exact absurd rfl (a0 _)
  rw[hv];refine⟨rfl,λi u y hu hy=>?_⟩;cases i with
  |zero =>
   simp at hu hy;rw[<- hu,<- hy];exact h
  |succ i=>simp at hy
end
end
section
open Go.RowKit
section
variable {P:Program}{B:Base}{o:Oper}{σ:St}{K:Fx->Prop}
def zgv{w:World}{S:Nat->Prop}{ρ:Ly}{γ:Nat->Nat}{v:Value}{x:AV}{cs:List AV}(e:zl1 x=some cs)(h:RepA w S ρ γ v x):∀u∈v.cells.toList,u.oneCell'=true:=by
 have one:v.oneCell'=true->∀u∈v.cells.toList,u.oneCell'=true:=λh1 u hu=>by
  have:v.cells=#[v]:=by revert h1;cases v<;>simp[Value.oneCell',Value.cells]
  rw[this]at hu;simp at hu;rw[hu];exact h1
 cases h with
 |im _ y hy =>
  cases hy with
  |val _ =>
   simp only[zl1]at e;split at e
   ·rename_i hh;intro u hu;exact ybf.1 hh u hu
   ·cases e
  |any _=>cases e
  |ex _ h1=>exact one h1
  |emp _ _=>exact one rfl
  |sl _ _ _ _ _ _ _ _ _ _ _ _ _ _ _ _=>exact one rfl
  |agg us _ _ h1 _=>intro u hu;exact h1 u (by simpa[Value.cells]using hu)
  |ref _ _ _ _ _ _ _ _ _=>exact one rfl
  |fn _ _ _ _ _=>exact one rfl
  |nsl _ _ _ _ _=>exact one rfl
 |own _ _ _ _ a2 _ _=>exact one a2
 |osl _ _ _ a2 _ _=>exact one a2
 |elt _ _ _ _ _ _ a2 _ _=>exact one a2
 |sub _ _ _ _ a2 _ _=>exact one a2
 |osv _ _ _ _ _ a2 _ _=>exact one a2
 |full _ _ _ _=>exact one rfl
 |elt2 _ _ _ _ _ _ _ a2 _ _=>exact one a2
 |fn _ _ _ _ _=>exact one rfl
 |agg us _ _ h1 _=>intro u hu;exact h1 u (by simpa[Value.cells]using hu)
 |tup _ _ _ _=>cases e
def zk3{w:World}{S:Nat->Prop}{ρ:Ly}{γ:Nat->Nat}{v:Value}{x:AV}{cs:List AV}(e:aggCs x=some cs)(h:RepA w S ρ γ v x):∃us:List Value,v=.agg us.toArray/\Reps w S ρ γ us cs/\∀u∈us,u.oneCell'=true:=by
 unfold aggCs at e;split at e
 ·rename_i l;injection e with e
  subst e;cases h.im_inv with
  |agg us _ hl a2 hr =>
   refine⟨us,rfl,⟨by simpa using hl,λi u y hu hy=>?_⟩,a2⟩;simp only[yae]at hy;cases hc:l[i]? with
   |none=>rw[hc]at hy;cases hy
   |some c =>
    rw[hc]at hy;simp only[yap,zkF]at hy;rw[<- hy];exact .im _ _ (hr i u c hu hc)
 ·rename_i vs;split at e
  case isFalse=>cases e
  rename_i hh;injection e with e
  subst e;cases h.im_inv with
  |val _ =>
   refine⟨vs.toList,by simp,⟨by simp,λi u y hu hy=>?_⟩,λu hu=>ybf.1 hh u hu⟩;simp only[yae,hu,yap,zkF]at hy;rw[<- hy];exact .im _ _ (.val _)
 ·rename_i l;injection e with e
  subst e;cases h with
  |agg us _ hl a2 hr=>exact⟨us,rfl,⟨hl,hr⟩,a2⟩
 ·cases e
def aField_ok{t:TypeId}{x:Operand}{f:Nat}(hop:o.op=.field t x f)(hd:zct B.n o=true)(h:aField P o σ K t x f):∃fx,K fx/\Eff P B o fx.rd σ fx.wr:=by
 unfold aField at h;split at h
 ·rename_i off ft hf;obtain⟨fs,y,hu,hy,a5,a4⟩:=fld_spec hf;split at h
  ·rename_i cs a6;split at h
   ·rename_i a0;split at h
    ·rename_i c hc;refine⟨_,h,Eff.pure hd λσ' hag a w ρ hs=>?_⟩;have h1:=za4 hs x;rw[zal hag]at h1;obtain⟨us,hv,hr,a2⟩:=zk3 a6 h1;have a8:off<us.length:=by rw[hr.1];exact(zkI.1 hc).1
     obtain⟨u,a3⟩:∃u,us[off]?=some u:=⟨_,zkM a8⟩;refine⟨u,?_,hr.2 off u c a3 hc⟩;have ha:=zos a0 w;simp[execOp,hop,hv,Instr.field,run_underlying hu,hy,asAgg,part,a4,ha,a5,a3]
    ·exact h.elim
   ·rename_i a0;split at h
    ·rename_i m hm;obtain⟨hi,h⟩:=h.ok;have hi:=zf0 hi;refine⟨_,h,Eff.pure hd λσ' hag a w ρ hs=>?_⟩;have h1:=za4 hs x;rw[zal hag]at h1;obtain⟨us,hv,hr,a2⟩:=zk3 a6 h1;have ha:=zos a0 w;have hz:=zf8 hm w;refine⟨.agg ((us.drop off).take m).toArray,?_,zlw ⟨by simp[hr.1],λj u y hj a7=>?_⟩ λu a3=>a2 u (ybp (ybe a3))⟩
     ·simp[execOp,hop,hv,Instr.field,run_underlying hu,hy,asAgg,part,a4,ha,a5,hz,List.drop_take]
     ·exact hr.2 _ u y (zcw hj).1 (zcw a7).1
    ·exact h.elim
   ·exact h.elim
  ·exact h.elim
 ·exact h.elim
def aExtract_ok{x:Operand}{i:Nat}(hop:o.op=.extract x i)(hd:zct B.n o=true)(h:aExtract o σ K x i):∃fx,K fx/\Eff P B o fx.rd σ fx.wr:=by
 unfold aExtract at h;split at h
 ·rename_i l hx;split at h
  ·rename_i v hv;refine⟨_,h,Eff.pure hd λσ' hag a w ρ hs=>?_⟩;have h1:=za4 hs x;rw[zal hag,hx]at h1;generalize he:a.eval x=z at h1;cases h1 with
   |tup us _ hl hr =>
    have a0:i<us.length:=by rw[hl];exact(zkI.1 hv).1
    obtain⟨u,hu⟩:∃u,us[i]?=some u:=⟨_,zkM a0⟩;exact⟨u,by simp[execOp,hop,he,Instr.extract,hu],hr i u v hu hv⟩
  ·exact h.elim
 ·exact h.elim
def aMax_ok{c:Call}{x y:Operand}(hop:o.op=.call c)(hc:c.callee=.builtin .max)(ha:c.args.toList=[x,y])(hd:zct B.n o=true)(h:aMax o σ K x y):∃fx,K fx/\Eff P B o fx.rd σ fx.wr:=by
 unfold aMax at h;split at h
 ·rename_i k b k' d hx hy;obtain⟨hk,h9⟩:=h.ok;have hk:=of_decide_eq_true hk;subst hk;refine⟨_,h9,Eff.pure hd λσ' hag a w ρ hs=>⟨_,?_,zc1 _⟩⟩;have h1:=za4 hs x;have h2:=za4 hs y;rw[zal (zaw hag)]at h1;rw[zal (za7 hag)]at h2;have e:(max b d:Int)=if d > b then d else b:=by split<;>omega
  have hm:c.args.toList.map a.eval=[.int k b,.int k d]:=by rw[ha];simp[zci hx h1,zci hy h2]
  simp[execOp,hop,resolve,hc,invoke,builtin,Builtin.max_,hm,Builtin.max2,e]
 ·exact h.elim
def aMin_ok{c:Call}{x y:Operand}(hop:o.op=.call c)(hc:c.callee=.builtin .min)(ha:c.args.toList=[x,y])(hd:zct B.n o=true)(h:aMin o σ K x y):∃fx,K fx/\Eff P B o fx.rd σ fx.wr:=by
 unfold aMin at h;split at h
 ·rename_i k b k' d hx hy;obtain⟨hk,h9⟩:=h.ok;have hk:=of_decide_eq_true hk;subst hk;refine⟨_,h9,Eff.pure hd λσ' hag a w ρ hs=>⟨_,?_,zc1 _⟩⟩;have h1:=za4 hs x;have h2:=za4 hs y;rw[zal (zaw hag)]at h1;rw[zal (za7 hag)]at h2;have e:(min b d:Int)=if d<b then d else b:=by split<;>omega
  have hm:c.args.toList.map a.eval=[.int k b,.int k d]:=by rw[ha];simp[zci hx h1,zci hy h2]
  simp[execOp,hop,resolve,hc,invoke,builtin,Builtin.min_,hm,Builtin.min2,e]
 ·exact h.elim
def aMin3_ok{c:Call}{x y z:Operand}(hop:o.op=.call c)(hc:c.callee=.builtin .min)(ha:c.args.toList=[x,y,z])(hd:zct B.n o=true)(h:aMin3 o σ K x y z):∃fx,K fx/\Eff P B o fx.rd σ fx.wr:=by
 unfold aMin3 at h;split at h
 ·rename_i k b k' d a3 f hx hy hz;obtain⟨hk,h9⟩:=h.ok;simp only[yax,decide_eq_true_eq]at hk;obtain⟨a2,a0⟩:=hk;subst a2 a0;refine⟨_,h9,Eff.pure hd λσ' hag a w ρ hs=>⟨_,?_,zc1 _⟩⟩;have h1:=za4 hs x;have h2:=za4 hs y;have h3:=za4 hs z;rw[zal (zaw (zaw hag))]at h1;rw[zal (za7 (zaw hag))]at h2;rw[zal (za7 hag)]at h3;have e:(min (min b d) f:Int)=if f<(if d<b then d else b) then f else(if d<b then d else b):=by split<;>split<;>omega
  have hm:c.args.toList.map a.eval=[.int k b,.int k d,.int k f]:=by rw[ha];simp[zci hx h1,zci hy h2,zci hz h3]
  simp[execOp,hop,resolve,hc,invoke,builtin,Builtin.min_,hm,Builtin.min2,e]
 ·exact h.elim
def zsp{a:Act}{w:World}{ρ:Ly}(h:SatR B σ a w ρ){b kk:Nat}{t:TypeId}{es:List (List IV)}(hk:σ.kd b=.row t kk es):∃A c,ρ b=.slice A es.length c:=by
 have ho:=h.obs b;rw[hk]at ho;obtain⟨us,_,_,_,h4,_⟩:=ho;rcases h4.2 with⟨e,h0⟩|⟨g,a0,cur,e,_⟩
 ·exact⟨none,0,by rw[e,h0]⟩
 ·exact⟨_,a0,e⟩
def aLen_ok{c:Call}{t:TypeId}{ts:List TypeId}{x:Operand}(hop:o.op=.call c)(hc:c.callee=.builtin .len)(ha:c.args.toList=[x])(ht:c.argTypes.toList=t::ts)(hd:zct B.n o=true)(h:aLen P o σ K t x):∃fx,K fx/\Eff P B o fx.rd σ fx.wr:=by
 have a3:c.argTypes[0]?=some t:=by rw[<- ya6,ht];rfl
 have a4:∀a:Act,(c.args.map a.eval)[0]?=some (a.eval x):=λa=>by rw[<- ya6,ycl,ha];rfl
 unfold aLen at h;split at h
 ·rename_i e he;have hu:=zdr he
  have run:∀(a:Act) w A n cp,a.eval x=.slice A n cp->(execOp a.eval o).run P w=.ok (.value (.int .i64 n)) w:=λa w A n cp hv=>by
   simp only[execOp,hop,resolve,hc,invoke,builtin,Builtin.len_,a3,a4,Sem.run_bind,Sem.run_pure,Result.andThen_ok,run_underlying hu,hv,goInt]
  split at h
  ·rename_i es hx;have h:=h.out;refine⟨_,h,Eff.pure hd λσ' hag a w ρ hs=>?_⟩;have h1:=za4 hs x;rw[zal hag,hx]at h1;have h1:=h1.im_inv;generalize hv:a.eval x=v at h1;cases h1 with
   |emp A cp=>exact⟨_,run a w _ _ _ hv,zc1 _⟩
   |sl b q cp k n _ us hn=>exact⟨_,run a w _ _ _ hv,by rw[hn];exact zc1 _⟩
  ·rename_i A n cp hx;refine⟨_,h,Eff.pure hd λσ' hag a w ρ hs=>?_⟩;have h1:=za4 hs x;rw[zal hag,hx]at h1;have h1:=h1.im_inv;generalize hv:a.eval x=v at h1;cases h1 with
   |val _=>exact⟨_,run a w _ _ _ hv,zc1 _⟩
  ·rename_i b g hx;split at h
   ·rename_i es hk;obtain⟨hg,h⟩:=h.out;have h:=h.out;refine⟨_,h,Eff.pure hd λσ' hag a w ρ hs=>?_⟩;obtain⟨a5,hg',a6,_⟩:=zcy hag;have h1:=za4 hs x;rw[zal a5,hx]at h1
    obtain⟨A,cp,hρ⟩:∃A cp,ρ b=.slice A es.length cp:=by
     obtain⟨_,_,_,_,_,_,h9⟩:=es_form hs (show esOf (σ'.kd b)=some es by rw[a6];exact hk);rcases h9 with⟨f1,f2⟩|⟨_,_,_,f1,_⟩
     ·exact⟨_,_,by rw[f1,f2]⟩
     ·exact⟨_,_,f1⟩
    generalize hv:a.eval x=v at h1;cases h1 with
    |osl _ _ _ a2 hgg hh =>
     rw[hh (hg'.trans hg),hρ]at hv;exact⟨_,run a w _ _ _ hv,zc1 _⟩
   ·exact h.elim
  ·exact h.elim
 ·split at h
  ·rename_i s hx;obtain⟨a0,h⟩:=h.ok
   have hu:P.underlying t=some .string:=by
    unfold isStr at a0;split at a0
    ·assumption
    ·cases a0
   refine⟨_,h,Eff.pure hd λσ' hag a w ρ hs=>⟨_,?_,zc1 _⟩⟩;have h1:=za4 hs x;rw[zal hag]at h1;simp only[execOp,hop,resolve,hc,invoke,builtin,Builtin.len_,a3,a4,Sem.run_bind,Sem.run_pure,Result.andThen_ok,run_underlying hu,zrc hx h1,goInt]
  ·exact h.elim
def zm5{t:TypeId}{x i:Operand}(hop:o.op=.indexAddr t x i)(hd:zct B.n o=true)(h:zll P o σ K t x i):∃fx,K fx/\Eff P B o fx.rd σ fx.wr:=by
 unfold zll at h;split at h
 ·rename_i kk n et hi a9;have hu:=zdr a9
  have run:∀(a:Act) w q l (cp:Nat×Nat) k,a.eval x=.slice (some ⟨q,0+l,none⟩) cp.1 cp.2->a.eval i=.int kk n->0<=n->n.toNat<cp.1->szOf P et=some k->(execOp a.eval o).run P w=.ok (.value (.pointer (some ⟨q,0+l+n.toNat*k,none⟩))) w:=λa w q l cp k hv hn h0 a5 hk=>by
   have hz:=zf8 hk w;have h3:0<=n/\n<cp.1:=⟨h0,by omega⟩;simp only[execOp,hop,hv,hn,Instr.indexAt,asIntOf,Sem.run_bind,Sem.run_pure,Result.andThen_ok,run_underlying hu,if_pos h3,hz,addr_add]
  split at h
  ·rename_i es hx;obtain⟨e,⟨h0,he,hk⟩,h⟩:=h;refine⟨_,h,Eff.pure hd λσ' hag a w ρ hs=>?_⟩;have h1:=za4 hs x;have h2:=za4 hs i;rw[zal (zaw hag),hx]at h1;rw[zal (za7 hag)]at h2;have hn:=zci hi h2;have h1:=h1.im_inv;generalize hv:a.eval x=v at h1;cases h1 with
   |emp A cp=>simp at he
   |sl b q cp k m _ us hm hkk hcap hsm hS hl a2 huc hr =>
    have a4:e.length=k:=hkk e (zkH he);have b2:n.toNat<es.length:=(zkI.1 he).1;have b3:=zbx hkk
    have b5:n.toNat*k+k<=es.length*k:=by
     have:=ybs k (show n.toNat+1<=es.length from b2);rw[Nat.add_mul]at this;omega
    have a0:=run a w b q (m,cp) k (by rw[hv,yal]) hn h0 (by omega) (by rw[hk,a4]);rw[yal]at a0;refine⟨_,a0,.im _ _ (.ref b (q+n.toNat*k) ((us.drop (n.toNat*k)).take k) e hS (by rw[yas,ybh,hl,b3,a4];omega) (λu b0=>a2 u (ybp (ybe b0))) (λj u hj=>?_) λj u y hj hy=>?_)⟩
    ·have:=huc _ u (zcw hj).1
     rwa [<- ybt]at this
    ·obtain⟨h3,a8⟩:=zcw hj;have hf:=flat_get hkk he a8;rw[hy]at hf;exact hr _ u y h3 hf
  ·rename_i b g hx;split at h
   ·rename_i es a7;split at h
    ·rename_i k hk;obtain⟨⟨h0,hg,a5⟩,h⟩:=h.out;refine⟨_,h,Eff.pure hd λσ' hag a w ρ hs=>?_⟩;obtain⟨a6,hg',b4,_⟩:=zcy hag;have h1:=za4 hs x;have h2:=za4 hs i;rw[zal (zaw a6),hx]at h1;rw[zal (za7 a6)]at h2;have hn:=zci hi h2
     obtain⟨q,off,cp',a3⟩:∃q off cp',ρ b=.slice (some ⟨q,off,none⟩) es.length cp':=by
      obtain⟨_,_,_,_,_,_,h9⟩:=es_form hs (show esOf (σ'.kd b)=some es by rw[b4];exact a7);rcases h9 with⟨_,f2⟩|⟨q,off,cp',f1,_⟩
      ·omega
      ·exact⟨q,off,cp',f1⟩
     generalize hv:a.eval x=v at h1;cases h1 with
     |osl _ _ _ a2 hgg hh =>
      rw[hh (hg'.trans hg),a3]at hv;have a0:=run a w q off (es.length,cp') k (by rw[hv,yal]) hn h0 a5 hk;rw[yal]at a0;exact⟨_,a0,.elt _ b g k n.toNat 0 rfl hgg λ_=>⟨q,off,_,cp',a3,by rw[ybz]⟩⟩
    ·exact h.elim
   ·exact h.elim
  ·exact h.elim
 ·exact h.elim
def zja{α:Type}{k:Nat}:∀{es:List (List α)} {n:Nat},(∀x∈es,x.length=k)->(es.take n).flatten=es.flatten.take (n*k)
 |[],n,_=>by simp
 |x::es,0,_=>by simp
 |x::es,n+1,h=>by
  have hx:=h x (by simp);rw[List.take_succ_cons,ybu,zja λy hy=>h y (by simp[hy]),ybu,yen,hx,Nat.add_mul,yfl,yd9,yb7 (l:=x) (by omega)]
def znd{α:Type}{k:Nat}:∀{es:List (List α)} {n:Nat},(∀x∈es,x.length=k)->(es.drop n).flatten=es.flatten.drop (n*k)
 |[],n,_=>by simp
 |x::es,0,_=>by simp
 |x::es,n+1,h=>by
  have hx:=h x (by simp);rw[List.drop_succ_cons,znd λy hy=>h y (by simp[hy]),ybu,List.drop_append,hx,Nat.add_mul,yfl,yd9,List.drop_of_length_le (l:=x) (by omega),ycj]
def flat_cut{α:Type}{k:Nat}{es:List (List α)}{l r:Nat}(h:∀x∈es,x.length=k)(_:l<=r):((es.take r).drop l).flatten=(es.flatten.take (r*k)).drop (l*k):=by
 rw[znd λx hx=>h x (ybe hx),zja h]
def optI_same{σ':St}{d:Int}{x:Option Operand}(h:∀l∈(x.map opd).getD [],σ' l=σ l):optI σ' d x=optI σ d x:=by
 cases x with
 |none=>rfl
 |some y =>
  show(Sym.asInt (evA σ' y)).map (·.2)=(Sym.asInt (evA σ y)).map (·.2);rw[zal (x:=y) (by simpa using h)]
def aSlice_ok{t:TypeId}{x:Operand}{lo hi:Option Operand}(hop:o.op=.slice t x lo hi none)(hd:zct B.n o=true)(h:aSlice P o σ K t x lo hi):∃fx,K fx/\Eff P B o fx.rd σ fx.wr:=by
 unfold aSlice at h;split at h
 ·rename_i et b6;have hu:=zdr b6;split at h
  case h_2=>exact h.elim
  rename_i k hz;split at h
  ·rename_i es hx;split at h
   ·rename_i l r hl hr;obtain⟨⟨h0,c6,b5,hk⟩,h⟩:=h.out;have h:=h.out;refine⟨_,h,Eff.pure hd λσ' hag a w ρ hs=>?_⟩;have b3:=zaw (zaw hag);have a5:=optI_same (d:=0) (za7 (zaw hag));have a7:=optI_same (d:=es.length) (za7 hag);rw[hl]at a5;rw[hr]at a7
    have a6:∀(y:Operand) (n:Int) (m:Nat) (c:BoundsCode),(Sym.asInt (evA σ' y)).map (·.2)=some n->0<=n->n<=m->(Instr.sliceBound (a.eval y) m c).run P w=.ok n.toNat w:=λy n m c e e0 em=>by
     have h2:=za4 hs y;cases hy:Sym.asInt (evA σ' y) with
     |none=>rw[hy]at e;cases e
     |some p =>
      obtain⟨k1,n1⟩:=p;rw[hy]at e;simp only[yap,zkF]at e;subst e;have h3:0<=n1/\n1<=m:=⟨e0,em⟩;simp only[zci hy h2,Instr.sliceBound,asIntOf,Sem.run_bind,Sem.run_pure,Result.andThen_ok,if_pos h3]
    have a8:∀n cp:Nat,n=es.length->n<=cp->(Instr.sliceBounds true n cp (lo.map a.eval) (hi.map a.eval) none).run P w=.ok (l.toNat,r.toNat,cp) w:=λn cp e1 e2=>by
     have bh:∀y c,hi=some y->(Instr.sliceBound (a.eval y) cp c).run P w=.ok r.toNat w:=λy c e=>a6 y r cp c (by rw[<- a7,e];rfl) (by omega) (by omega);have bl:∀y c,lo=some y->(Instr.sliceBound (a.eval y) r.toNat c).run P w=.ok l.toNat w:=λy c e=>a6 y l r.toNat c (by rw[<- a5,e];rfl) h0 (by omega)
     have nh:hi=none->r.toNat=n:=λe=>by
      rw[e]at a7;simp only[optI,zkF]at a7;rw[<- a7,e1];rfl
     have nl:lo=none->l.toNat=0:=λe=>by
      rw[e]at a5;simp only[optI,zkF]at a5;rw[<- a5];rfl
     unfold Instr.sliceBounds;cases hi with
     |none =>
      have e3:=nh rfl;cases lo with
      |none =>
       have e4:=nl rfl;simp[e3,e4]
      |some y =>
       have b1:=λc=>bl y c rfl;rw[e3]at b1;simp[e3,b1]
     |some z =>
      have b2:=λc=>bh z c rfl;cases lo with
      |none =>
       have e4:=nl rfl;simp[e4,b2]
      |some y =>
       have b1:=λc=>bl y c rfl;simp[b1,b2]
    have run:∀A n cp,a.eval x=.slice A n cp->n=es.length->n<=cp->(execOp a.eval o).run P w=.ok (.value (.slice (if cp=l.toNat then A else A.map (·.add (l.toNat*k))) (r.toNat-l.toNat) (cp-l.toNat))) w:=λA n cp hv hn b8=>by
     have hz:=zf8 hz w;have hb:=a8 n cp hn b8;simp only[execOp,hop,hv,Instr.sliceAt,Instr.slice,Sem.run_bind,Sem.run_pure,Result.andThen_ok,run_underlying hu,ydi,hb,hz]
    have h1:=za4 hs x;rw[zal b3]at h1;cases hxx:evA σ x with
    |im y =>
     rw[hxx]at h1 hx;have hx:nz y=.sl es:=hx;have h1:=h1.im_inv
     have a4:∀A cp,a.eval x=.slice A 0 cp->es=[]->∃u,(execOp a.eval o).run P w=.ok (.value u) w/\RepA w (Imm B σ' ρ w) ρ σ'.gn u (.im (.sl ((es.take r.toNat).drop l.toNat))):=λA cp e1 e2=>by
      have hr:=run A 0 cp e1 (by rw[e2];rfl) (yaf _);have er:r.toNat=0:=by rw[e2]at b5;simp at b5;omega
      have el:l.toNat=0:=by omega
      rw[er,el]at hr;exact⟨_,hr,by rw[e2];simp only[List.take_nil,List.drop_nil];exact .im _ _ (.emp _ _)⟩
     have a0:∀v,a.eval x=v->RepI w (Imm B σ' ρ w) v (.sl es)->∃u,(execOp a.eval o).run P w=.ok (.value u) w/\RepA w (Imm B σ' ρ w) ρ σ'.gn u (.im (.sl ((es.take r.toNat).drop l.toNat))):=λv hv h1=>by
      cases h1 with
      |emp A cp=>exact a4 _ _ hv rfl
      |sl b q cp k' m _ us hm hkk hcap hsm hS hll a2 huc hrr =>
       by_cases b0:r.toNat=l.toNat
       ·have a3:=run _ m cp hv hm.symm hcap;have e0:(es.take r.toNat).drop l.toNat=[]:=ycp (by rw[yas];omega);rw[e0];rw[b0,ycn]at a3;exact⟨_,a3,.im _ _ (.emp _ _)⟩
       ·have a3:=run _ m cp hv hm.symm hcap;have c0:¬cp=l.toNat:=by omega
        rw[if_neg c0,yap,addr_add]at a3;have a9:∀e∈(es.take r.toNat).drop l.toNat,e∈es:=λe he=>ybe (ybp he);have b4:((es.take r.toNat).drop l.toNat).flatten=(es.flatten.take (r.toNat*k)).drop (l.toNat*k):=flat_cut hk (by omega);have c7:=zbx hk;refine⟨_,a3,.im _ _ (.sl b (q+l.toNat*k) (cp-l.toNat) k (r.toNat-l.toNat) _ ((us.take (r.toNat*k)).drop (l.toNat*k)) ?_ (λe he=>hk e (a9 e he)) (by omega) (by omega) hS ?_ (λu b7=>a2 u (ybe (ybp b7))) (λj u hj=>?_) λj u y hj hy=>?_)⟩
        ·rw[ybh,yas];omega
        ·rw[b4,ybh,yas,ybh,yas,hll]
        ·rw[ybq,ybk]at hj;split at hj
         ·have:=huc _ u hj
          rwa [<- ybt]at this
         ·cases hj
        ·rw[b4,ybq,ybk]at hy;rw[ybq,ybk]at hj;split at hj
         ·rename_i b9;rw[if_pos b9]at hy;exact hrr _ u y hj hy
         ·cases hj
     generalize hv:a.eval x=v at h1;cases h1 with
     |val _ =>
      obtain⟨rfl,rfl⟩:v=.slice none 0 0/\es=[]:=by
       unfold nz nz1 at hx;split at hx
       ·cases hx
       ·split at hx
        ·cases hx
        ·cases hx
       ·split at hx
        ·rename_i e;injection e with e
         injection hx with hx
         exact⟨e,hx.symm⟩
        ·cases hx
        ·rename_i e;cases e
        ·cases hx
      exact a4 _ _ hv rfl
     |emp A cp =>
      injection hx with hx
      exact a0 _ hv (hx ▸ .emp A cp)
     |sl b q cp k' m ees us hm hkk hcap hsm hS hll a2 huc hrr =>
      injection hx with hx
      exact a0 _ hv (hx ▸ .sl b q cp k' m ees us hm hkk hcap hsm hS hll a2 huc hrr)
     |nsl _ _ _ ees hh =>
      injection hx with hx
      exact a0 _ hv (hx ▸ hh)
     |_=>cases hx
    |_=>rw[hxx]at hx;cases hx
   ·exact h.elim
  ·exact h.elim
 ·exact h.elim
end
end
section
open Go.RowKit
section
variable {P:Program}{B:Base}{o:Oper}{σ:St}{K:Fx->Prop}
def zc0{d:Tmp}(hd:zct B.n o=true)(e:o.dst=some d):d<B.n:=zio hd d e
def making_alloc(σ:St)(w:World)(ρ:Ly)(ob:Obj):zo7 σ w (w.alloc ob) ρ none (.pointer (some ⟨w.heap.size,0,none⟩)) none :=
 ⟨World.grownBy_alloc w ob none,(λb e=>by cases e),λb e=>.inr (by simp only[zb3,zkF]at e;omega)⟩
def SatR.box{a:Act}{w:World}{ρ:Ly}(h:SatR B σ a w ρ)(d:Nat)(t:TypeId){us:List Value}{cs:List AV}(hr:Reps w (Imm B σ ρ w) ρ σ.gn us cs)(h1:∀u∈us,u.oneCell'=true) :
  SatR B (zeo σ none d (.box t cs.length) cs) a (w.alloc (.cells us.toArray t)) (setρ ρ d (.pointer (some ⟨w.heap.size,0,none⟩))):=by
 have m:=making_alloc σ w ρ (.cells us.toArray t);refine h.new m rfl λhI hA=>⟨w.heap.size,us,by simp[setρ],heap_alloc_new w _,hr.1,h1,λi u hu=>?_⟩;have hi:i<cs.length:=by rw[<- hr.1];exact(zkI.1 hu).1
 obtain⟨c,hc⟩:∃c,cs[i]?=some c:=⟨_,zkM hi⟩;rw[newSt_new σ none d _ cs i hi,ziq hc];exact hA _ _ (hr.2 i u c hu hc)
def zs8{a:Act}{w:World}{ρ:Ly}{used:Option Nat}{d:Nat}{k:Kd}{cs:List AV}{hv:Value}(h:SatR B (zeo σ used d k cs) a w (setρ ρ d hv))(q:Nat)(e:hv=.pointer (some ⟨q,0,none⟩))(hd:d<B.n) :
  SatR B (app (zeo σ used d k cs) [(.tmp d,.av (.own d (σ.gn d+1) 0))]) (a.put (some d) hv) w (setρ ρ d hv) :=
 h.put (d:=some d) (λt e=>by injection e with e;subst e;exact hd) (.own _ _ _ _ (by rw[e];rfl) (by rw[zjz,if_pos rfl];omega) λ_=>⟨q,by simp[setρ,e],by rw[e]⟩)
def zjs{a:Act}{w:World}{ρ:Ly}{used:Option Nat}{d:Nat}{k:Kd}{cs:List AV}{hv:Value}(h:SatR B (zeo σ used d k cs) a w (setρ ρ d hv))(h1:hv.oneCell'=true)(hd:d<B.n) :
  SatR B (app (zeo σ used d k cs) [(.tmp d,.av (.osl d (σ.gn d+1)))]) (a.put (some d) hv) w (setρ ρ d hv) :=
 h.put (d:=some d) (λt e=>by injection e with e;subst e;exact hd) (.osl _ _ _ h1 (by rw[zjz,if_pos rfl];omega) λ_=>by simp[setρ])
def zgx{a:Act}{w:World}{ρ:Ly}{used:Option Nat}{d b:Nat}{k:Kd}{cs:List AV}{hv:Value}(h:SatR B (zeo σ used b k cs) a w (setρ ρ b hv))(h1:hv.oneCell'=true)(hd:d<B.n) :
  SatR B (app (zeo σ used b k cs) [(.tmp d,.av (.osl b (σ.gn b+1)))]) (a.put (some d) hv) w (setρ ρ b hv) :=
 h.put (d:=some d) (λt e=>by injection e with e;subst e;exact hd) (.osl _ _ _ h1 (by rw[zjz,if_pos rfl];omega) λ_=>by simp[setρ])
def zkr{k:Kd}{d:Nat}{cs:List AV}{v:AV}{σ':St}(hg:σ'.gn d=σ.gn d):app σ' (zd2 σ d k++zfg d 0 cs++[(.tmp d,.av v)])=app (zeo σ' none d k cs) [(.tmp d,.av v)]:=by
 rw[zaz,zaz];unfold zeo zd2;rw[hg]
def aAlloc_ok{t:TypeId}(hop:o.op=.alloc t)(hd:zct B.n o=true)(h:aAlloc P o σ K t):∃fx,K fx/\Eff P B o fx.rd σ fx.wr:=by
 unfold aAlloc at h;split at h
 ·rename_i d cs a0 hz;obtain⟨a2,h⟩:=h.ok;refine⟨_,h,λσ' hag a w ⟨ρ,hs⟩ K' Q hK=>?_⟩;have hg:=zdj (hag (.gen d) (by simp))
  obtain⟨z,a4,a3⟩:∃z:Value,(∀w,(zeroValue t).run P w=.ok z w)/\z.cells.toList=cs:=by
   unfold zeroOf at hz;split at hz
   ·rename_i i hi;cases hz0:i.zero with
    |none=>rw[hz0]at hz;cases hz
    |some z =>
     rw[hz0]at hz;simp only[yap,zkF]at hz;exact⟨z,λw=>by simp[zeroValue,typeInfo,hi,hz0],hz⟩
   ·cases hz
  have run:(execOp a.eval o).run P w=.ok (.value (.pointer (some ⟨w.heap.size,0,none⟩))) (w.alloc (.cells cs.toArray t)):=by
   rw[<- a3];simp[execOp,hop,Instr.alloc,a4,newVar,newRow]
  unfold Oper.wp;rw[run,Oper.upon_value,a0];refine hK _ _ ⟨setρ ρ d (.pointer (some ⟨w.heap.size,0,none⟩)),?_⟩
  have hr:Reps w (Imm B σ' ρ w) ρ σ'.gn cs (cs.map λv=>.im (.val v)):=⟨by simp,λi u y hu hy=>by
   simp only[yae,hu,yap,zkF]at hy
   rw[<- hy]
   exact .im _ _ (.val _)⟩
  have hb:=hs.box d t hr (λu hu=>ybf.1 a2 u hu);rw[zkK]at hb;show SatR B (app σ' (zd2 σ d (.box t cs.length)++zfg d 0 (cs.map λv=>.im (.val v))++[(.tmp d,.av (.own d (σ.gn d+1) 0))])) _ _ _;rw[zkr hg,<- hg];exact zs8 hb _ rfl (zc0 hd a0)
 ·exact h.elim
def SatR.store{a:Act}{w w':World}{ρ:Ly}(h:SatR B σ a w ρ){b q i m:Nat}{t:TypeId}{cs:List AV}{us vs:List Value}(hk:σ.kd b=.box t m)(hρ:ρ b=.pointer (some ⟨q,0,none⟩))(hl:us.length=m)
  (h1:∀u∈us,u.oneCell'=true) (hus:∀(j:Nat) u,us[j]?=some u->RepA w (Imm B σ ρ w) ρ σ.gn u (σ.ce b j)) (hg:w.grownBy w' (some q))
  (hw':w'.heap[q]?=some (.cells (us.take i++vs++us.drop (i+vs.length)).toArray t (0,0))) (hfit:i+vs.length<=m) (hv:Reps w (Imm B σ ρ w) ρ σ.gn vs cs) (hv1:∀u∈vs,u.oneCell'=true):SatR B (app σ (zfg b i cs)) a w' ρ:=by
 have a3:=zp5 b cs i σ;have a2:=znu b cs i σ;have a0:live σ b:=by unfold live;rw[hk];exact λe=>by cases e
 have a6:Owns σ ρ b q:=.root a0 (by rw[hρ];rfl);have a5:∀o c,Owns (app σ (zfg b i cs)) ρ o c↔Owns σ ρ o c:=λo c=>by unfold Owns;rw[a2]
 refine(h.step (λo=>o=b) (λt=>by rw[zpv]) (λo hd=>⟨by rw[a2],by rw[a3],λj=>by rw[zlx,if_neg (λz=>hd z.1)],rfl,rfl,rfl⟩) (λo _=>⟨⟨by rw[a3];exact yaq _,λ_=>rfl⟩,yaq _,λ_=>rfl⟩)
  (λo=>by rw[celWr_ig];exact h.igs o) ⟨hg.os,hg.tape,hg.output,hg.size,λc hc hn=>hg.block c hc λe=>?_⟩ (λo c hd ho=>.inr ⟨o,hd,(a5 o c).1 ho⟩) (λo p c hd hp _ _=>hd.trans hp.symm) λhI hA o hd=>?_).1
 ·injection e with e
  subst e;exact hn ⟨b,rfl,a6⟩
 ·subst hd;rw[a2,hk];refine⟨q,_,hρ,hw',by simp;omega,λu hu=>?_,λj u hu=>?_⟩
  ·rcases yam.1 hu with hu|hu
   ·rcases yam.1 hu with hu|hu
    ·exact h1 u (ybe hu)
    ·exact hv1 u hu
   ·exact h1 u (ybp hu)
  ·rw[zlx];have a7:=hv.1;rw[yb3,ya1,yas]at hu;by_cases hj:j<i
   ·rw[if_pos (by omega),ybk,if_pos hj]at hu;rw[if_neg (by omega)];exact hA _ _ (hus j u hu)
   ·rw[if_neg (by omega),ya1,ycc (by omega)]at hu;by_cases a4:j-i<vs.length
    ·rw[if_pos a4]at hu;rw[if_pos ⟨rfl,by omega,by omega⟩];obtain⟨c,hc⟩:∃c,cs[j-i]?=some c:=⟨_,zkM (by omega)⟩;rw[ziq hc];exact hA _ _ (hv.2 _ u c hu hc)
    ·rw[if_neg a4,ybq]at hu;rw[if_neg (by omega)];have e3:i+vs.length+(j-i-vs.length)=j:=by omega
     rw[e3]at hu;exact hA _ _ (hus j u hu)
def aStore_ok{t:TypeId}{p x:Operand}(hop:o.op=.store t p x)(hd:zct B.n o=true)(h:aStore P o σ K t p x):∃fx,K fx/\Eff P B o fx.rd σ fx.wr:=by
 unfold aStore at h;split at h
 ·rename_i m cs hm a7;obtain⟨a0,h⟩:=h.ok;have a0:cs.length=m:=by simpa using a0
  split at h
  ·rename_i b g i hp;obtain⟨hi,h⟩:=h.ok;obtain⟨hg,h⟩:=h.out;rw[yax]at hi;have b2:=zd5 hi.1;have hi:=zf0 hi.2;refine⟨_,h,λσ' hag a w ⟨ρ,hs⟩ K' Q hK=>?_⟩;obtain⟨ha,hg',a6,_⟩:=zcy hag;have h1:=za4 hs p;have h2:=za4 hs x;rw[zal (zaw ha),hp]at h1;rw[zal (za7 ha)]at h2;have hr:=zgo a7 h2;have a2:=zgv a7 h2;obtain⟨t',n,a4,b0⟩:=zia (σ:=σ) (b:=b) (i:=i) (by omega);have b3:=zmu a4;obtain⟨q,us,e1,e2,e3,e4,e5,_,e7⟩:=zho hs h1 (hg'.trans hg) (a6.trans a4);have a5:(a.eval x).cells.toList.length=m:=by rw[hr.1,a0]
   have a3:=run_storeCells_at (P:=P) q i t' (a.eval x).cells.toList 0 us.toArray w e3 (by simp;simp at a5;omega) a2;simp only[ybz]at a3;have hz:=zf8 hm w;have a8:(a.eval x).cells.size=m:=by rw[<- a5];simp
   have run:(execOp a.eval o).run P w=.ok .skip (w.setRow q (us.take i++(a.eval x).cells.toList++us.drop (i+(a.eval x).cells.toList.length)).toArray):=by
    simp only[execOp,hop,Instr.storeAt,e1,Instr.sureAddr,storeVar,Sem.run_bind,Sem.run_pure,Result.andThen_ok,hz,a8];rw[if_neg (by simp),a3];simp
   unfold Oper.wp;rw[run,Oper.upon_skip];refine hK _ _ ⟨ρ,?_⟩;have a9:=hs.store (vs:=(a.eval x).cells.toList) (w':=w.setRow q (us.take i++(a.eval x).cells.toList++us.drop (i+(a.eval x).cells.toList.length)).toArray) (a6.trans a4) e2 e4 e5 e7 ⟨rfl,rfl,rfl,by simp,λk _ hk=>setRow_other w q k _ (λe=>hk (by rw[e]))⟩ (setRow_heap w q us.toArray _ t' _ e3) (by omega) hr a2;rw[zaz];exact a9.put (zio hd) (zc1 _)
  ·exact h.elim
 ·exact h.elim
end
end
section
open Go.RowKit
section
variable {P:Program}{B:Base}{o:Oper}{σ:St}{K:Fx->Prop}
def zjk(bs:yad):∀(σ:St) (o:Nat),(app σ (fwr bs)).kd o=if o∈bs.map (·.1) then .dead else σ.kd o:=by
 induction bs with
 |nil=>intro σ o;simp[fwr,app]
 |cons b bs ih =>
  intro σ o;show(app (upd σ (.knd b.1) (.kd .dead)) (fwr bs)).kd o=_;rw[ih,zei,yav];by_cases h:o∈bs.map (·.1)
  ·rw[if_pos h,if_pos (yau _ h)]
  ·rw[if_neg h];by_cases e:o=b.1
   ·rw[if_pos e,if_pos (by rw[e];exact ybl)]
   ·rw[if_neg e,if_neg (λhm=>by rcases yaw.1 hm with h1|h1;exact e h1;exact h h1)]
def fwr_live{bs:yad}{o:Nat}(h:live (app σ (fwr bs)) o):live σ o/\o∉bs.map (·.1):=by
 unfold live at h;rw[zjk]at h;by_cases e:o∈bs.map (·.1)
 ·rw[if_pos e]at h;exact absurd rfl h
 ·rw[if_neg e]at h;exact⟨h,e⟩
def zl4(bs:yad):∀(σ:St),(app σ (fwr bs)).gn=σ.gn:=by
 induction bs with
 |nil=>intro σ;rfl
 |cons b bs ih =>
  intro σ;show(app (upd σ (.knd b.1) (.kd .dead)) (fwr bs)).gn=_;rw[ih];exact funext λt=>zfe σ b.1 t _
def fwr_av(bs:yad)(t:Nat):∀(σ:St),(app σ (fwr bs)).av t=σ.av t:=by
 induction bs with
 |nil=>intro σ;rfl
 |cons b bs ih=>intro σ;show(app (upd σ (.knd b.1) (.kd .dead)) (fwr bs)).av t=_;rw[ih,zg8]
def gok_mem:∀{bs:yad},gok σ bs->∀p∈bs,σ.gn p.1=p.2
 |(b,g)::bs,h,p,hp=>by
  rcases yaw.1 hp with rfl|hp
  ·exact h.1
  ·exact gok_mem h.2 p hp
def zkj.out{bs:yad}{A:Prop}(h:zkj σ bs A):(∀p∈bs,σ.gn p.1=p.2)/\A:=by
 unfold zkj at h;split at h
 ·exact⟨λp hp=>by simp at hp,h⟩
 ·exact⟨gok_mem h.out.1,h.out.2⟩
def zj1{w:World}{S:Nat->Prop}{v:Value}{x:IV}(h:RepI w S v x):RepI w S v (nz1 x):=by
 unfold nz1;split
 ·cases h with
  |val _=>exact .emp _ _
 ·exact .any _
 ·cases h with
  |nsl _ _ _ _ h=>exact h
 ·exact h
def nz_rep{w:World}{S:Nat->Prop}{v:Value}{x:IV}(h:RepI w S v x):RepI w S v (nz x):=by
 unfold nz;split
 ·rename_i cs;cases h with
  |agg us _ hl h1' hr =>
   refine .agg us _ (by simpa using hl) h1' λi u x hu hx=>?_;simp only[yae]at hx;cases hc:cs[i]? with
   |none=>rw[hc]at hx;cases hx
   |some c =>
    rw[hc]at hx;simp only[yap,zkF]at hx;rw[<- hx];exact zj1 (hr i u c hu hc)
 ·rename_i vs;split
  case isFalse=>exact .any _
  rename_i a0;cases h with
  |val _ =>
   have:=RepI.agg (w:=w) (S:=S) vs.toList (vs.toList.map λv=>nz1 (.val v)) (by simp) (λu hu=>ybf.1 a0 u hu) λi u x hu hx=>by
    simp only[yae,hu,yap,zkF]at hx;rw[<- hx];exact zj1 (.val _)
   simpa using this
 ·exact zj1 h
def zpw{ρ:Ly}{bs:yad}{o q:Nat}(h:Owns (app σ (fwr bs)) ρ o q):Owns σ ρ o q/\o∉bs.map (·.1):=by
 have hl:=(fwr_live h.lv).2;unfold Owns at h ⊢;rw[zjk,if_neg hl]at h;exact⟨h,hl⟩
def kill_blk{a:Act}{w:World}{ρ:Ly}(h:SatR B σ a w ρ){b q:Nat}{bs:yad}(hb:Owns σ ρ b q)(hm:b∈bs.map (·.1)):Imm B (app σ (fwr bs)) ρ w q:=by
 have hq:=h.own b q hb;refine⟨.inr hq.1,hq.2,λo ho=>?_,λhz=>(h.res q hz).2 b hb⟩;obtain⟨h1,h2⟩:=zpw ho;have:=h.dis o b q h1 hb;subst this;exact h2 hm
def zg7.repI{w w':World}{S S':Nat->Prop}{v:Value}{e:TypeId}{k:Nat}{es:List (List IV)}(h:zg7 w S v e k es)(hb:∀b,zb3 v=some b->S' b/\w'.heap[b]?=w.heap[b]?)(hI:∀u x,RepI w S u x->RepI w' S' u x):RepI w' S' v (.sl es):=by
 obtain⟨us,a9,a8,a7,a3,a4,a2,hr⟩:=h;have a0:=zg6 a3 λb h=>(hb b h).2;rcases a0.2 with⟨e1,e2⟩|⟨q,a6,cur,e1,_,_,a5,_⟩
 ·have:es=[]:=yaz e2;subst this;rw[e1];exact .emp _ _
 ·have hc:=a0.cells (g:=q) (by rw[e1];rfl);have hS:=(hb q (by rw[e1];rfl)).1;rw[e1];refine .sl q 0 a6 k _ es us rfl a8 a5 a7 hS a4 a2 (λi u hu=>?_) λi u x hu hx=>hI _ _ (hr i u x hu hx);have:=hc i u hu
  rwa [addr_add]at this
def zig.repI{w w':World}{S S':Nat->Prop}{v:Value}{inn:List Value}{e e':TypeId}{k:Nat}{gs:List (List IV)}(h:zig w S v inn e e' k gs none)(hb:∀b,b∈fpv v inn->S' b/\w'.heap[b]?=w.heap[b]?)(hI:∀u x,RepI w S u x->RepI w' S' u x):RepI w' S' v (.sl gs):=by
 obtain⟨h0,h1,us,h2,h3,h4,h5⟩:=h;have a8:us.length=gs.length:=by have:=h3.1;omega
 have a0:∀(i:Nat) x,gs[i]?=some x->∃u es,us[i]?=some u/\x=[.sl es]/\RepI w' S' u (.sl es):=λi x hx=>by
  have hi:i<inn.length:=by rw[h1];exact(zkI.1 hx).1
  obtain⟨u,hu⟩:∃u,inn[i]?=some u:=⟨_,zkM hi⟩;rcases h5 i u hu with⟨h6,_⟩|⟨h6,es,h7,h8⟩
  ·cases h6
  ·rw[hx]at h7;injection h7 with h7
   exact⟨u,es,h6,h7,h8.repI (λb a4=>hb b (yb5.2 ⟨u,yau _ (zkH hu),a4⟩)) hI⟩
 have a5:∀x∈gs,x.length=1:=λx hx=>by
  obtain⟨i,hi⟩:=ych hx;obtain⟨u,es,_,rfl,_⟩:=a0 i x hi;rfl
 have a9:=zbx a5;have a3:=zg6 h3 λb a4=>(hb b (by simp[fpv,a4])).2;rcases a3.2 with⟨e1,e2⟩|⟨q,a7,cur,e1,_,_,a6,_⟩
 ·have:gs=[]:=yaz e2;subst this;rw[e1];exact .emp _ _
 ·have hc:=a3.cells (g:=q) (by rw[e1];rfl);have hS:=(hb q (by simp[fpv,e1,zb3])).1;rw[e1];refine .sl q 0 a7 1 _ gs us rfl a5 a6 h2 hS (by omega) h4 (λi u hu=>?_) λi u x hu hx=>?_
  ·have:=hc i u hu
   rwa [addr_add]at this
  ·have hi:i<gs.length:=by rw[<- a8];exact(zkI.1 hu).1
   obtain⟨y,hy⟩:∃y,gs[i]?=some y:=⟨_,zkM hi⟩;obtain⟨u',es,a2,rfl,hr⟩:=a0 i y hy;rw[hu]at a2;injection a2 with a2
   subst a2;have hf:=flat_get a5 hy (j:=0) (by omega);rw[ycz,ybz,hx]at hf;simp at hf;rw[hf];exact hr
def fz1_ok{a:Act}{w:World}{ρ:Ly}(h:SatR B σ a w ρ){v:Value}{c:AV}{x:IV}{bs bs':yad}(hgk:∀p∈bs',σ.gn p.1=p.2)(hv:RepA w (Imm B σ ρ w) ρ σ.gn v c)(e:fz1 σ c=some (x,bs))(hs:∀b∈bs,b∈bs'):RepI w (Imm B (app σ (fwr bs')) ρ w) v x:=by
 have hI:=(h.kills bs').2;unfold fz1 at e;split at e
 ·simp only[zkF,zkG]at e;rw[<- e.1];exact zj1 (hI _ _ hv.im_inv)
 ·rename_i b g
  have key:∀{k:Kd},σ.kd b=k->k≠.dead->(b,g)∈bs'->v=ρ b/\∀q,q∈fpk (ρ b) (ρ.inn b) k->Imm B (app σ (fwr bs')) ρ w q/\w.heap[q]?=w.heap[q]?:=λhk hd a0=>by
   have hg:=hgk _ a0;have a0:b∈bs'.map (·.1):=yao.2 ⟨_,a0,rfl⟩;refine⟨?_,λq hq=>⟨kill_blk h (b:=b) (by unfold Owns;rw[hk];exact hq) a0,rfl⟩⟩;cases hv with
   |osl _ _ _ _ _ hh=>exact hh hg
  have ho:=h.obs b;split at e
  ·rename_i t k es hk;simp only[zkF,zkG]at e;obtain⟨rfl,rfl⟩:=e;obtain⟨h1,h2⟩:=key hk (λz=>by cases z) (hs (b,g) (by simp));rw[hk]at ho;rw[h1];exact zg7.repI ho (λq hq=>h2 q (by simp[fpk,hq])) hI
  ·rename_i t t' k gs hk;simp only[zkF,zkG]at e;obtain⟨rfl,rfl⟩:=e;obtain⟨h1,h2⟩:=key hk (λz=>by cases z) (hs (b,g) (by simp));rw[hk]at ho;rw[h1];exact zig.repI ho (λq hq=>h2 q hq) hI
  ·rename_i l hk;simp only[zkF,zkG]at e;obtain⟨rfl,rfl⟩:=e;exact .any _
  ·cases e
 ·rename_i b g i;have ho:=h.obs b;split at e
  ·rename_i t t' k gs hk a4;simp only[zkF,zkG]at e;obtain⟨rfl,rfl⟩:=e;have a0:b∈bs'.map (·.1):=yao.2 ⟨_,hs (b,σ.gn b) (by simp),rfl⟩;have hg:σ.ig b=g:=yar a4
   have a2:(ρ.inn b)[i]?=some v:=by
    cases hv with
    |sub _ _ _ _ _ _ hh=>exact hh ((h.igs b).trans hg)
   have a3:∀q,q∈fpk (ρ b) (ρ.inn b) (.grid t t' k gs none)->Imm B (app σ (fwr bs')) ρ w q:=λq hq=>kill_blk h (b:=b) (by unfold Owns;rw[hk];exact hq) a0;rw[hk]at ho;obtain⟨h0,h1,us,h2,h3,h4,h5⟩:=ho;rcases h5 i v a2 with⟨h6,_⟩|⟨h6,es,h7,h8⟩
   ·cases h6
   ·have er:rowAt gs i=es:=by unfold rowAt;rw[h7]
    rw[er];exact h8.repI (λq hq=>⟨a3 q (yb5.2 ⟨v,yau _ (zkH a2),hq⟩),rfl⟩) hI
  ·cases e
 ·cases e
def ztf{a:Act}{w:World}{ρ:Ly}(h:SatR B σ a w ρ){bs':yad}(hgk:∀p∈bs',σ.gn p.1=p.2):∀{us:List Value} {cs:List AV} {xs:List IV} {bs:yad},Reps w (Imm B σ ρ w) ρ σ.gn us cs->fzL σ cs=some (xs,bs)->(∀b∈bs,b∈bs')->zic w (Imm B (app σ (fwr bs')) ρ w) us xs
 |[],[],xs,bs,_,e,_=>by
  simp only[fzL,zkF,zkG]at e;rw[<- e.1];exact⟨rfl,λi u x hu=>by simp at hu⟩
 |u::us,c::cs,xs,bs,hr,e,hs=>by
  simp only[fzL]at e;split at e
  ·rename_i x b1 xs1 bs1 h1 h2;simp only[zkF,zkG]at e;obtain⟨rfl,rfl⟩:=e;have r1:=fz1_ok h hgk (hr.2 0 u c rfl rfl) h1 λb hb=>hs b (yan _ hb);have r2:=ztf h hgk (us:=us) (cs:=cs) ⟨by simpa using hr.1,λi u c hu hc=>hr.2 (i+1) u c (by simpa using hu) (by simpa using hc)⟩ h2 λb hb=>hs b (yai _ hb);refine⟨by simp[r2.1],λi u' x' hu hx=>?_⟩;cases i with
   |zero=>simp at hu hx;rw[<- hu,<- hx];exact r1
   |succ i=>exact r2.2 i u' x' (by simpa using hu) (by simpa using hx)
  ·cases e
 |[],_::_,_,_,hr,_,_=>by have:=hr.1;simp at this
 |_::_,[],_,_,hr,_,_=>by have:=hr.1;simp at this
def zol{w:World}{ρ:Ly}{us:List Value}{b:Nat}{t:TypeId}(hk:σ.kd b=.box t us.length)(h:∀(j:Nat) u,us[j]?=some u->RepA w (Imm B σ ρ w) ρ σ.gn u (σ.ce b j)):Reps w (Imm B σ ρ w) ρ σ.gn us (zok σ b):=by
 have hl:=zmu hk;unfold zok;rw[hl];refine⟨by simp,λi u c hu hc=>?_⟩;have hi:i<us.length:=(zkI.1 hu).1;simp only[yae,yba hi,yap,zkF]at hc;rw[<- hc];exact h i u hu
def zic.drop{w:World}{S:Nat->Prop}{us:List Value}{xs:List IV}(h:zic w S us xs)(i:Nat):zic w S (us.drop i) (xs.drop i) :=
 ⟨by simp[h.1],λj u x hu hx=>h.2 (i+j) u x (by rwa [ybq]at hu) (by rwa [ybq]at hx)⟩
def fz2_ok{a:Act}{w:World}{ρ:Ly}(h:SatR B σ a w ρ){v:Value}{c:AV}{x:IV}{bs bs':yad}(hgk:∀p∈bs',σ.gn p.1=p.2)(hv:RepA w (Imm B σ ρ w) ρ σ.gn v c)(e:fz2 σ c=some (x,bs))(hs:∀b∈bs,b∈bs'):RepI w (Imm B (app σ (fwr bs')) ρ w) v x:=by
 have hI:=(h.kills bs').2;unfold fz2 at e;split at e
 ·simp only[zkF,zkG]at e;rw[<- e.1];exact nz_rep (hI _ _ hv.im_inv)
 ·rename_i cs;cases hf:fzL σ cs with
  |none=>rw[hf]at e;cases e
  |some p =>
   rw[hf]at e;simp only[yap,zkF,zkG]at e;cases hv with
   |agg us _ hl a2 hr =>
    have r:=ztf h (bs':=bs') hgk ⟨hl,hr⟩ (xs:=p.1) (bs:=p.2) hf (by rw[e.2];exact hs);rw[<- e.1];exact .agg us _ r.1 a2 r.2
 ·rename_i b g i;split at e
  ·rename_i t m a3;cases hf:fzL σ (zok σ b) with
   |none=>rw[hf]at e;cases e
   |some p =>
    rw[hf]at e;simp only[yap,zkF,zkG]at e;obtain⟨e1,e2⟩:=e;have a0:=hs (b,g) (by rw[<- e2];simp);have hg:=hgk _ a0;have a0:b∈bs'.map (·.1):=yao.2 ⟨_,a0,rfl⟩;have a4:∀b∈p.2,b∈bs':=λc hc=>hs c (by rw[<- e2];simp[hc]);have hl:live σ b:=by unfold live;rw[a3];exact λz=>by cases z
    obtain⟨q,us,e3,e4,e5,e6,e7,e8,e9⟩:=zho h hv hg a3;have r:=(ztf h (bs':=bs') hgk (zol (by rw[e6];exact a3) e9) (xs:=p.1) (bs:=p.2) hf a4).drop i;have hb:zb3 (ρ b)=some q:=by rw[e4];rfl
    rw[<- e1,e3];exact .ref q i (us.drop i) _ (kill_blk h (.root hl hb) a0) r.1 (λu hu=>e7 u (ybp hu)) (λj u hu=>e8 _ u (by rwa [ybq]at hu)) r.2
  ·cases e
 ·exact fz1_ok h hgk hv e hs
def fzM_ok{a:Act}{w:World}{ρ:Ly}(h:SatR B σ a w ρ){bs':yad}(hgk:∀p∈bs',σ.gn p.1=p.2):∀{us:List Value} {cs:List AV} {xs:List IV} {bs:yad},Reps w (Imm B σ ρ w) ρ σ.gn us cs->fzM σ cs=some (xs,bs)->(∀b∈bs,b∈bs')->zic w (Imm B (app σ (fwr bs')) ρ w) us xs
 |[],[],xs,bs,_,e,_=>by
  simp only[fzM,zkF,zkG]at e;rw[<- e.1];exact⟨rfl,λi u x hu=>by simp at hu⟩
 |u::us,c::cs,xs,bs,hr,e,hs=>by
  simp only[fzM]at e;split at e
  ·rename_i x b1 xs1 bs1 h1 h2;simp only[zkF,zkG]at e;obtain⟨rfl,rfl⟩:=e;have r1:=fz2_ok h hgk (hr.2 0 u c rfl rfl) h1 λb hb=>hs b (yan _ hb);have r2:=fzM_ok h hgk (us:=us) (cs:=cs) ⟨by simpa using hr.1,λi u c hu hc=>hr.2 (i+1) u c (by simpa using hu) (by simpa using hc)⟩ h2 λb hb=>hs b (yai _ hb);refine⟨by simp[r2.1],λi u' x' hu hx=>?_⟩;cases i with
   |zero=>simp at hu hx;rw[<- hu,<- hx];exact r1
   |succ i=>exact r2.2 i u' x' (by simpa using hu) (by simpa using hx)
  ·cases e
 |[],_::_,_,_,hr,_,_=>by have:=hr.1;simp at this
 |_::_,[],_,_,hr,_,_=>by have:=hr.1;simp at this
def fz_ok{a:Act}{w:World}{ρ:Ly}(h:SatR B σ a w ρ){v:Value}{c:AV}{x:IV}{bs bs':yad}(hgk:∀p∈bs',σ.gn p.1=p.2)(hv:RepA w (Imm B σ ρ w) ρ σ.gn v c)(e:fz σ c=some (x,bs))(hs:∀b∈bs,b∈bs'):RepI w (Imm B (app σ (fwr bs')) ρ w) v x:=by
 unfold fz at e;split at e
 ·rename_i f caps;cases hf:fzM σ caps with
  |none=>rw[hf]at e;cases e
  |some p =>
   rw[hf]at e;simp only[yap,zkF,zkG]at e;cases hv with
   |fn _ us _ hl hr =>
    have r:=fzM_ok h (bs':=bs') hgk ⟨hl,hr⟩ (xs:=p.1) (bs:=p.2) hf (by rw[e.2];exact hs);rw[<- e.1];exact .fn f us _ r.1 r.2
 ·exact fz2_ok h hgk hv e hs
def zc5(σ σ':St)(bs:yad):Prop:=∀l∈frd σ bs,σ' l=σ l
def zc5.left{σ':St}{b c:yad}(h:zc5 σ σ' (b++c)):zc5 σ σ' b:=λl hl=>h l (by unfold frd at *;rw[yc9];exact yan _ hl)
def zc5.right{σ':St}{b c:yad}(h:zc5 σ σ' (b++c)):zc5 σ σ' c:=λl hl=>h l (by unfold frd at *;rw[yc9];exact yai _ hl)
def zc5.head{σ':St}{p:Nat×Nat}{c:yad}(h:zc5 σ σ' (p::c)):σ'.gn p.1=σ.gn p.1/\σ'.kd p.1=σ.kd p.1/\zok σ' p.1=zok σ p.1/\σ'.ig p.1=σ.ig p.1:=by
 have h1:=zdj (h (.gen p.1) (by simp[frd]));have h2:=zmf (h (.knd p.1) (by simp[frd]))
 have h3:σ'.ig p.1=σ.ig p.1:=by
  have:=h (.ign p.1) (by simp[frd]);unfold St.ig;rw[this]
 refine⟨h1,h2,?_,h3⟩;unfold zok;rw[boxLen_same h2];refine yda λi hi=>ce_same (h (.cel p.1 i) ?_);simp only[frd,ybn,yc2,yaw,yam];refine .inr (.inr (.inr (.inl ?_)));unfold boxRd;exact yao.2 ⟨i,hi,rfl⟩
def fz1_same{σ':St}{c:AV}{x:IV}{bs:yad}(e:fz1 σ c=some (x,bs))(h:zc5 σ σ' bs):fz1 σ' c=some (x,bs):=by
 unfold fz1 at e ⊢;split at e
 ·exact e
 ·rename_i b g;split at e
  ·rename_i t k es hk;simp only[zkF,zkG]at e;obtain⟨rfl,rfl⟩:=e;rw[show σ'.kd b=_ from(zc5.head h).2.1.trans hk]
  ·rename_i t t' k gs hk;simp only[zkF,zkG]at e;obtain⟨rfl,rfl⟩:=e;rw[show σ'.kd b=_ from(zc5.head h).2.1.trans hk]
  ·rename_i l hk;simp only[zkF,zkG]at e;obtain⟨rfl,rfl⟩:=e;rw[show σ'.kd b=_ from(zc5.head h).2.1.trans hk]
  ·cases e
 ·rename_i b g i;split at e
  ·rename_i t t' k gs hk a0;simp only[zkF,zkG]at e;obtain⟨rfl,rfl⟩:=e;have hh:=zc5.head h;rw[show σ'.kd b=_ from hh.2.1.trans hk,show Nat.beq (σ'.ig b) g=true by rw[show σ'.ig b=σ.ig b from hh.2.2.2];exact a0,show σ'.gn b=σ.gn b from hh.1]
  ·cases e
 ·cases e
def zlg{σ':St}:∀{cs:List AV} {xs:List IV} {bs:yad},fzL σ cs=some (xs,bs)->zc5 σ σ' bs->fzL σ' cs=some (xs,bs)
 |[],_,_,e,_=>e
 |c::cs,xs,bs,e,h=>by
  simp only[fzL]at e;split at e
  ·rename_i x b1 xs1 bs1 h1 h2;simp only[zkF,zkG]at e;obtain⟨rfl,rfl⟩:=e;simp only[fzL,fz1_same h1 h.left,zlg h2 h.right]
  ·cases e
def fz2_same{σ':St}{c:AV}{x:IV}{bs:yad}(e:fz2 σ c=some (x,bs))(h:zc5 σ σ' bs):fz2 σ' c=some (x,bs):=by
 unfold fz2 at e ⊢;split at e
 ·exact e
 ·rename_i cs;cases hf:fzL σ cs with
  |none=>rw[hf]at e;cases e
  |some p =>
   rw[hf]at e;simp only[yap,zkF,zkG]at e;obtain⟨rfl,rfl⟩:=e;rw[zlg (xs:=p.1) (bs:=p.2) hf h];rfl
 ·rename_i b g i;split at e
  ·rename_i t m a0;cases hf:fzL σ (zok σ b) with
   |none=>rw[hf]at e;cases e
   |some p =>
    rw[hf]at e;simp only[yap,zkF,zkG]at e;obtain⟨rfl,rfl⟩:=e;have hh:=zc5.head h;rw[show σ'.kd b=_ from hh.2.1.trans a0];simp only;rw[show zok σ' b=_ from hh.2.2.1,zlg (xs:=p.1) (bs:=p.2) hf (zc5.right (b:=[(b,g)]) h)];rfl
  ·cases e
 ·exact fz1_same e h
def fzM_same{σ':St}:∀{cs:List AV} {xs:List IV} {bs:yad},fzM σ cs=some (xs,bs)->zc5 σ σ' bs->fzM σ' cs=some (xs,bs)
 |[],_,_,e,_=>e
 |c::cs,xs,bs,e,h=>by
  simp only[fzM]at e;split at e
  ·rename_i x b1 xs1 bs1 h1 h2;simp only[zkF,zkG]at e;obtain⟨rfl,rfl⟩:=e;simp only[fzM,fz2_same h1 h.left,fzM_same h2 h.right]
  ·cases e
def zkm{σ':St}{c:AV}{x:IV}{bs:yad}(e:fz σ c=some (x,bs))(h:zc5 σ σ' bs):fz σ' c=some (x,bs):=by
 unfold fz at e ⊢;split at e
 ·rename_i f caps;cases hf:fzM σ caps with
  |none=>rw[hf]at e;cases e
  |some p =>
   rw[hf]at e;simp only[yap,zkF,zkG]at e;obtain⟨rfl,rfl⟩:=e;rw[fzM_same (xs:=p.1) (bs:=p.2) hf h];rfl
 ·exact fz2_same e h
def SatR.reav{B:Base}{σ:St}{a:Act}{w:World}{ρ:Ly}(h:SatR B σ a w ρ){t:Nat}{v:AV}(hv:RepA w (Imm B σ ρ w) ρ σ.gn (a.tmps.getD t undef) v):SatR B (upd σ (.tmp t) (.av v)) a w ρ:=by
 refine h.slots (zgp.tmp σ t (.av v)) (λs=>?_) h.siz h.dfr;rw[zqv];by_cases e:s=t
 ·rw[if_pos e,e];exact hv
 ·rw[if_neg e];exact h.tms s
def SatR.reavs{B:Base}{a:Act}{w:World}{ρ:Ly}:∀(ws:List (Nat×IV)) {σ:St},SatR B σ a w ρ->(∀p∈ws,RepI w (Imm B σ ρ w) (a.tmps.getD p.1 undef) p.2) ->
  SatR B (app σ (wrI ws)) a w ρ/\Imm B (app σ (wrI ws)) ρ w=Imm B σ ρ w/\(app σ (wrI ws)).gn=σ.gn
 |[],_,h,_=>⟨h,rfl,rfl⟩
 |p::ws,σ,h,hp=>by
  have hs:=zgp.tmp σ p.1 (.av (.im p.2));have h1:=h.reav (t:=p.1) (.im _ _ (hp p (ybl ..)));have hi:Imm B (upd σ (.tmp p.1) (.av (.im p.2))) ρ w=Imm B σ ρ w:=Imm.same hs.kd _ _;obtain⟨h2,h3,h4⟩:=SatR.reavs ws h1 λq hq=>by rw[hi];exact hp q (yau _ hq)
  exact⟨h2,h3.trans hi,h4.trans hs.gn⟩
def capF_same{own:List Nat}{σ':St}:∀{l:List Operand} {vs:List AV} {bs:yad} {ws:List (Nat×IV)},capF σ own l=some (vs,bs,ws)->zc5 σ σ' bs->(∀x∈l,evA σ' x=evA σ x)->capF σ' own l=some (vs,bs,ws)
 |[],_,_,_,h,_,_=>h
 |x::l,vs,bs,ws,h,hs,he=>by
  unfold capF at h ⊢;split at h
  ·rename_i vs0 bs0 ws0 h0;have hrec:zc5 σ σ' bs0->capF σ' own l=some (vs0,bs0,ws0):=λhs0=>capF_same h0 hs0 λy hy=>he y (yau _ hy);have hx:=he x (ybl ..);split at h
   ·rename_i t;have hx:σ'.av t=σ.av t:=hx;split at h
    ·rename_i hown;split at h
     ·rename_i y b hy;simp only[zkF,zkG]at h;obtain⟨rfl,rfl,rfl⟩:=h;rw[hrec λl' hl'=>hs l' (by unfold frd at hl' ⊢;rw[yc9];exact yai _ hl')];simp only[hown];rw[hx,fz2_same hy λl' hl'=>hs l' (by unfold frd at hl' ⊢;rw[yc9];exact yan _ hl')]
     ·cases h
    ·rename_i hown;simp only[zkF,zkG]at h;obtain⟨rfl,rfl,rfl⟩:=h;rw[hrec hs];simp only[hown];rw[hx]
   ·rename_i hne;simp only[zkF,zkG]at h;obtain⟨rfl,rfl,rfl⟩:=h;rw[hrec hs];cases x with
    |tmp t=>exact absurd rfl (hne _)
    |_=>rfl
  ·cases h
def capF_ok{own:List Nat}{a:Act}{w:World}{ρ:Ly}(h:SatR B σ a w ρ){bs':yad}(hgk:∀p∈bs',σ.gn p.1=p.2):∀{l:List Operand} {vs:List AV} {bs:yad} {ws:List (Nat×IV)},capF σ own l=some (vs,bs,ws)->(∀b∈bs,b∈bs') ->
  Reps w (Imm B (app σ (fwr bs')) ρ w) ρ (app σ (fwr bs')).gn (l.map a.eval) vs/\∀p∈ws,RepI w (Imm B (app σ (fwr bs')) ρ w) (a.tmps.getD p.1 undef) p.2
 |[],_,_,_,e,_=>by
  simp only[capF,zkF,zkG]at e;obtain⟨rfl,rfl,rfl⟩:=e;exact⟨⟨rfl,λi u y hu=>by simp at hu⟩,λp hp=>by simp at hp⟩
 |x::l,vs,bs,ws,e,hb=>by
  unfold capF at e;obtain⟨hk,_⟩:=h.kills bs';have hgn:(app σ (fwr bs')).gn=σ.gn:=zl4 bs' σ
  have cons:∀{u:Value} {y:AV} {us:List Value} {ys:List AV},RepA w (Imm B (app σ (fwr bs')) ρ w) ρ (app σ (fwr bs')).gn u y->Reps w (Imm B (app σ (fwr bs')) ρ w) ρ (app σ (fwr bs')).gn us ys->Reps w (Imm B (app σ (fwr bs')) ρ w) ρ (app σ (fwr bs')).gn (u::us) (y::ys):=λh1 h2 =>
   ⟨by simp[h2.1],λi u' y' hu hy=>by
    cases i with
    |zero=>simp at hu hy;rw[<- hu,<- hy];exact h1
    |succ i=>exact h2.2 i u' y' (by simpa using hu) (by simpa using hy)⟩
  split at e
  ·rename_i vs0 bs0 ws0 h0;split at e
   ·rename_i t;split at e
    ·split at e
     ·rename_i y b hy;simp only[zkF,zkG]at e;obtain⟨rfl,rfl,rfl⟩:=e;obtain⟨r1,r2⟩:=capF_ok h hgk h0 λp hp=>hb p (yai _ hp);have h1:=fz2_ok h (bs':=bs') hgk (h.tms t) hy λp hp=>hb p (yan _ hp)
      exact⟨cons (.im _ _ h1) r1,λp hp=>by
       rcases yaw.1 hp with rfl|hp
       ·exact h1
       ·exact r2 p hp⟩
     ·cases e
    ·simp only[zkF,zkG]at e;obtain⟨rfl,rfl,rfl⟩:=e;obtain⟨r1,r2⟩:=capF_ok h hgk h0 hb;have:=hk.tms t;rw[fwr_av]at this;exact⟨cons this r1,r2⟩
   ·rename_i hne;simp only[zkF,zkG]at e;obtain⟨rfl,rfl,rfl⟩:=e;obtain⟨r1,r2⟩:=capF_ok h hgk h0 hb;have:=za4 hk x;cases x with
    |tmp t=>exact absurd rfl (hne _)
    |_=>exact⟨cons this r1,r2⟩
  ·cases e
def aMakeFunc_ok{own:List Nat}{fn:Fn}{first captured:Array Operand}(hop:o.op=.makeFunc fn first captured)(hd:zct B.n o=true)(h:zrw own o σ K fn first captured):∃fx,K fx/\Eff P B o fx.rd σ fx.wr:=by
 unfold zrw at h;split at h
 ·rename_i g;split at h
  ·rename_i vs bs ws a3;obtain⟨h0,h⟩:=h.ok;obtain⟨a4,h⟩:=h.out;refine⟨_,h,λσ' hag a w ⟨ρ,hs⟩ K' Q hK=>?_⟩;have hf:first=#[]:=by simpa using h0
   subst hf;have a0:zc5 σ σ' bs:=za7 hag
   have a6:∀p∈bs,σ'.gn p.1=p.2:=λp hp=>by
    rw[<- a4 p hp];exact zdj (a0 (.gen p.1) (by unfold frd;exact ycf.2 ⟨p,hp,by simp⟩))
   have a2:=capF_same a3 a0 λx hx=>zal λl hl=>zaw hag l (by unfold opdL;exact ycf.2 ⟨x,hx,hl⟩);obtain⟨a5,_⟩:=hs.kills bs;obtain⟨r1,r2⟩:=capF_ok hs (bs':=bs) a6 a2 λ_ h=>h;obtain⟨h5,h6,h7⟩:=a5.reavs ws r2
   have run:(execOp a.eval o).run P w=.ok (.value (.func (.func g) #[] (captured.toList.map a.eval).toArray)) w:=by
    simp[execOp,hop,Instr.makeFunc];rw[<- ycl]
   unfold Oper.wp;rw[run,Oper.upon_value];refine hK _ _ ⟨ρ,?_⟩;rw[zaz,zaz];exact h5.put (λt e=>zc0 hd e) (.fn g _ _ (by simpa using r1.1) λi u y hu hy=>by rw[h6,h7];exact r1.2 i u y hu hy)
  ·exact h.elim
 ·exact h.elim
def aBox_ok{own:List Nat}{t:TypeId}{x:Operand}(hop:o.op=.box t x)(hd:zct B.n o=true)(h:aBox own o σ K t x):∃fx,K fx/\Eff P B o fx.rd σ fx.wr:=by
 unfold aBox at h;split at h
 ·rename_i d cs a0 a4
  have run:∀(a:Act) w,(execOp a.eval o).run P w=.ok (.value (.pointer (some ⟨w.heap.size,0,none⟩))) (w.alloc (.cells (a.eval x).cells.toList.toArray t)):=λa w=>by
   simp[execOp,hop,Instr.box,newVar,newRow]
  split at h
  ·split at h
   ·rename_i xs bs a9;obtain⟨a6,h⟩:=h.out;refine⟨_,h,λσ' hag a w ⟨ρ,hs⟩ K' Q hK=>?_⟩;have a2:zc5 σ σ' bs:=za7 hag
    have b2:∀p∈bs,σ'.gn p.1=p.2:=λp hp=>by
     rw[<- a6 p hp];exact zdj (a2 (.gen p.1) (by unfold frd;exact ycf.2 ⟨p,hp,by simp⟩))
    have h1:=za4 hs x;rw[zal (zaw hag)]at h1;have hr:=zgo a4 h1;have a3:=zgv a4 h1;have hf:=ztf hs (bs':=bs) b2 hr (zlg a9 a2) λ_ h=>h;obtain⟨a5,_⟩:=hs.kills bs;have a7:Below w.heap.size w (w.alloc (.cells (a.eval x).cells.toList.toArray t)):=(Below.refl _ _).alloc (yaq _) _;obtain⟨a8,hI⟩:=a5.world a7;unfold Oper.wp;rw[run,Oper.upon_value,a0];refine hK _ _ ⟨ρ,?_⟩;rw[zaz];refine a8.put (d:=some d) (λt e=>by injection e with e;subst e;exact zc0 hd a0) (.im _ _ (.ref _ _ _ _ ⟨.inr (.inl hs.bel.size),by simp,λp b0=>?_,λhz=>?_⟩ hf.1 a3 (λi u hu=>?_) λi u y hu hy=>hI _ _ (hf.2 i u y hu hy)))
    ·have:=(a5.own p _ b0).2;omega
    ·have:=(a5.res _ hz).1.2;omega
    ·rw[yal];unfold World.cell?;simp only[heap_alloc_new];simpa using hu
   ·exact h.elim
  refine⟨_,h,λσ' hag a w ⟨ρ,hs⟩ K' Q hK=>?_⟩;have h1:=za4 hs x;rw[zal (zaw hag)]at h1;have hg:=zdj (za7 hag (.gen d) (by simp));have hr:=zgo a4 h1;have a3:=zgv a4 h1;unfold Oper.wp;rw[run,Oper.upon_value,a0];refine hK _ _ ⟨setρ ρ d (.pointer (some ⟨w.heap.size,0,none⟩)),?_⟩;show SatR B (app σ' (zd2 σ d (.box t cs.length)++zfg d 0 cs++[(.tmp d,.av (.own d (σ.gn d+1) 0))])) _ _ _;rw[zkr hg,<- hg];exact zs8 (hs.box d t hr a3) _ rfl (zc0 hd a0)
 ·exact h.elim
end
end
section
open Go.RowKit
section
variable {P:Program}{B:Base}{o:Oper}{σ:St}{K:Fx->Prop}
def zhh{t:TypeId}{k by_:Nat}(hz:zOk P t k=true)(hk:szOf P t=some k)(hb:byteOf P t=some by_):∃i z,P.info? t=some i/\i.zero=some z/\i.size=k/\i.bytes=by_/\z.cells.size=k:=by
 unfold szOf at hk;unfold byteOf at hb;cases hi:P.info? t with
 |none=>rw[hi]at hk;cases hk
 |some i =>
  rw[hi]at hk hb;simp only[yap,zkF]at hk hb;unfold zOk at hz;split at hz
  ·rename_i zs a0;unfold zeroOf at a0;simp only[hi]at a0;cases hz0:i.zero with
   |none=>rw[hz0]at a0;cases a0
   |some z =>
    rw[hz0]at a0;simp only[yap,zkF]at a0;refine⟨i,z,rfl,hz0,hk,hb,?_⟩;rw[<- a0]at hz;simpa using hz
  ·cases hz
def zp8{w:World}{S:Nat->Prop}{v:Value}{es:List (List IV)}{k:Nat}(h:RepI w S v (.sl es))(hk:∀e∈es,e.length=k) :
  ∃(A:Option Addr) (c:Nat) (us:List Value),v=.slice A es.length c/\us.length=es.flatten.length/\(∀u∈us,u.oneCell'=true)/\es.length<=17592186044416 /\
   (0<es.length->∃b q,A=some ⟨b,q,none⟩/\∀(j:Nat) u,us[j]?=some u->w.cell? ⟨b,q+j,none⟩=some u)/\∀(i:Nat) u x,us[i]?=some u->es.flatten[i]?=some x->RepI w S u x:=by
 cases h with
 |emp A c=>exact⟨A,c,[],rfl,rfl,by simp,by simp,λh=>by simp at h,by simp⟩
 |sl b q c k' n _ us hn hkk hcap hs hS hl h1 hu hr=>exact⟨_,c,us,by rw[hn],hl,h1,by omega,λ_=>⟨b,q,rfl,hu⟩,hr⟩
def zfj{w:World}(base:Nat)(t ty e:TypeId)(i:TypeInfo)(z:Value)(size bytes:Nat)(ht:P.underlying t=some (.slice e))(hi:P.info? e=some i)(hz:i.zero=some z)
  (hsize:i.size=size) (hby:i.bytes=bytes) (hzs:z.cells.size=size) (hsz:0<size) (v:Value) (n:Nat) (xs:List Value) (hown:w.ownsRow base e size v n xs)
  (A:Option Addr) (m c:Nat) (news:List Value) (hl:news.length=m*size) (hs:0<m->∃b q,A=some ⟨b,q,none⟩/\∀(j:Nat) u,news[j]?=some u->w.cell? ⟨b,q+j,none⟩=some u) (h1:∀u∈news,u.oneCell'=true)
  (a2:n+m<=maxLen) (hbytes:(n+m)*bytes<=140737488355328) (hbase:base<=w.heap.size) :
  ∃v' w',(Builtin.append_ #[t,t] ty #[v,.slice A m c]).run P w=.ok v' w'/\w'.ownsRow base e size v' (n+m) (xs++news)/\w.grownBy w' v.ownBlock /\
   (v'.ownBlock=v.ownBlock\/v'.ownBlock=some w.heap.size):=by
 cases A with
 |none =>
  have hm:m=0:=by
   rcases ycb m with h0|h0
   ·exact h0
   ·obtain⟨b,q,h,_⟩:=hs h0;cases h
  subst hm;have hn:news=[]:=yaz (by simpa using hl);subst hn;refine⟨v,w,?_,by simpa using hown,World.grownBy.refl w _,.inl rfl⟩;rcases hown.2 with⟨rfl,rfl⟩|⟨g,a6,cur,rfl,_,_,a5,_⟩
  ·simp[Builtin.append_,run_underlying ht,sizeOf,typeInfo,hi,Builtin.lenOf,Builtin.firstCells]
  ·simp[Builtin.append_,run_underlying ht,sizeOf,typeInfo,hi,Builtin.lenOf,Builtin.firstCells,a5,storeCells]
 |some ad =>
  have a0:∀(j:Nat) u,news[j]?=some u->w.cell? (ad.add j)=some u:=by
   intro j u hu;rcases ycb m with h0|h0
   ·subst h0;have hn:news=[]:=yaz (by simpa using hl);subst hn;simp at hu
   ·obtain⟨b,q,h,a4⟩:=hs h0;injection h with h
    subst h;rw[addr_add];exact a4 j u hu
  obtain⟨v',w',a3,h2,h3,_,h5⟩:=run_append_own_at (P:=P) w base t ty e i z size bytes ht hi hz hsize hby hzs hsz v n xs hown ad m c news hl a0 h1 a2 hbytes hbase;exact⟨v',w',a3,h2,h3,h5⟩
def row_one{w:World}{base:Nat}{e:TypeId}{k n:Nat}{v:Value}{us:List Value}(h:w.ownsRow base e k v n us):v.oneCell'=true:=by
 rcases h.2 with⟨rfl,_⟩|⟨_,_,_,rfl,_⟩<;>rfl
def zrv{w:World}(t ty e:TypeId)(i:TypeInfo)(z:Value)(size bytes:Nat)(ht:P.underlying t=some (.slice e))(hi:P.info? e=some i)(hz:i.zero=some z)
  (hsize:i.size=size) (hby:i.bytes=bytes) (hzs:z.cells.size=size) (A:Option Addr) (n:Nat) (olds:List Value) (hlo:olds.length=n*size)
  (ho:0<n->∃b q,A=some ⟨b,q,none⟩/\∀(j:Nat) u,olds[j]?=some u->w.cell? ⟨b,q+j,none⟩=some u)
  (A':Option Addr) (m c:Nat) (news:List Value) (hl:news.length=m*size) (hs:0<m->∃b q,A'=some ⟨b,q,none⟩/\∀(j:Nat) u,news[j]?=some u->w.cell? ⟨b,q+j,none⟩=some u) (hm:0<m)
  (a2:n+m<=maxLen) (hbytes:(n+m)*bytes<=140737488355328) :
  ∃v' w',(Builtin.append_ #[t,t] ty #[.slice A n n,.slice A' m c]).run P w=.ok v' w'/\w'.ownsRow 0 e size v' (n+m) (olds++news)/\w.grownBy w' none/\v'.ownBlock=some w.heap.size:=by
 subst hsize;subst hby;obtain⟨b',q',rfl,a8⟩:=hs hm;have a3:∀j u,news[j]?=some u->w.cell? ((⟨b',q',none⟩:Addr).add j)=some u:=λj u h=>by rw[addr_add];exact a8 j u h
 have a7:n+m<=9223372036854775807:=by simp only[maxLen]at a2;omega
 have a0:(olds++news).length=(n+m)*i.size:=by rw[zkJ,hlo,hl,Nat.add_mul]
 have a4:=grownCap_ge w (n+m) n e;have a6:grownCap w (n+m) n e<=maxLen:=grownCap_le_maxLen w (n+m) n e a2;cases A with
 |none =>
  have hn:n=0:=by
   rcases ycb n with h0|h0
   ·exact h0
   ·obtain⟨_,_,h,_⟩:=ho h0;cases h
  subst hn;have hx:olds=[]:=yaz (by simpa using hlo);subst hx;have hr:=run_append_nil (P:=P) w t ty e i z ht hi hz ⟨b',q',none⟩ m c news hl a3 hm (by omega) (by simp only[yal]at hbytes;omega);simp only[yal,ycj]at a0 a4 a6 ⊢;refine⟨_,_,hr,⟨a0,.inr ⟨w.heap.size,_,_,rfl,yaf _,heap_alloc_new w.drew _,a4,a6,?_,?_⟩⟩,⟨rfl,rfl,rfl,by simp,λk hk _=>heap_alloc_old w.drew _ hk⟩,rfl⟩
  ·simp only[Array.size_append,ycx,size_zeroCells,hzs,hl,<- Nat.add_mul];congr 1;omega
  ·simp only[Array.toList_append];rw[<- a0];exact List.take_left
 |some b0 =>
  have a5:∀j u,olds[j]?=some u->w.cell? (b0.add j)=some u:=λj u h=>by
   rcases ycb n with h0|h0
   ·subst h0;have hx:olds=[]:=yaz (by simpa using hlo);subst hx;simp at h
   ·obtain⟨b,q,e,h2⟩:=ho h0;injection e with e
    subst e;rw[addr_add];exact h2 j u h
  have hr:=run_append_grow (P:=P) w t ty e i z ht hi hz b0 n n olds hlo a5 ⟨b',q',none⟩ m c news hl a3 (by omega) (by omega) (growslice_fits (by omega) hbytes);refine⟨_,_,hr,⟨a0,.inr ⟨w.heap.size,_,_,rfl,yaf _,heap_alloc_new w.drew _,a4,a6,?_,?_⟩⟩,⟨rfl,rfl,rfl,by simp,λk hk _=>heap_alloc_old w.drew _ hk⟩,rfl⟩
  ·simp only[Array.size_append,ycx,size_zeroCells,hzs,hlo,hl,<- Nat.add_mul];congr 1;omega
  ·simp only[Array.toList_append,yb3];rw[<- yb3,<- a0];exact List.take_left
def SatR.rowed{a:Act}{w w':World}{ρ:Ly}(h:SatR B σ a w ρ){used:Option Nat}{d k:Nat}{e:TypeId}{es new:List (List IV)}{v v':Value}{us news:List Value}(hu:∀q,zb3 v=some q->∃b,used=some b/\Owns σ ρ b q)
  (hk0:0<k) (hes:∀x∈es,x.length=k) (hnew:∀x∈new,x.length=k) (hlim:es.length+new.length<=17592186044416) (hown0:w.ownsRow 0 e k v es.length us)
  (hown:w'.ownsRow 0 e k v' (es.length+new.length) (us++news)) (hg:w.grownBy w' v.ownBlock) (hlie:v'.ownBlock=v.ownBlock\/v'.ownBlock=some w.heap.size)
  (hl:us.length=es.flatten.length) (hl2:news.length=new.flatten.length) (h1:∀u∈us,u.oneCell'=true) (h2:∀u∈news,u.oneCell'=true)
  (hr:∀(i:Nat) u x,us[i]?=some u->es.flatten[i]?=some x->RepI w (Imm B σ ρ w) u x) (hr2:∀(i:Nat) u x,news[i]?=some u->new.flatten[i]?=some x->RepI w (Imm B σ ρ w) u x) :
  SatR B (zeo σ used d (.row e k (es++new)) []) a w' (setρ ρ d v'):=by
 have m:zo7 σ w w' ρ used v' v.ownBlock:=by
  refine⟨hg,λb hb=>?_,λb hb=>?_⟩
  ·rw[zg1 hown0]at hb;exact hu b hb
  ·rw[<- zg1 hown]at hb;rcases hlie with e1|e1
   ·exact .inl (by rw[<- e1];exact hb)
   ·rw[e1]at hb;injection hb with hb
    exact .inr (by omega)
 refine h.new m rfl λhI _=>⟨us++news,hk0,λx hx=>?_,by simpa using hlim,?_,by simp[hl,hl2],λu a0=>?_,λi u x a0 hx=>?_⟩
 ·rcases yam.1 hx with hx|hx
  ·exact hes x hx
  ·exact hnew x hx
 ·simpa[setρ]using hown
 ·rcases yam.1 a0 with a0|a0
  ·exact h1 u a0
  ·exact h2 u a0
 ·rw[ycq,ya1]at hx;rw[ya1,hl]at a0;split at a0
  ·rename_i a2;rw[if_pos a2]at hx;exact hI _ _ (hr i u x a0 hx)
  ·rename_i a2;rw[if_neg a2]at hx;exact hI _ _ (hr2 _ u x a0 hx)
def zik{b k:Nat}{t:TypeId}{es:List (List IV)}(hk:σ.kd b=.row t k es):live σ b:=by unfold live;rw[hk];exact λz=>by cases z
def que_append{w:World}{S:Nat->Prop}{v:Value}(t ty e:TypeId){k:Nat}{es new:List (List IV)}(i:TypeInfo)(z:Value)(bytes:Nat)(ht:P.underlying t=some (.slice e))(hi:P.info? e=some i)(hz:i.zero=some z)
  (hsize:i.size=k) (hby:i.bytes=bytes) (hzs:z.cells.size=k) (hQ:zj3 w S v e k es) (hnew:∀x∈new,x.length=k) (hm0:0<new.length)
  (A:Option Addr) (c:Nat) (news:List Value) (hl:news.length=new.flatten.length) (hs:0<new.length->∃b q,A=some ⟨b,q,none⟩/\∀(j:Nat) u,news[j]?=some u->w.cell? ⟨b,q+j,none⟩=some u) (h1:∀u∈news,u.oneCell'=true)
  (hr:∀(i:Nat) u x,news[i]?=some u->new.flatten[i]?=some x->RepI w S u x)
  (a2:es.length+new.length<=maxLen) (hlim:es.length+new.length<=17592186044416) (hbytes:(es.length+new.length)*bytes<=140737488355328) :
  ∃v' w',(Builtin.append_ #[t,t] ty #[v,.slice A new.length c]).run P w=.ok v' w'/\w.grownBy w' (zb3 v)/\(∀q,zb3 v'=some q->zb3 v=some q\/w.heap.size<=q)/\v'.oneCell'=true /\
   ∀S',(∀u x,RepI w S u x->RepI w' S' u x)->zj3 w' S' v' e k (es++new):=by
 obtain⟨us,k0,hk,d3,a9,b8,b9,hv⟩:=hQ;have c8:=zbx hk;have d1:=zbx hnew;have b6:news.length=new.length*k:=by rw[hl,d1]
 have b3:us.length=es.length*k:=by rw[a9,c8]
 obtain⟨b',q',hA,b2⟩:=hs hm0
 have grown:∀v' w',w'.ownsRow 0 e k v' (es.length+new.length) (us++news)->∀S',(∀u x,RepI w S u x->RepI w' S' u x)->zj3 w' S' v' e k (es++new):=λv' w' a3 S' hI=>by
  refine zg7.que ⟨us++news,k0,λx hx=>(yam.1 hx).elim (hk x) (hnew x),by simpa using hlim,by simpa using a3,by simp[a9,hl],λu hu=>(yam.1 hu).elim (b8 u) (h1 u),λi u x hu hx=>hI _ _ ?_⟩;rw[ycq,ya1]at hx;rw[ya1,a9]at hu;split at hu
  ·rename_i a4;rw[if_pos a4]at hx;exact b9 i u x hu hx
  ·rename_i a4;rw[if_neg a4]at hx;exact hr _ u x hu hx
 rcases hv with⟨rfl,rfl⟩|⟨q,off,a6,cur,rfl,e2,e3,e4,e5,e6⟩
 ·obtain rfl:us=[]:=yaz (by simpa using b3);obtain⟨v',w',b0,a3,a0,c7⟩:=zfj (P:=P) (w:=w) 0 t ty e i z k bytes ht hi hz hsize hby hzs k0 (.slice none 0 0) 0 [] (World.ownsRow_nil _ _ _ _) A new.length c news b6 hs h1 (by simpa using a2) (by simpa using hbytes) (yaf _);refine⟨v',w',b0,a0,λq hq=>?_,row_one a3,grown v' w' (by simpa using a3)⟩;rw[<- zg1 a3]at hq;rcases c7 with g|g
  ·rw[g]at hq;cases hq
  ·rw[g]at hq;injection hq with hq
   exact .inr (by omega)
 ·subst hA;have a8:∀j u,news[j]?=some u->w.cell? ((⟨b',q',none⟩:Addr).add j)=some u:=λj u h=>by rw[addr_add];exact b2 j u h
  by_cases a5:es.length+new.length<=a6
  ·have d0:=run_firstCells_some (P:=P) w i.size new.length ⟨b',q',none⟩ new.length c news (by rw[hsize];exact b6) a8;have c6:(es.length+new.length)*k<=a6*k:=ybs _ a5;rw[Nat.add_mul]at c6;have c0:=run_storeCells_at (P:=P) q (off+es.length*k) e news 0 cur w e2 (by omega) h1;simp only[ybz]at c0;subst hsize
   refine⟨.slice (some ⟨q,off,none⟩) (es.length+new.length) a6,w.setRow q (cur.toList.take (off+es.length*i.size)++news++cur.toList.drop (off+es.length*i.size+news.length)).toArray,by
    simp[Builtin.append_,run_underlying ht,sizeOf,typeInfo,hi,Builtin.lenOf,a5,d0,Addr.add_lit,c0],⟨rfl,rfl,rfl,by simp,λk hk d2=>setRow_other w q k _ (λe=>d2 (by rw[e];rfl))⟩,λq' hq=>.inl hq,rfl,λS' hI=>⟨us++news,k0,λx hx=>(yam.1 hx).elim (hk x) (hnew x),by simpa using hlim,by simp[a9,hl],λu hu=>(yam.1 hu).elim (b8 u) (h1 u),λj u x hu hx=>hI _ _ ?_,.inr ⟨q,off,a6,_,by rw[zkJ],setRow_heap w q cur _ e _ e2,by rw[zkJ];exact a5,e4,?_,λj u hu=>?_⟩⟩⟩
   ·rw[ycq,ya1]at hx;rw[ya1,a9]at hu;split at hu
    ·rename_i a4;rw[if_pos a4]at hx;exact b9 j u x hu hx
    ·rename_i a4;rw[if_neg a4]at hx;exact hr _ u x hu hx
   ·simp only[ycx,zkJ,yas,ybh,yez];omega
   ·have c9:cur.toList.length=cur.size:=rfl;rw[yeq,yb3,ya1,yas,c9];rw[ya1]at hu;split at hu
    ·rename_i a4;rw[if_pos (by omega),ybk,if_pos (by omega),ya6];exact e6 j u hu
    ·rename_i a4;have d4:j-us.length<news.length:=(zkI.1 hu).1;rw[if_neg (by omega),ya1,if_pos (by omega)];rw[<- hu];congr 1;omega
  ·have b7:∀j u,us[j]?=some u->w.cell? ((⟨q,off,none⟩:Addr).add j)=some u:=λj u h=>by
    rw[addr_add];unfold World.cell?;simp only[e2];simpa using e6 j u h
   obtain⟨v',w',b0,a3,a0⟩:=run_append_arg_grows (P:=P) w t ty e i z k bytes ht hi hz hsize hby hzs k0 ⟨q,off,none⟩ es.length a6 us b3 b7 ⟨b',q',none⟩ new.length c news b6 a8 (by omega) a2 hbytes
   have a7:w'.ownsRow 0 e k v' (es.length+new.length) (us++news):=by
    refine⟨a3.1,?_⟩;rcases a3.2 with g|⟨g,b5,b4,f1,f2,f3⟩
    ·exact .inl g
    ·exact .inr ⟨g,b5,b4,f1,yaf _,f3⟩
   refine⟨v',w',b0,⟨a0.os,a0.tape,a0.output,a0.size,λk hk _=>a0.block k hk (by simp)⟩,λp hp=>?_,row_one a7,grown v' w' a7⟩;rcases a3.2 with⟨g,_⟩|⟨g,b5,b4,f1,f2,f3⟩
   ·rw[g]at hp;cases hp
   ·rw[f1]at hp;simp only[zb3,zkF]at hp;exact .inr (by omega)
def SatR.qued{a:Act}{w w':World}{ρ:Ly}(h:SatR B σ a w ρ){used row:Option Nat}{d k:Nat}{e:TypeId}{es:List (List IV)}{v':Value}(hu:∀q,row=some q->∃b,used=some b/\Owns σ ρ b q)(hg:w.grownBy w' row)
  (hlie:∀q,zb3 v'=some q->row=some q\/w.heap.size<=q) (hQ:∀S',(∀u x,RepI w (Imm B σ ρ w) u x->RepI w' S' u x)->zj3 w' S' v' e k es):SatR B (zeo σ used d (.que e k es) []) a w' (setρ ρ d v') :=
 h.new ⟨hg,hu,hlie⟩ rfl λhI _=>by
  show zj3 w' _ (setρ ρ d v' d) e k es;rw[show setρ ρ d v' d=v' by simp[setρ]];exact hQ _ hI
def live_que{b k:Nat}{t:TypeId}{es:List (List IV)}(hk:σ.kd b=.que t k es):live σ b:=by unfold live;rw[hk];exact λz=>by cases z
def aAppend_ok{c:Call}{t:TypeId}{x y:Operand}(hop:o.op=.call c)(hc:c.callee=.builtin .append)(hargs:c.args=#[x,y])(hts:c.argTypes=#[t,t])(hd:zct B.n o=true)(h:aAppend P o σ K t x y):∃fx,K fx/\Eff P B o fx.rd σ fx.wr:=by
 unfold aAppend at h;split at h
 ·rename_i d et a9 g1;have c9:=zdr g1;split at h
  ·rename_i k by_ new hk d7 hy
   have c8:∀(a:Act) w v' w',(Builtin.append_ #[t,t] o.type #[a.eval x,a.eval y]).run P w=.ok v' w'->(execOp a.eval o).run P w=.ok (.value v') w':=λa w v' w' hv=>by
    simp[execOp,hop,resolve,hc,hargs,hts,invoke,builtin,hv]
   split at h
   ·rename_i hx;obtain⟨a0,h⟩:=h.ok;rw[yax]at a0;have c6:=zd5 a0.1;obtain⟨i,z,hi,hz,a6,a4,c7⟩:=zhh a0.2 hk d7;obtain⟨⟨a3,a2⟩,h⟩:=h.out;have h:=h.out;refine⟨_,h,λσ' hag a w ⟨ρ,hs⟩ K' Q hK=>?_⟩;have h1:=za4 hs x;have h2:=za4 hs y;rw[zal (zaw (zaw hag)),hx]at h1;have h1:=h1.im_inv
    have b9:fz σ' (evA σ' y)=some (.sl new,[]):=by
     rw[zal (za7 (zaw hag))];exact zkm hy λl hl=>by simp[frd]at hl
    have h2:=fz_ok hs (bs':=[]) (by simp) h2 b9 (by simp);have hg:=zdj (za7 hag (.gen d) (by simp));obtain⟨A,cp,news,hv,b5,b6,b8,a5,b3⟩:=zp8 h2 a3
    have c0:a.eval x=.slice none 0 0:=by
     generalize a.eval x=v at h1;cases h1 with
     |val _=>rfl
    have d4:=zbx a3;obtain⟨v',w',b2,a8,a7,b4⟩:=zfj (P:=P) (w:=w) 0 t o.type et i z k by_ c9 hi hz a6 a4 c7 c6 (.slice none 0 0) 0 [] (World.ownsRow_nil _ _ _ _) A new.length cp news (by rw[b5,d4]) a5 b6 (by unfold maxLen;unfold za5 at a2;omega) (by simpa using a2.1) (yaf _);unfold Oper.wp;rw[c8 a w v' w' (by rw[c0,hv];exact b2),Oper.upon_value,a9];refine hK _ _ ⟨setρ ρ d v',?_⟩;have b7:=hs.rowed (used:=none) (d:=d) (es:=[]) (us:=[]) (λq hq=>by cases hq) c6 (by simp) a3 (by simpa using a2.2) (World.ownsRow_nil _ _ _ _) (by simpa using a8) a7 b4 rfl b5 (by simp) b6 (by simp) b3;show SatR B (app σ' (zd2 σ d (.row et k new)++[(.tmp d,.av (.osl d (σ.gn d+1)))])) _ _ _;have:=zkr (k:=.row et k new) (cs:=[]) (v:=.osl d (σ.gn d+1)) hg;simp only[zfg,yb4]at this;rw[this,<- hg];exact zjs b7 (row_one a8) (zc0 hd a9)
   ·rename_i b g hx;split at h
    ·rename_i b0 k' es d1;obtain⟨a0,h⟩:=h.ok;simp only[yax]at a0;have c6:=zd5 a0.1.1.1;have d2:b0=et:=by simpa using a0.1.1.2
     have e4:k'=k:=by simpa using a0.1.2
     subst d2 e4;obtain⟨i,z,hi,hz,a6,a4,c7⟩:=zhh a0.2 hk d7;obtain⟨⟨e6,a3,a2⟩,h⟩:=h.out;have h:=h.out;refine⟨_,h,λσ' hag a w ⟨ρ,hs⟩ K' Q hK=>?_⟩;obtain⟨ha,hg',d5,g5⟩:=zcy hag;have h1:=za4 hs x;have h2:=za4 hs y;rw[zal (zaw ha),hx]at h1
     have b9:fz σ' (evA σ' y)=some (.sl new,[]):=by
      rw[zal (za7 ha)];exact zkm hy λl hl=>by simp[frd]at hl
     have h2:=fz_ok hs (bs':=[]) (by simp) h2 b9 (by simp);obtain⟨A,cp,news,hv,b5,b6,b8,a5,b3⟩:=zp8 h2 a3;have d4:=zbx a3;have ho:=hs.obs b;rw[d5.trans d1]at ho;obtain⟨us,_,d0,_,d3,f9,f6,g3⟩:=ho
     have c0:a.eval x=ρ b:=by
      generalize a.eval x=v at h1;cases h1 with
      |osl _ _ _ _ _ hh=>exact hh (hg'.trans e6)
     obtain⟨v',w',b2,a8,a7,b4⟩:=zfj (P:=P) (w:=w) 0 t o.type b0 i z k' by_ c9 hi hz a6 a4 c7 c6 (ρ b) es.length us d3 A new.length cp news (by rw[b5,d4]) a5 b6 (by unfold maxLen;unfold za5 at a2;omega) a2.1 (yaf _);unfold Oper.wp;rw[c8 a w v' w' (by rw[c0,hv];exact b2),Oper.upon_value,a9];refine hK _ _ ⟨setρ ρ b v',?_⟩;have b7:=hs.rowed (used:=some b) (d:=b) (λq hq=>⟨b,rfl,.root (zik (d5.trans d1)) hq⟩) c6 d0 a3 a2.2 d3 a8 a7 b4 f9 b5 f6 b6 g3 b3
     have e5:app σ' ((.knd b,.kd .dead)::(zd2 σ b (.row b0 k' (es++new))++[(.tmp d,.av (.osl b (σ.gn b+1)))]))=app (zeo σ' (some b) b (.row b0 k' (es++new)) []) [(.tmp d,.av (.osl b (σ'.gn b+1)))]:=by
      rw[zb6,zaz];unfold zeo zd2;rw[hg'];rfl
     show SatR B (app σ' ((.knd b,.kd .dead)::(zd2 σ b (.row b0 k' (es++new))++[(.tmp d,.av (.osl b (σ.gn b+1)))]))) _ _ _;rw[e5];exact zgx b7 (row_one a8) (zc0 hd a9)
    ·rename_i b0 k' es d1;obtain⟨a0,h⟩:=h.ok;simp only[yax]at a0;have d2:b0=et:=by simpa using a0.1.1.2
     have e4:k'=k:=by simpa using a0.1.2
     subst d2 e4;obtain⟨i,z,hi,hz,a6,a4,c7⟩:=zhh a0.2 hk d7;obtain⟨⟨e6,f7,a3,a2⟩,h⟩:=h.out;have h:=h.out;refine⟨_,h,λσ' hag a w ⟨ρ,hs⟩ K' Q hK=>?_⟩;obtain⟨ha,hg',d5,g5⟩:=zcy hag;have h1:=za4 hs x;have h2:=za4 hs y;rw[zal (zaw ha),hx]at h1
     have b9:fz σ' (evA σ' y)=some (.sl new,[]):=by
      rw[zal (za7 ha)];exact zkm hy λl hl=>by simp[frd]at hl
     have h2:=fz_ok hs (bs':=[]) (by simp) h2 b9 (by simp);obtain⟨A,cp,news,hv,b5,b6,b8,a5,b3⟩:=zp8 h2 a3;have ho:=hs.obs b;rw[d5.trans d1]at ho;have hQ:zj3 w (Imm B σ' ρ w) (ρ b) b0 k' es:=ho
     have c0:a.eval x=ρ b:=by
      generalize a.eval x=v at h1;cases h1 with
      |osl _ _ _ _ _ hh=>exact hh (hg'.trans e6)
     obtain⟨v',w',b2,a7,b4,e9,f4⟩:=que_append (P:=P) (w:=w) t o.type b0 i z by_ c9 hi hz a6 a4 c7 hQ a3 f7 A cp news b5 a5 b6 b3 (by unfold maxLen;unfold za5 at a2;omega) a2.2 a2.1;unfold Oper.wp;rw[c8 a w v' w' (by rw[c0,hv];exact b2),Oper.upon_value,a9];refine hK _ _ ⟨setρ ρ b v',?_⟩;have b7:=hs.qued (used:=some b) (d:=b) (λq hq=>⟨b,rfl,.root (live_que (d5.trans d1)) hq⟩) a7 b4 f4
     have e5:app σ' ((.knd b,.kd .dead)::(zd2 σ b (.que b0 k' (es++new))++[(.tmp d,.av (.osl b (σ.gn b+1)))]))=app (zeo σ' (some b) b (.que b0 k' (es++new)) []) [(.tmp d,.av (.osl b (σ'.gn b+1)))]:=by
      rw[zb6,zaz];unfold zeo zd2;rw[hg'];rfl
     show SatR B (app σ' ((.knd b,.kd .dead)::(zd2 σ b (.que b0 k' (es++new))++[(.tmp d,.av (.osl b (σ.gn b+1)))]))) _ _ _;rw[e5];exact zgx b7 e9 (zc0 hd a9)
    ·exact h.elim
   ·rename_i es hx;obtain⟨a0,h⟩:=h.ok;rw[yax]at a0;have c6:=zd5 a0.1;obtain⟨i,z,hi,hz,a6,a4,c7⟩:=zhh a0.2 hk d7;obtain⟨⟨f3,d0,a3,a2⟩,h⟩:=h.out;have h:=h.out;refine⟨_,h,λσ' hag a w ⟨ρ,hs⟩ K' Q hK=>?_⟩;have h1:=za4 hs x;have h2:=za4 hs y;rw[zal (zaw (zaw hag)),hx]at h1
    have b9:fz σ' (evA σ' y)=some (.sl new,[]):=by
     rw[zal (za7 (zaw hag))];exact zkm hy λl hl=>by simp[frd]at hl
    have h2:=fz_ok hs (bs':=[]) (by simp) h2 b9 (by simp);have hg:=zdj (za7 hag (.gen d) (by simp));obtain⟨A,cp,news,hv,b5,b6,b8,a5,b3⟩:=zp8 h2 a3
    obtain⟨A0,n0,c0,h3⟩:∃A0 n0,a.eval x=.slice A0 n0 n0/\RepI w (Imm B σ' ρ w) (.slice A0 n0 n0) (.sl es):=by
     generalize a.eval x=v at h1;cases h1 with
     |full A0 n0 _ h3=>exact⟨A0,n0,rfl,h3⟩
    obtain⟨A1,c1,d8,f5,d9,f8,g4,d6,e0⟩:=zp8 h3 d0;injection f5 with e1 e2 e3
    subst e1 e2;have d4:=zbx a3;have g2:=zbx d0;obtain⟨v',w',b2,a8,a7,b4⟩:=zrv (P:=P) (w:=w) t o.type et i z k by_ c9 hi hz a6 a4 c7 A0 es.length d8 (by rw[d9,g2]) d6 A new.length cp news (by rw[b5,d4]) a5 f3 (by unfold maxLen;unfold za5 at a2;omega) a2.1;unfold Oper.wp;rw[c8 a w v' w' (by rw[c0,hv];exact b2),Oper.upon_value,a9];refine hK _ _ ⟨setρ ρ d v',?_⟩
    have e8:∀e∈es++new,e.length=k:=λe he=>by
     rcases yam.1 he with he|he
     ·exact d0 e he
     ·exact a3 e he
    have b7:=hs.rowed (used:=none) (d:=d) (es:=[]) (new:=es++new) (us:=[]) (news:=d8++news) (v:=.slice none 0 0) (λq hq=>by cases hq) c6 (by simp) e8 (by simpa using a2.2) (World.ownsRow_nil _ _ _ _) (by simpa using a8) a7 (.inr b4) rfl (by simp[d9,b5]) (by simp) (λu hu=>by
     rcases yam.1 hu with hu|hu
     ·exact f8 u hu
     ·exact b6 u hu) (by simp) λj u y hu hy=>by
      rw[ycq,ya1]at hy;rw[ya1,d9]at hu;split at hu
      ·rename_i e7;rw[if_pos e7]at hy;exact e0 j u y hu hy
      ·rename_i e7;rw[if_neg e7]at hy;exact b3 _ u y hu hy
    show SatR B (app σ' (zd2 σ d (.row et k (es++new))++[(.tmp d,.av (.osl d (σ.gn d+1)))])) _ _ _;have:=zkr (k:=.row et k (es++new)) (cs:=[]) (v:=.osl d (σ.gn d+1)) hg;simp only[zfg,yb4]at this;rw[this,<- hg];exact zjs b7 (row_one a8) (zc0 hd a9)
   ·exact h.elim
  ·exact h.elim
 ·exact h.elim
def SatR.turn{a:Act}{w w':World}{ρ:Ly}(h:SatR B σ a w ρ){b q:Nat}{k':Kd}(hl:live σ b)(hq:zb3 (ρ b)=some q)(hg:w.grownBy w' (some q))(hk':∀c,c∈fpk (ρ b) (ρ.inn b) k'->Owns σ ρ b c)
  (hob:(∀v x,RepI w (Imm B σ ρ w) v x->RepI w' (Imm B (upd σ (.knd b) (.kd k')) ρ w') v x)->zkl B (upd σ (.knd b) (.kd k')) ρ w' b k'):SatR B (upd σ (.knd b) (.kd k')) a w' ρ:=by
 refine(h.step (λo=>o=b) (λt=>zg8 σ b t _) (λo hd=>⟨by rw[zei,if_neg hd],zfe σ b o _,λi=>zh1 σ b o i _,rfl,rfl,rfl⟩) (λo _=>⟨⟨by rw[zfe];exact yaq _,λ_=>rfl⟩,yaq _,λ_=>rfl⟩)
  (λo=>by rw[zh7];exact h.igs o) ⟨hg.os,hg.tape,hg.output,hg.size,λc hc hn=>hg.block c hc λe=>?_⟩ (λo c hd ho=>?_) (λo p c hd hp _ _=>hd.trans hp.symm) λhI hA o hd=>?_).1
 ·injection e with e
  subst e;exact hn ⟨b,rfl,.root hl hq⟩
 ·subst hd;unfold Owns at ho;rw[zei,if_pos rfl]at ho;exact .inr ⟨o,rfl,hk' c ho⟩
 ·subst hd;rw[zei,if_pos rfl];exact hob hI
def zdc{α:Type}(e:List α)(j:Nat)(xs:List α)(h:j+xs.length<=e.length):(splice e j xs).length=e.length:=by
 unfold splice;simp;omega
def zni{α:Type}{k:Nat}:∀{es:List (List α)} {i j:Nat} {e xs:List α},(∀x∈es,x.length=k)->es[i]?=some e->j+xs.length<=k->(es.set i (splice e j xs)).flatten=splice es.flatten (i*k+j) xs
 |[],i,j,e,xs,_,h,_=>by simp at h
 |x::es,0,j,e,xs,hk,h,hj=>by
  simp at h;subst h;have:=hk x (by simp);simp only[ye1,ybu,splice,ydc,yal];rw[yc7 (by omega),yey (by omega)];simp
 |x::es,i+1,j,e,xs,hk,h,hj=>by
  have hx:=hk x (by simp);have ih:=zni (es:=es) (i:=i) (j:=j) (e:=e) (xs:=xs) (λy hy=>hk y (by simp[hy])) (by simpa using h) hj;have e1:(i+1)*k+j=x.length+(i*k+j):=by rw[Nat.add_mul,hx];omega
  rw[ye2,ybu,ih,e1,ybu];unfold splice;rw[yen,yb7 (l:=x) (by omega),show x.length+(i*k+j)-x.length=i*k+j from by omega];have a0:x.drop (x.length+(i*k+j+xs.length))=[]:=ycp (by omega);rw[ybt x.length,List.drop_append,a0];rw[show x.length+(i*k+j+xs.length)-x.length=i*k+j+xs.length from by omega];simp
def zj0{α:Type}(l:List α)(o n:Nat)(vs:List α)(h:o+vs.length<=n)(hl:n<=l.length):(splice l o vs).take n=splice (l.take n) o vs:=by
 unfold splice;rw[yfm,ycc (by omega),List.drop_take,yen,yb7 (by simp;omega)];congr 2;simp;omega
def zqc{α β:Type}{us:List α}{fs:List β}{vs:List α}{xs:List β}{o n:Nat}{u:α}{x:β}(h1:us.length=fs.length)(h2:vs.length=xs.length)(ho:o<=us.length)(hu:(splice us o vs)[n]?=some u)(hx:(splice fs o xs)[n]?=some x) :
  (∃n':Nat,us[n']?=some u/\fs[n']?=some x)\/∃n':Nat,vs[n']?=some u/\xs[n']?=some x:=by
 unfold splice at hu hx;rw[yb3,ya1,yas,ycc (by omega)]at hu hx;by_cases hn:n<o
 ·rw[if_pos hn,ybk,if_pos hn]at hu hx;exact .inl ⟨n,hu,hx⟩
 ·rw[if_neg hn,ya1]at hu hx;by_cases hv:n-o<vs.length
  ·rw[if_pos hv]at hu;rw[if_pos (by omega)]at hx;exact .inr ⟨_,hu,hx⟩
  ·rw[if_neg hv,ybq]at hu;rw[if_neg (by omega),ybq,<- h2]at hx;exact .inl ⟨_,hu,hx⟩
def fzS_ok{a:Act}{w:World}{ρ:Ly}(h:SatR B σ a w ρ){bs':yad}(hgk:∀p∈bs',σ.gn p.1=p.2){nn:Bool}{us:List Value}{cs:List AV}{xs:List IV}{bs:yad}(hr:Reps w (Imm B σ ρ w) ρ σ.gn us cs)(e:fzS σ nn cs=some (xs,bs))(hs:∀b∈bs,b∈bs')(hn:nn=true->∀c g et k ys,cs=[.osl c g]->σ.kd c=.row et k ys->0<ys.length):zic w (Imm B (app σ (fwr bs')) ρ w) us xs:=by
 unfold fzS at e;split at e
 ·exact ztf h hgk hr e hs
 ·split at e
  ·rename_i ys;simp only[zkF,zkG]at e;obtain⟨rfl,rfl⟩:=e;refine⟨hr.1,λi u x hu hx=>?_⟩
   have:=hr.2 i u (.im x) hu (by
    cases i with
    |zero=>simp at hx;rw[<- hx];rfl
    |succ i=>simp at hx)
   exact(h.kills bs').2 _ _ this.im_inv
  ·rename_i c g;split at e
   ·rename_i et k ys hk;have a0:=hn rfl c g et k ys rfl hk;simp only[zkF,zkG]at e;obtain⟨rfl,rfl⟩:=e;refine⟨hr.1,λi u x hu hx=>?_⟩;cases i with
    |succ i=>simp at hx
    |zero =>
     simp at hx;subst hx;have h1:=hr.2 0 u (.osl c g) hu rfl;have h2:=fz1_ok h hgk h1 (x:=.sl ys) (bs:=[(c,g)]) (by simp only[fz1,hk]) hs;cases h2 with
     |emp _ _=>exact absurd a0 (by simp)
     |sl b q cp k' m _ us' hm hkk hcap hsm hS hll a2 huc hrr=>exact .nsl _ _ _ _ (.sl b q cp k' m _ us' hm hkk hcap hsm hS hll a2 huc hrr)
   ·cases e
  ·cases e
def fzS_same{σ':St}{nn:Bool}{cs:List AV}{xs:List IV}{bs:yad}(e:fzS σ nn cs=some (xs,bs))(h:zc5 σ σ' bs):fzS σ' nn cs=some (xs,bs):=by
 unfold fzS at e ⊢;split at e
 ·exact zlg e h
 ·split at e
  ·exact e
  ·split at e
   ·rename_i et k ys hk;simp only[zkF,zkG]at e;obtain⟨rfl,rfl⟩:=e;rw[show σ'.kd _=_ from(zc5.head h).2.1.trans hk]
   ·cases e
  ·cases e
def nslS_out{nn:Bool}{cs:List AV}{A:Prop}(h:nslS σ nn cs A):A/\(nn=true->∀c g et k ys,cs=[.osl c g]->σ.kd c=.row et k ys->0<ys.length):=by
 unfold nslS at h;split at h
 ·exact⟨h,λh=>by cases h⟩
 ·split at h
  ·split at h
   ·rename_i hk;obtain⟨h1,h2⟩:=h.out;refine⟨h2,λ_ c g et k ys e a0=>?_⟩;injection e with e _
    injection e with e1 e2
    subst e1;rw[hk]at a0;injection a0 with _ _ a0
    rw[<- a0];exact h1
   ·rename_i hk;refine⟨h,λ_ c g et k ys e a0=>?_⟩;injection e with e _
    injection e with e1 e2
    subst e1;exact absurd a0 (hk _ _ _)
  ·rename_i hk;exact⟨h,λ_ c g et k ys e _=>absurd e (hk c g)⟩
def aStoreE_ok{own:List Nat}{t:TypeId}{p x:Operand}{b g k i j:Nat}(hop:o.op=.store t p x)(hd:zct B.n o=true)(hp:evA σ p=.elt b g k i j)(h:aStoreE P own o σ K t p x b g k i j):∃fx,K fx/\Eff P B o fx.rd σ fx.wr:=by
 unfold aStoreE at h;split at h
 ·rename_i m cs et k' es hm c0 d5;split at h
  ·rename_i xs bs a0;obtain⟨a6,h⟩:=h.ok;simp only[yax]at a6;obtain⟨⟨⟨⟨c1,c2⟩,c3⟩,c4⟩,c5⟩:=a6;have b2:cs.length=m:=by simpa using c1
   have f8:=zd5 c2;have f9:=zf0 c3;have f4:k'=k:=by simpa using c4
   subst f4
   have e5:b∉bs.map (·.1):=by
    simp only[ndB,yax,ydy,List.contains_eq_mem,decide_eq_false_iff_not]at c5;exact c5.1.2
   obtain⟨b4,e,he,h⟩:=h.out;obtain⟨h,e2⟩:=nslS_out h;have h:=h.out;refine⟨_,h,λσ' hag a w ⟨ρ,hs⟩ K' Q hK=>?_⟩;have f6:=zaw (zaw hag);have d3:=za7 (zaw hag);have a4:zc5 σ σ' ((b,g)::bs):=za7 hag
   have d0:∀q∈(b,g)::bs,σ'.gn q.1=q.2:=λq hq=>by
    rw[<- b4 q hq];exact zdj (a4 (.gen q.1) (by unfold frd;exact ycf.2 ⟨q,hq,by simp⟩))
   have e4:σ'.kd b=σ.kd b:=zmf (a4 (.knd b) (by unfold frd;simp));have h1:=za4 hs p;have h2:=za4 hs x;rw[zal f6,hp]at h1;rw[zal d3]at h2;have hr:=zgo c0 h2;have a7:=zgv c0 h2;have a5:zc5 σ σ' bs:=λl hl=>a4 l (by unfold frd at *;rw[ybn];exact yai _ hl)
   have b8:=fzS_ok hs (bs':=bs) (λq hq=>d0 q (by simp[hq])) hr (fzS_same a0 a5) (λ_ h=>h) λhn c g' e8 k2 ys c9 e0=>by
    refine e2 hn c g' e8 k2 ys c9 ?_;rw[<- e0];subst c9;rw[hn]at a0;simp only[fzS]at a0;split at a0
    ·rename_i g1;simp only[zkF,zkG]at a0;obtain⟨_,rfl⟩:=a0;exact((zc5.head a5).2.1).symm
    ·cases a0
   obtain⟨d2,_⟩:=hs.kills bs;have a3:(app σ' (fwr bs)).kd b=.row et k' es:=by rw[zjk,if_neg e5,e4,d5]
   have hl:=zik a3;have ho:=d2.obs b;rw[a3]at ho;obtain⟨us,f7,a2,b5,c8,b0,c7,d9⟩:=ho;have d4:i<es.length:=(zkI.1 he).1;rcases c8.2 with⟨_,hn⟩|⟨q,b6,cur,e1,_,e3,d1,b7,c6,d7⟩
   ·omega
   have d8:a.eval p=.pointer (some ⟨q,i*k'+j,none⟩):=by
    generalize a.eval p=v at h1;cases h1 with
    |elt _ _ _ _ _ _ _ _ hh =>
     obtain⟨b',z,n,c,f1,f2⟩:=hh (d0 (b,g) (by simp));rw[e1]at f1;injection f1 with f1
     injection f1 with f1
     injection f1 with f1 f3
     rw[f2,f1,<- f3,yal]
   have a9:(a.eval x).cells.toList.length=m:=by rw[hr.1,b2]
   have e7:xs.length=m:=by rw[<- b8.1,a9]
   have b3:(i+1)*k'<=es.length*k':=ybs _ d4;have e9:es.length*k'<=b6*k':=ybs _ d1;rw[Nat.add_mul,yfl]at b3;have a8:=run_storeCells_at (P:=P) q (i*k'+j) et (a.eval x).cells.toList 0 cur w e3 (by omega) a7;simp only[ybz]at a8;have hz:=zf8 hm w;have e6:(a.eval x).cells.size=m:=by rw[<- a9];simp
   have run:(execOp a.eval o).run P w=.ok .skip (w.setRow q (splice cur.toList (i*k'+j) (a.eval x).cells.toList).toArray):=by
    simp only[execOp,hop,Instr.storeAt,d8,Instr.sureAddr,storeVar,Sem.run_bind,Sem.run_pure,Result.andThen_ok,hz,e6];rw[if_neg (by simp),a8];rfl
   unfold Oper.wp;rw[run,Oper.upon_skip];refine hK _ _ ⟨ρ,?_⟩;have b9:us.length=es.length*k':=by rw[b0,zbx a2]
   have f5:e.length=k':=a2 e (zkH he)
   have d6:=d2.turn (w':=w.setRow q (splice cur.toList (i*k'+j) (a.eval x).cells.toList).toArray) (k':=.row et k' (es.set i (splice e j xs))) hl (q:=q) (by rw[e1];rfl)
    ⟨rfl,rfl,rfl,by simp,λk _ hk=>setRow_other w q k _ (λe=>hk (by rw[e]))⟩ (λc hc=>by unfold Owns;rw[a3];exact hc) λhI=>by
     refine⟨splice us (i*k'+j) (a.eval x).cells.toList,f7,λy hy=>?_,by rw[ybb];exact b5,?_,?_,λu hu=>?_,λn u y hu hy=>?_⟩
     ·rcases ycv hy with hy|hy
      ·exact a2 y hy
      ·rw[hy,zdc _ _ _ (by omega),f5]
     ·rw[ybb];refine⟨by rw[zdc _ _ _ (by omega),b9],.inr ⟨q,b6,_,e1,yaf _,setRow_heap w q cur _ et _ e3,d1,b7,?_,?_⟩⟩
      ·rw[ycx,zdc _ _ _ (by simp;omega)];simpa using c6
      ·rw[ydt,zj0 _ _ _ _ (by omega) (by simp;omega),d7]
     ·rw[zni a2 he (by omega),zdc _ _ _ (by omega),zdc _ _ _ (by omega),b0]
     ·unfold splice at hu;rcases yam.1 hu with hu|hu
      ·rcases yam.1 hu with hu|hu
       ·exact c7 u (ybe hu)
       ·exact a7 u hu
      ·exact c7 u (ybp hu)
     ·rw[zni a2 he (by omega)]at hy;rcases zqc b0 (by rw[a9,e7]) (by omega) hu hy with⟨n',h3,h4⟩|⟨n',h3,h4⟩
      ·exact hI _ _ (d9 n' u y h3 h4)
      ·exact hI _ _ (b8.2 n' u y h3 h4)
   rw[zaz,zb6];exact d6.put (zio hd) (zc1 _)
  ·exact h.elim
 ·exact h.elim
end
end
section
open Go.RowKit
def OcOk(w:World)(S:Nat->Prop)(v:Value):Oc->List Nat->Prop
 | .im x,F=>RepI w S v x/\F=[]
 | .ow k,F=>v.oneCell'=true/\∃inn,zdq w S v inn k/\F=fpk v inn k
def zjf(w:World)(S:Nat->Prop):List Value->List Oc->List Nat->Prop
 |[],[],F=>F=[]
 |v::vs,c::cs,F=>∃F1 F2,OcOk w S v c F1/\zjf w S vs cs F2/\F=F1++F2
 |_,_,_=>False
def ArgOk(w:World)(S:Nat->Prop)(v:Value):Arg->List Nat->Prop
 | .im x,F=>RepI w S v x/\F=[]
 | .ow k,F=>OcOk w S v (.ow k) F
 | .box t cs,F=>∃(q:Nat) (us:List Value) (F':List Nat),v=.pointer (some ⟨q,0,none⟩)/\w.heap[q]?=some (.cells us.toArray t (0,0))/\(∀u∈us,u.oneCell'=true)/\zjf w S us cs F'/\F=q::F'
 | .lent k,F=>OcOk w S v (.ow k) F
def zdz(w:World)(S:Nat->Prop):List Value->List Arg->List Nat->Prop
 |[],[],F=>F=[]
 |v::vs,x::xs,F=>∃F1 F2,ArgOk w S v x F1/\zdz w S vs xs F2/\F=F1++F2
 |_,_,_=>False
def bxVs:List Value->List Arg->List Value
 |v::vs,.box _ _::xs=>v::bxVs vs xs
 |v::vs,.lent _::xs=>v::bxVs vs xs
 |_::vs,.im _::xs=>bxVs vs xs
 |_::vs,.ow _::xs=>bxVs vs xs
 |_,_=>[]
def zl9(w:World)(S:Nat->Prop)(v:Value)(ps:List Value):Rs->List Nat->Prop
 | .mk tp l ys,F=>∃(us:List Value) (F1 F2:List Nat),(match tp with|true=>v=.tuple us.toArray|false=>us=[v])/\zjf w S us l F1/\zdz w S ps ys F2/\F=F1++F2
def Sp(P:Program)(g:FuncId)(xs:List Arg)(r:Rs):Prop :=
 (∀args w,(callFunc g args).run P w=.ok (.enter g args) w) /\
 ∀(w:World) (S:Nat->Prop) (vs:List Value) (F:List Nat),(∀b,S b->b<w.heap.size)->zdz w S vs xs F->F.Nodup->(∀b∈F,¬S b/\b<w.heap.size) ->
  Calls P g vs.toArray w λe w'=>∃(v:Value) (F':List Nat),e=.returned v/\Belo (λb=>b∈F) w.heap.size w w' /\
   zl9 w' (λb=>(S b\/w.heap.size<=b\/b∈F)/\b<w'.heap.size/\b∉F') v (bxVs vs xs) r F'/\F'.Nodup/\∀b∈F',(w.heap.size<=b\/b∈F)/\b<w'.heap.size
def RetA(t:TypeId)(v u:Value):Prop:=match t with
 |0=>v=u
 |_=>∃us:List Value,u=.tuple us.toArray/\v=.agg us.toArray/\∀x∈us,x.oneCell'=true
def SpA(P:Program)(g:FuncId)(t:TypeId)(n:Nat)(xs:List Arg)(r:Rs):Prop :=
 (∀args w,(callFunc g args).run P w=.ok (.enter g args) w) /\
 ∀(w:World) (S:Nat->Prop) (us vs:List Value) (F:List Nat),(∀b,S b->b<w.heap.size)->zdz w S (us++vs) xs F->us.length=n->(∀u∈us,u.oneCell'=true)->F.Nodup->(∀b∈F,¬S b/\b<w.heap.size) ->
  Calls P g (.agg us.toArray::vs).toArray w λe w'=>∃(v u:Value) (F':List Nat),e=.returned v/\RetA t v u/\Belo (λb=>b∈F) w.heap.size w w' /\
   zl9 w' (λb=>(S b\/w.heap.size<=b\/b∈F)/\b<w'.heap.size/\b∉F') u (bxVs (us++vs) xs) r F'/\F'.Nodup/\∀b∈F',(w.heap.size<=b\/b∈F)/\b<w'.heap.size
def SpR(P:Program)(g:FuncId)(xs:List Arg)(r:Rs):Prop :=
 (∀args w,(callFunc g args).run P w=.ok (.enter g args) w) /\
 ∀(w:World) (S:Nat->Prop) (vs:List Value) (F:List Nat),(∀b,S b->b<w.heap.size)->zdz w S vs xs F->F.Nodup->(∀b∈F,¬S b/\b<w.heap.size) ->
  Calls P g vs.toArray w λe w'=>∃(v u:Value) (F':List Nat),e=.returned v/\RetA 1 v u/\Belo (λb=>b∈F) w.heap.size w w' /\
   zl9 w' (λb=>(S b\/w.heap.size<=b\/b∈F)/\b<w'.heap.size/\b∉F') u (bxVs vs xs) r F'/\F'.Nodup/\∀b∈F',(w.heap.size<=b\/b∈F)/\b<w'.heap.size
def SpX(P:Program)(g:FuncId)(xs:List Arg)(r:Rs):Prop:=match xs with
 | .lent .dead::.box t l::ys=>SpA P g t l.length ys r
 | .lent .dead::.ow .dead::ys=>SpR P g ys r
 |_=>Sp P g xs r
def nmX:List Arg->Bool
 | .lent .dead::_=>false
 |_=>true
def SpX.sp{P:Program}{g:FuncId}{xs:List Arg}{r:Rs}(hn:nmX xs=true)(h:SpX P g xs r):Sp P g xs r:=by
 unfold SpX at h;split at h
 ·cases hn
 ·cases hn
 ·exact h
def OcOk.mono{w:World}{S S':Nat->Prop}{v:Value}(hI:∀u x,RepI w S u x->RepI w S' u x):∀{c:Oc} {F:List Nat},OcOk w S v c F->OcOk w S' v c F
 | .im _,_,h=>⟨hI _ _ h.1,h.2⟩
 | .ow _,_,⟨h1,inn,h2,h3⟩=>⟨h1,inn,h2.mono (λ_ _=>rfl) hI,h3⟩
def zjf.mono{w:World}{S S':Nat->Prop}(hI:∀u x,RepI w S u x->RepI w S' u x):∀{vs:List Value} {cs:List Oc} {F:List Nat},zjf w S vs cs F->zjf w S' vs cs F
 |[],[],_,h=>h
 |_::_,_::_,_,⟨F1,F2,h1,h2,h3⟩=>⟨F1,F2,h1.mono hI,h2.mono hI,h3⟩
 |[],_::_,_,h=>h.elim
 |_::_,[],_,h=>h.elim
def ArgOk.mono{w:World}{S S':Nat->Prop}{v:Value}(hI:∀u x,RepI w S u x->RepI w S' u x):∀{c:Arg} {F:List Nat},ArgOk w S v c F->ArgOk w S' v c F
 | .im _,_,h=>⟨hI _ _ h.1,h.2⟩
 | .ow k,_,h=>OcOk.mono (c:=.ow k) hI h
 | .box _ _,_,⟨q,us,F',h1,h2,h3,h4,h5⟩=>⟨q,us,F',h1,h2,h3,h4.mono hI,h5⟩
 | .lent k,_,h=>OcOk.mono (c:=.ow k) hI h
def zdz.mono{w:World}{S S':Nat->Prop}(hI:∀u x,RepI w S u x->RepI w S' u x):∀{vs:List Value} {cs:List Arg} {F:List Nat},zdz w S vs cs F->zdz w S' vs cs F
 |[],[],_,h=>h
 |_::_,_::_,_,⟨F1,F2,h1,h2,h3⟩=>⟨F1,F2,h1.mono hI,h2.mono hI,h3⟩
 |[],_::_,_,h=>h.elim
 |_::_,[],_,h=>h.elim
def OcOk.flat{w:World}{S S':Nat->Prop}{v:Value}:∀{c:Oc} {F:List Nat},zsw c->OcOk w S v c F->OcOk w S' v c F
 | .im x,_,hf,h=>by
  rcases hf with⟨u,rfl⟩|⟨cs,rfl,hf⟩
  ·exact⟨by cases h.1;exact .val _,h.2⟩
  ·obtain⟨h1,h2⟩:=h;refine⟨?_,h2⟩;cases h1 with
   |agg us cs hl h3 hr =>
    refine .agg us cs hl h3 λi u x hu hx=>?_;obtain⟨y,rfl⟩:=hf x (zkH hx);have h4:=hr i u _ hu hx;cases h4;exact .val _
 | .ow (.row e k es),_,hf,⟨h1,inn,⟨us,h2,h3,h4,h5,h6,h7,h8⟩,h9⟩=>⟨h1,inn,⟨us,h2,h3,h4,h5,h6,h7,λi u x hu hx=>by
  have a2:=h8 i u x hu hx
  obtain⟨y,hy,hxy⟩:=yd3.1 (zkH hx)
  obtain⟨z,rfl⟩:=hf y hy x hxy
  cases a2
  exact .val _⟩,h9⟩
 | .ow (.map _),_,_,⟨h1,inn,h2,h3⟩=>⟨h1,inn,h2,h3⟩
 | .ow .dead,_,hf,_=>hf.elim
 | .ow (.box _ _),_,hf,_=>hf.elim
 | .ow (.grid _ _ _ _ _),_,hf,_=>hf.elim
def zjf.flat{w:World}{S S':Nat->Prop}:∀{vs:List Value} {cs:List Oc} {F:List Nat},(∀c∈cs,zsw c)->zjf w S vs cs F->zjf w S' vs cs F
 |[],[],_,_,h=>h
 |_::_,c::_,_,hf,⟨F1,F2,h1,h2,h3⟩=>⟨F1,F2,h1.flat (hf c (by simp)),h2.flat λx hx=>hf x (by simp[hx]),h3⟩
 |[],_::_,_,_,h=>h.elim
 |_::_,[],_,_,h=>h.elim
def zdz.flat{w:World}{S S':Nat->Prop}:∀{vs:List Value} {cs:List Arg} {F:List Nat},(∀c∈cs,flatArg c)->zdz w S vs cs F->zdz w S' vs cs F
 |[],[],_,_,h=>h
 |_::_,c::_,_,hf,⟨F1,F2,h1,h2,h3⟩=>⟨F1,F2,by
  have hc:=hf c (by simp)
  cases c with
  |im x=>exact hc.elim
  |ow k=>exact hc.elim
  |box t cs =>
   obtain⟨q,us,F',a1,a2,a3,a4,a5⟩:=h1
   exact⟨q,us,F',a1,a2,a3,a4.flat hc,a5⟩
  |lent k=>exact OcOk.flat (c:=.ow k) hc h1,h2.flat λx hx=>hf x (by simp[hx]),h3⟩
 |[],_::_,_,_,h=>h.elim
 |_::_,[],_,_,h=>h.elim
section
variable {P:Program}{B:Base}{o:Oper}{σ:St}{K:Fx->Prop}
def opdL_mem{l:List Operand}{x:Operand}(h:x∈l):∀y∈opd x,y∈opdL l:=λy hy=>ycf.2 ⟨x,h,hy⟩
def evL_ok{σ':St}{a:Act}{w:World}{ρ:Ly}(h:SatR B σ' a w ρ){l:List Operand}(hag:∀y∈opdL l,σ' y=σ y):Reps w (Imm B σ' ρ w) ρ σ'.gn (l.map a.eval) (l.map (evA σ)):=by
 refine⟨by simp,λi u x hu hx=>?_⟩;simp only[yae]at hu hx;cases hc:l[i]? with
 |none=>rw[hc]at hu;cases hu
 |some c =>
  rw[hc]at hu hx;simp only[yap,zkF]at hu hx;rw[<- hu,<- hx,<- zal (σ':=σ') λy hy=>hag y (opdL_mem (zkH hc) y hy)];exact za4 h c
def Reps.app{w:World}{S:Nat->Prop}{ρ:Ly}{γ:Nat->Nat}{us vs:List Value}{cs ds:List AV}(h:Reps w S ρ γ us cs)(k:Reps w S ρ γ vs ds):Reps w S ρ γ (us++vs) (cs++ds):=by
 refine⟨by simp[h.1,k.1],λi u x hu hx=>?_⟩;rw[ya1]at hu hx;rw[h.1]at hu;split at hu
 ·rename_i a0;rw[if_pos a0]at hx;exact h.2 i u x hu hx
 ·rename_i a0;rw[if_neg a0]at hx;exact k.2 _ u x hu hx
def zfm:∀{l bs:List Nat},ndB l bs=true->l.Nodup/\∀a∈l,a∉bs
 |[],bs,_=>⟨yc4,by simp⟩
 |a::l,bs,h=>by
  simp only[ndB,yax,ydy,List.contains_eq_mem,decide_eq_false_iff_not]at h;obtain⟨h1,h2⟩:=zfm h.2;refine⟨yb0.2 ⟨h.1.1,h1⟩,λb hb=>?_⟩;rcases yaw.1 hb with rfl|hb
  ·exact h.1.2
  ·exact h2 b hb
def fwr_ce(bs:yad)(o i:Nat):∀(σ:St),(app σ (fwr bs)).ce o i=σ.ce o i:=by
 induction bs with
 |nil=>intro σ;rfl
 |cons b bs ih=>intro σ;show(app (upd σ (.knd b.1) (.kd .dead)) (fwr bs)).ce o i=_;rw[ih,zh1]
def zdq.one{w:World}{S:Nat->Prop}{v:Value}{inn:List Value}:∀{k:Kd},zdq w S v inn k->v.oneCell'=true
 | .dead,h=>h.elim
 | .box _ _,h=>h.elim
 | .row _ _ _,⟨us,_,_,_,h,_⟩=>row_one h
 | .grid _ _ _ _ _,⟨_,_,us,_,h,_⟩=>row_one h
 | .map _,⟨b,_,_,h,_⟩=>by rw[h];rfl
 | .bag _ _ _ _ _,h=>h.elim
 | .mapI _ _,h=>h.elim
 | .que _ _ _,⟨us,_,_,_,_,_,_,h⟩=>by rcases h with⟨rfl,_⟩|⟨_,_,_,_,rfl,_⟩<;>rfl
def zjl{p:Nat}{k:Kd}(h:objG σ p=some k):σ.kd p=k/\k≠.dead/\∀t m,k≠.box t m:=by
 unfold objG at h;split at h
 ·cases h
 ·cases h
 ·cases h
 ·cases h
 ·cases h
 ·rename_i h1 h2 h3 h4 h5;injection h with h
  subst h;exact⟨rfl,h1,h2⟩
def zp0{a:Act}{w:World}{ρ:Ly}(h:SatR B σ a w ρ){p:Nat}{k:Kd}(hk:objG σ p=some k):zdq w (Imm B σ ρ w) (ρ p) (ρ.inn p) k:=by
 obtain⟨h1,h2,h3⟩:=zjl hk;have ho:=h.obs p;rw[h1]at ho;unfold objG at hk;rw[h1]at hk;cases k with
 |dead=>exact absurd rfl h2
 |box t m=>exact absurd rfl (h3 t m)
 |row e m es=>exact ho
 |grid e e' m gs q=>exact ho
 |map l=>exact ho
 |bag t e m l q=>cases hk
 |mapI l c=>cases hk
 |que e m es=>cases hk
def zdh(σ:St)(ρ:Ly)(gs:yad):List Nat:=gs.flatMap λp=>fpk (ρ p.1) (ρ.inn p.1) (σ.kd p.1)
def zds{ρ:Ly}{gs:yad}{b:Nat}:b∈zdh σ ρ gs↔∃p∈gs,Owns σ ρ p.1 b:=ycf
def fpk_nodup{a:Act}{w:World}{ρ:Ly}(h:SatR B σ a w ρ)(o:Nat):(fpk (ρ o) (ρ.inn o) (σ.kd o)).Nodup:=by
 have ho:=h.obs o;cases hk:σ.kd o with
 |dead=>exact yc4
 |grid e e' m gs q=>rw[hk]at ho;exact ho.1
 |box t m=>unfold fpk;cases zb3 (ρ o)<;>simp
 |row e m es=>unfold fpk;cases zb3 (ρ o)<;>simp
 |map l=>unfold fpk;cases zb3 (ρ o)<;>simp
 |bag t e m l q=>rw[hk]at ho;exact ho.1.2.1
 |mapI l c =>
  rw[hk]at ho;obtain⟨b,r,_,_,_,_,_,_,h1,h2,h3,_⟩:=ho;unfold fpk fpv;rw[h1,h2];simp[zb3,Ne.symm h3]
 |que e m es=>unfold fpk;cases zb3 (ρ o)<;>simp
def zen{a:Act}{w:World}{ρ:Ly}(h:SatR B σ a w ρ):∀{gs:yad},(gs.map (·.1)).Nodup->(zdh σ ρ gs).Nodup
 |[],_=>yc4
 |p::gs,hn=>by
  rw[yav,yb0]at hn;unfold zdh;rw[ybn,ybm];refine⟨fpk_nodup h p.1,zen h hn.2,λx hx y hy e=>?_⟩;subst e;obtain⟨q,hq,hb⟩:=zds.1 (show x∈zdh σ ρ gs from hy);have:=h.dis p.1 q.1 x hx hb;exact hn.1 (yao.2 ⟨q,hq,this.symm⟩)
def zml{x:IV}{e k:Nat}{q:Kd}(h:nilRow x e k=some q):x=.val (.slice none 0 0)/\∃k',q=.row e (k'+1) []:=by
 unfold nilRow at h;split at h
 ·split at h
  ·cases h
  ·rename_i k';injection h with h
   exact⟨rfl,k',h.symm⟩
 ·cases h
def nil_oc(w:World)(S:Nat->Prop)(e k:Nat):OcOk w S (.slice none 0 0) (.ow (.row e (k+1) [])) [] :=
 ⟨rfl,[],⟨[],by omega,by simp,by simp,World.ownsRow_nil _ _ _ _,rfl,by simp,by simp⟩,rfl⟩
def cellG0_ok{a:Act}{w:World}{ρ:Ly}(h:SatR B σ a w ρ){S:Nat->Prop}(hI:∀u x,RepI w (Imm B σ ρ w) u x->RepI w S u x){own:List Nat}{d i j:Nat}{u:Value}{c:AV}{x:Oc}{gs:yad}
  (hu:RepA w (Imm B σ ρ w) ρ σ.gn u c) (e:ztb σ own d i j c=some (x,gs)) (hg:∀p∈gs,σ.gn p.1=p.2):OcOk w S u x (zdh σ ρ gs):=by
 unfold ztb at e;split at e
 ·rename_i y;have hu:=hu.im_inv;split at e
  ·split at e
   ·rename_i q hq;injection e with e
    injection e with e1 e2
    subst e1 e2;obtain⟨rfl,k',rfl⟩:=zml hq;cases hu;exact nil_oc _ _ _ _
   ·cases e
  ·injection e with e
   injection e with e1 e2
   subst e1 e2;exact⟨hI _ _ (zj1 hu),rfl⟩
 ·rename_i p g;split at e
  ·rename_i k hk;injection e with e
   injection e with e1 e2
   subst e1 e2;have hg:=hg (p,g) (by simp)
   have hv:u=ρ p:=by
    cases hu with
    |osl _ _ _ _ _ hh=>exact hh hg
   have hh:=zp0 h hk;subst hv;refine⟨hh.one,ρ.inn p,hh.mono (λ_ _=>rfl) hI,?_⟩;unfold zdh;rw[ybn,ydr,yb4,(zjl hk).1]
  ·cases e
 ·cases e
def cellG_ok{a:Act}{w:World}{ρ:Ly}(h:SatR B σ a w ρ){S:Nat->Prop}(hI:∀u x,RepI w (Imm B σ ρ w) u x->RepI w S u x){own:List Nat}{d i j:Nat}{u:Value}{c:AV}{x:Oc}{gs:yad}
  (hu:RepA w (Imm B σ ρ w) ρ σ.gn u c) (e:cellG σ own d i j c=some (x,gs)) (hg:∀p∈gs,σ.gn p.1=p.2):OcOk w S u x (zdh σ ρ gs):=by
 unfold cellG at e;split at e
 ·injection e with e
  injection e with e1 e2
  subst e1 e2;exact⟨.any _,rfl⟩
 ·exact cellG0_ok h hI hu e hg
def zd9(ρ:Ly)(a b:yad):zdh σ ρ (a++b)=zdh σ ρ a++zdh σ ρ b:=yc9
def cellsG_ok{a:Act}{w:World}{ρ:Ly}(h:SatR B σ a w ρ){S:Nat->Prop}(hI:∀u x,RepI w (Imm B σ ρ w) u x->RepI w S u x){own:List Nat}{d i:Nat}:∀{us:List Value} {cs:List AV} {j:Nat} {xs:List Oc} {gs:yad},
  Reps w (Imm B σ ρ w) ρ σ.gn us cs->zpc σ own d i j cs=some (xs,gs)->(∀p∈gs,σ.gn p.1=p.2)->zjf w S us xs (zdh σ ρ gs)
 |[],[],j,xs,gs,_,e,_=>by
  simp only[zpc,zkF,zkG]at e;rw[<- e.1,<- e.2];exact rfl
 |[],c::cs,_,_,_,hr,_,_=>by have:=hr.1;simp at this
 |u::us,[],_,_,_,hr,_,_=>by have:=hr.1;simp at this
 |u::us,c::cs,j,xs,gs,hr,e,hg=>by
  simp only[zpc]at e;split at e
  ·rename_i x g1 xs1 gs1 h1 h2;simp only[zkF,zkG]at e;obtain⟨rfl,rfl⟩:=e
   exact⟨_,_,cellG_ok h hI (hr.2 0 u c rfl rfl) h1 λp hp=>hg p (yan _ hp),
    cellsG_ok h hI ⟨by simpa using hr.1,λi u x hu hx=>hr.2 (i+1) u x (by simpa using hu) (by simpa using hx)⟩ h2 λp hp=>hg p (yai _ hp),zd9 _ _ _⟩
  ·cases e
def argG_ok{a:Act}{w:World}{ρ:Ly}(h:SatR B σ a w ρ){own:List Nat}{d i:Nat}{bs0:yad}(hgk:∀p∈bs0,σ.gn p.1=p.2){u:Value}{c:AV}{x:Arg}{bs gs:yad}
  (hu:RepA w (Imm B σ ρ w) ρ σ.gn u c) (e:argG σ own d i c=some (x,bs,gs)) (hb:∀p∈bs,p∈bs0) (hg:∀p∈gs,σ.gn p.1=p.2):ArgOk w (Imm B (app σ (fwr bs0)) ρ w) u x (zdh σ ρ gs):=by
 have hI:=(h.kills bs0).2;unfold argG at e;split at e
 ·split at e
  ·rename_i b g;split at e
   ·rename_i k hk;simp only[zkF,zkG]at e;obtain⟨rfl,rfl,rfl⟩:=e;have a3:=hg (b,g) (by simp)
    have hv:u=ρ b:=by
     cases hu with
     |osl _ _ _ _ _ hh=>exact hh a3
    have hh:=zp0 h hk;subst hv
    have a0:OcOk w (Imm B (app σ (fwr bs0)) ρ w) (ρ b) (.ow k) (zdh σ ρ [(b,g)]):=by
     refine⟨hh.one,ρ.inn b,hh.mono (λ_ _=>rfl) hI,?_⟩;unfold zdh;rw[ybn,ydr,yb4,(zjl hk).1]
    unfold lentG;split
    ·exact a0
    ·exact a0
   ·cases e
  ·rename_i b g;split at e
   ·rename_i t m hk;split at e
    ·rename_i cs a2 a4;simp only[zkF,zkG]at e;obtain⟨rfl,rfl,rfl⟩:=e;obtain⟨q,us,e3,e4,e5,e6,e7,_,e9⟩:=zho h hu (hg (b,g) (by simp)) hk;refine⟨q,us,zdh σ ρ a2,e3,e5,e7,cellsG_ok h hI (zol (by rw[e6];exact hk) e9) a4 λp hp=>hg p (by simp[hp]),?_⟩;unfold zdh;rw[ybn,hk,e4];rfl
    ·cases e
   ·cases e
  ·rename_i y;have hu:=hu.im_inv;split at e
   ·split at e
    ·rename_i q hq;simp only[zkF,zkG]at e;obtain⟨rfl,rfl,rfl⟩:=e;obtain⟨rfl,k',rfl⟩:=zml hq;cases hu;exact nil_oc _ _ _ _
    ·cases e
   ·cases e
  ·cases e
 ·split at e
  ·split at e
   ·simp only[zkF,zkG]at e;obtain⟨rfl,rfl,rfl⟩:=e;exact⟨hI _ _ hu.im_inv,rfl⟩
   ·cases e
  ·split at e
   ·rename_i y bs' hy;simp only[zkF,zkG]at e;obtain⟨rfl,rfl,rfl⟩:=e;exact⟨fz_ok h hgk hu hy hb,rfl⟩
   ·cases e
def zns{a:Act}{w:World}{ρ:Ly}(h:SatR B σ a w ρ){own:List Nat}{d:Nat}{bs0:yad}(hgk:∀p∈bs0,σ.gn p.1=p.2):∀{us:List Value} {cs:List AV} {i:Nat} {xs:List Arg} {bs gs:yad},
  Reps w (Imm B σ ρ w) ρ σ.gn us cs->ziw σ own d i cs=some (xs,bs,gs)->(∀p∈bs,p∈bs0)->(∀p∈gs,σ.gn p.1=p.2)->zdz w (Imm B (app σ (fwr bs0)) ρ w) us xs (zdh σ ρ gs)
 |[],[],i,xs,bs,gs,_,e,_,_=>by
  simp only[ziw,zkF,zkG]at e;rw[<- e.1,<- e.2.2];exact rfl
 |[],c::cs,_,_,_,_,hr,_,_,_=>by have:=hr.1;simp at this
 |u::us,[],_,_,_,_,hr,_,_,_=>by have:=hr.1;simp at this
 |u::us,c::cs,i,xs,bs,gs,hr,e,hb,hg=>by
  simp only[ziw]at e;split at e
  ·rename_i x b1 g1 xs1 bs1 gs1 h1 h2;simp only[zkF,zkG]at e;obtain⟨rfl,rfl,rfl⟩:=e
   exact⟨_,_,argG_ok h hgk (hr.2 0 u c rfl rfl) h1 (λp hp=>hb p (yan _ hp)) λp hp=>hg p (yan _ hp),
    zns h hgk ⟨by simpa using hr.1,λi u x hu hx=>hr.2 (i+1) u x (by simpa using hu) (by simpa using hx)⟩ h2 (λp hp=>hb p (yai _ hp)) λp hp=>hg p (yai _ hp),zd9 _ _ _⟩
  ·cases e
def bxG_ok{a:Act}{w:World}{ρ:Ly}(h:SatR B σ a w ρ){own:List Nat}{d:Nat}:∀{us:List Value} {cs:List AV} {i:Nat} {xs:List Arg} {bs gs:yad},
  Reps w (Imm B σ ρ w) ρ σ.gn us cs->ziw σ own d i cs=some (xs,bs,gs)->(∀p∈gs,σ.gn p.1=p.2)->bxVs us xs=(bxG own d i cs).map (λp=>ρ p.1)/\(∀p∈bxG own d i cs,p.1∈gs.map (·.1))
 |[],[],i,xs,bs,gs,_,e,_=>by
  simp only[ziw,zkF,zkG]at e;rw[<- e.1];exact⟨rfl,by simp[bxG]⟩
 |[],c::cs,_,_,_,_,hr,_,_=>by have:=hr.1;simp at this
 |u::us,[],_,_,_,_,hr,_,_=>by have:=hr.1;simp at this
 |u::us,c::cs,i,xs,bs,gs,hr,e,hg=>by
  simp only[ziw]at e;split at e
  ·rename_i x b1 g1 xs1 bs1 gs1 h1 h2;simp only[zkF,zkG]at e;obtain⟨rfl,rfl,rfl⟩:=e;obtain⟨ih1,ih2⟩:=bxG_ok h (us:=us) (cs:=cs) ⟨by simpa using hr.1,λi u x hu hx=>hr.2 (i+1) u x (by simpa using hu) (by simpa using hx)⟩ h2 λp hp=>hg p (yai _ hp);have up:∀p∈bxG own d (i+1) cs,p.1∈(g1++gs1).map (·.1):=λp hp=>by rw[ya0];exact yai _ (ih2 p hp)
   have hu:=hr.2 0 u c rfl rfl;unfold argG at h1;unfold bxG;split at h1
   ·rename_i hown;split at h1
    ·rename_i b g;split at h1
     ·rename_i k hk;simp only[zkF,zkG]at h1;obtain⟨rfl,rfl,rfl⟩:=h1
      have hv:u=ρ b:=by
       have a0:=hg (b,g) (by simp);cases hu with
       |osl _ _ _ _ _ hh=>exact hh a0
      unfold lentG;cases hl:own.contains (2000000+(1000*(d+1)+i)) with
      |true =>
       refine⟨by simp only[bxVs,yav,hl];rw[ih1,hv],λp hp=>?_⟩;simp only[hl]at hp;rcases yaw.1 hp with rfl|hp
       ·simp
       ·exact up p hp
      |false=>exact⟨by simp only[bxVs,hl];exact ih1,λp hp=>up p (by simpa only[hl]using hp)⟩
     ·cases h1
    ·rename_i b g;split at h1
     ·rename_i t m hk;split at h1
      ·simp only[zkF,zkG]at h1;obtain⟨rfl,rfl,rfl⟩:=h1;obtain⟨q,a2,e3,e4,_⟩:=zho h hu (hg (b,g) (by simp)) hk;refine⟨by simp only[bxVs,yav];rw[ih1,e3,e4],λp hp=>?_⟩;rcases yaw.1 hp with rfl|hp
       ·simp
       ·exact up p hp
      ·cases h1
     ·cases h1
    ·split at h1
     ·split at h1
      ·simp only[zkF,zkG]at h1;obtain⟨rfl,rfl,rfl⟩:=h1;exact⟨ih1,up⟩
      ·cases h1
     ·cases h1
    ·cases h1
   ·rename_i hown;split at h1
    ·split at h1
     ·simp only[zkF,zkG]at h1;obtain⟨rfl,rfl,rfl⟩:=h1;exact⟨ih1,up⟩
     ·cases h1
    ·split at h1
     ·simp only[zkF,zkG]at h1;obtain⟨rfl,rfl,rfl⟩:=h1;exact⟨ih1,up⟩
     ·cases h1
  ·cases e
end
end
end Go.Proofs.YtkeplokjplkcmaaGreat.Sym

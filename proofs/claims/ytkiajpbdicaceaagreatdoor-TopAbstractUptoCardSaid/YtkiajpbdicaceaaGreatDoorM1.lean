/- Parts of the proof. -/
import Derived.WalkKit
import Derived.Deep.AppendLies
import Derived.Deep.Draws
import Derived.Maps.AppendAt
import Derived.Deep.QuietTactic
import Derived.BigQuiet
import Derived.WalkSpells
import Derived.Outline
import Derived.Laws.OwnMore
import Derived.Test.YtkiajpbdicaceaaGreatDoorProg
import Derived.IntWalk
import Derived.Laws.Cells
import Derived.ArgAppend
set_option linter.all false
set_option maxRecDepth 100000
set_option maxHeartbeats 4000000
open Go.RowKit
namespace Go.Proofs.YtkiajpbdicaceaaGreatDoor.Sym
section
abbrev yaa:=List (List Int)
abbrev yab:=List Int
abbrev yad:=List (Nat×Nat)
abbrev yae:=@Nat.zero_add
abbrev yaf:=@List.mem_append_right
abbrev yag:=@Nat.eq_of_beq_eq_true
abbrev yah:=@List.length_nil
abbrev yai:=@List.mem_append_left
abbrev yaj:=@Option.map_some
abbrev yak:=@List.length_take
abbrev yal:=@List.mem_append
abbrev yam:=@Nat.le_refl
abbrev yan:=@List.map_cons
abbrev yao:=@Array.getElem?_toList
abbrev yap:=@List.mem_map
abbrev yaq:=@List.getElem?_append
abbrev yar:=@Bool.and_eq_true
abbrev yas:=@Nat.zero_le
abbrev yat:=@List.getElem?_map
abbrev yau:=@List.mem_cons
abbrev yav:=@List.eq_nil_of_length_eq_zero
abbrev yaw:=@List.mem_singleton
abbrev yax:=@List.getElem?_take
abbrev yay:=@List.mem_cons_of_mem
abbrev yaz:=@List.mem_of_mem_take
abbrev ya0:=@List.length_drop
abbrev ya1:=@List.mem_of_mem_drop
abbrev ya2:=@List.getElem?_append_left
abbrev ya3:=@List.flatMap_cons
abbrev ya4:=@List.flatten_cons
abbrev ya5:=@List.getElem?_append_right
abbrev ya6:=@List.getElem?_drop
abbrev ya7:=@List.getD_eq_getElem?_getD
abbrev ya8:=@Nat.lt_or_ge
abbrev ya9:=@List.map_append
abbrev yba:=@Option.getD_some
abbrev ybb:=@Nat.add_assoc
abbrev ybc:=@List.nodup_append
abbrev ybd:=@Nat.mul_le_mul_right
abbrev ybe:=@List.getElem?_eq_none
abbrev ybf:=@List.all_eq_true
abbrev ybg:=@List.eq_of_mem_replicate
abbrev ybh:=@List.take_of_length_le
abbrev ybi:=@List.pairwise_cons
abbrev ybj:=@List.nodup_cons
abbrev ybk:=@List.filterMap_cons
abbrev ybl:=@Nat.add_zero
abbrev ybm:=@Array.getElem?_eq_some_iff
abbrev ybn:=@List.mem_iff_getElem
abbrev ybo:=@List.mem_filterMap
abbrev ybp:=@List.append_nil
abbrev ybq:=@Array.toArray_toList
abbrev ybr:=@Nat.not_lt_zero
abbrev ybs:=@List.append_assoc
abbrev ybt:=@List.flatten_append
abbrev ybu:=@List.length_set
abbrev ybv:=@List.length_replicate
abbrev ybw:=@Array.length_toList
abbrev ybx:=@Array.toList_map
abbrev yby:=@List.size_toArray
abbrev ybz:=@Int.toNat_natCast
abbrev yb0:=@List.take_append_of_le_length
abbrev yb1:=@List.getElem?_set_ne
abbrev yb2:=@Nat.lt_of_lt_of_le
abbrev yb3:=@List.mem_cons_self
abbrev yb4:=@Nat.eq_zero_or_pos
abbrev yb5:=@List.getElem_mem
abbrev yb6:=@List.getElem?_range
abbrev yb7:=@List.ext_getElem?
abbrev yb8:=@List.nodup_nil
abbrev yb9:=@Nat.add_comm
abbrev yca:=@List.pairwise_iff_getElem
abbrev ycb:=@List.nil_append
abbrev ycc:=@List.getElem?_replicate
abbrev ycd:=@List.getElem?_of_mem
abbrev yce:=@Nat.le_trans
abbrev ycf:=@Nat.sub_self
abbrev ycg:=@List.getElem?_set_self
abbrev ych:=@List.mem_or_eq_of_mem_set
abbrev yci:=@List.mem_flatMap
abbrev ycj:=@Nat.mul_one
abbrev yck:=@Array.getD_eq_getD_getElem?
abbrev ycl:=@Nat.min_eq_left
abbrev ycm:=@List.take_length
abbrev ycn:=@Array.getElem?_eq_getElem
abbrev yco:=@Classical.byContradiction
abbrev ycp:=@Nat.add_sub_cancel_left
abbrev ycq:=@List.cons_append
abbrev ycr:=@List.flatMap_nil
abbrev ycs:=@List.prefix_refl
abbrev yct:=@List.drop_eq_nil_of_le
abbrev ycu:=@List.map_nil
abbrev ycv:=@Array.getElem?_modify
abbrev ycw:=@Option.map_none
abbrev ycx:=@List.sublist_append_right
abbrev ycy:=@List.pairwise_append
abbrev ycz:=@List.mem_range
abbrev yc0:=@List.mem_flatten
abbrev yc1:=@Nat.le_of_eq
abbrev yc2:=@Option.bind_some
abbrev yc3:=@List.flatMap_append
abbrev yc4:=@List.toList_toArray
abbrev yc5:=@List.getElem?_cons_zero
abbrev yc6:=@List.pairwise_singleton
abbrev yc7:=@Bool.not_true
abbrev yc8:=@Option.isSome_none
abbrev yc9:=@List.prefix_append
abbrev yda:=@List.drop_of_length_le
abbrev ydb:=@List.sublist_cons_self
abbrev ydc:=@Bool.not_eq_true'
abbrev ydd:=@List.getElem?_set
abbrev yde:=@List.length_singleton
abbrev ydf:=@List.take_append
abbrev ydg:=@List.map_toArray
abbrev ydh:=@List.map_take
abbrev ydi:=@Array.toList_append
abbrev ydj:=@Array.mapM_eq_mapM_toList
abbrev ydk:=@Nat.sub_zero
abbrev ydl:=@Bool.false_eq_true
abbrev ydm:=@Option.isSome_some
abbrev ydn:=@List.take_take
abbrev ydo:=@List.getElem?_cons_succ
abbrev ydp:=@Array.getElem?_eq_none
abbrev ydq:=@List.length_pos_of_mem
abbrev ydr:=@List.map_drop
abbrev yds:=@List.getElem?_toArray
abbrev ydt:=@List.filterMap_append
abbrev ydu:=@List.countP_singleton
abbrev ydv:=@Nat.zero_mul
abbrev ydw:=@Array.ext'
abbrev ydx:=@Nat.mul_comm
abbrev ydy:=@Bool.or_eq_true
abbrev ydz:=@List.range_succ
abbrev yd0:=@List.drop_append_of_le_length
abbrev yd1:=@Nat.testBit_or
abbrev yd2:=@List.dropLast_concat_getLast
abbrev yd3:=@Nat.add_sub_cancel
abbrev yd4:=@Array.getElem?_append_left
abbrev yd5:=@Array.size_append
abbrev yd6:=@List.drop_append
abbrev yd7:=@Nat.min_eq_right
abbrev yd8:=@Option.isSome_iff_exists
abbrev yd9:=@List.map_set
abbrev yea:=@List.pairwise_filterMap
abbrev yeb:=@Nat.div_add_mod
abbrev yec:=@Bool.eq_iff_iff
abbrev yed:=@Nat.one_mul
abbrev yee:=@Nat.min_def
end
theorem zkA {p:Prop} [Decidable p] (h:¬p):decide p=false:=decide_eq_false h
theorem zkB {p:Prop} [Decidable p] (h:p):decide p=true:=decide_eq_true h
theorem zkC {α:Sort _} (a b:α):cond false a b=b:=rfl
theorem zkD {α:Sort _} (a b:α):cond true a b=a:=rfl
theorem zkE {n m:Nat} (h:Nat.ble n m=true):n<=m:=Nat.le_of_ble_eq_true h
theorem zkF {α:Type _} (a b:α):(some a=some b)=(a=b):=Option.some.injEq a b
theorem zkG {α:Type _} {β:Type _} (a:α) (b:β) (c:α) (d:β):((a,b)=(c,d))=(a=c∧b=d):=Prod.mk.injEq a b c d
theorem zkH {α:Type _} {l:List α} {i:Nat} {a:α} (h:l[i]?=some a):a∈l:=List.mem_of_getElem? h
theorem zkI {α:Type _} {l:List α} {i:Nat} {a:α}:l[i]?=some a↔∃ h:i<l.length,l[i]=a:=List.getElem?_eq_some_iff
theorem zkJ {α:Type _} {a b:List α}:(a++b).length=a.length+b.length:=List.length_append
theorem zkK {α:Type _} {β:Type _} {l:List α} (f:α->β):(l.map f).length=l.length:=List.length_map f
theorem zkL {α:Type _} {a:α} {l:List α}:(a::l).length=l.length+1:=List.length_cons
theorem zkM {α:Type _} {l:List α} {i:Nat} (h:i<l.length):l[i]?=some l[i]:=List.getElem?_eq_getElem h
theorem zwj {w w':World} (h:Below w.heap.size w w'):w.grownBy w' none:=⟨h.os,h.tape,h.output,h.size,fun k hk _=>h.block k hk⟩
theorem zk9 {α:Type} {l:List α} {k:Nat} {x d:α} (h:l[k]?=some x):l.getD k d=x:=by simp [ya7,h]
theorem addr_add (b o j:Nat):(⟨b,o,none⟩:Addr).add j=⟨b,o+j,none⟩:=by
 unfold Addr.add;split
 ·rename_i h;subst h;rfl
 ·rfl
section
inductive IV where
 | val (v:Value)
 | ex (v:Value)
 | any
 | sl (es:List (List IV))
 | agg (cs:List IV)
 | ref (cs:List IV)
 | fn (f:FuncId) (caps:List IV)
 | nsl (es:List (List IV))
inductive AV where
 | im (x:IV)
 | own (o g i:Nat)
 | osl (o g:Nat)
 | elt (o g k i j:Nat)
 | sub (o g i:Nat)
 | elt2 (o g i k j c:Nat)
 | osv (o g k m:Nat)
 | full (es:List (List IV))
 | fn (f:FuncId) (caps:List AV)
 | agg (cs:List AV)
 | tup (cs:List AV)
inductive Kd where
 | dead
 | box (t:TypeId) (m:Nat)
 | row (e:TypeId) (k:Nat) (es:List (List IV))
 | grid (e e':TypeId) (k:Nat) (gs:List (List IV)) (hole:Option Nat)
 | map (l:List (Value×Value))
 | bag (t e:TypeId) (k:Nat) (l:List (Nat×List IV×List (List IV))) (hole:Option Nat)
 | mapI (left:List IV) (cur:Option IV)
 | que (e:TypeId) (k:Nat) (es:List (List IV))
def esOf:Kd->Option (List (List IV))
 | .row _ _ es=>some es
 | .que _ _ es=>some es
 | _=>none
def isQue:Kd->Bool
 | .que _ _ _=>true
 | _=>false
inductive Loc where
 | tmp (t:Nat)
 | gen (o:Nat)
 | ign (o:Nat)
 | knd (o:Nat)
 | cel (o i:Nat)
 deriving DecidableEq
def Loc.eqb:Loc->Loc->Bool
 | .tmp a,.tmp b=>Nat.beq a b
 | .gen a,.gen b=>Nat.beq a b
 | .ign a,.ign b=>Nat.beq a b
 | .knd a,.knd b=>Nat.beq a b
 | .cel a i,.cel b j=>Nat.beq a b&&Nat.beq i j
 | _,_=>false
theorem Loc.eqb_iff (a b:Loc):a.eqb b=true↔a=b:=by
 cases a<;>cases b<;>simp [Loc.eqb]
def Loc.code:Loc->Nat
 | .tmp t=>Nat.mul 5 t
 | .gen t=>Nat.succ (Nat.mul 5 t)
 | .knd t=>Nat.add (Nat.mul 5 t) 2
 | .cel t j=>Nat.add (Nat.mul 5 (Nat.add (Nat.mul 16 t) j)) 3
 | .ign t=>Nat.add (Nat.mul 5 t) 4
inductive Ct where
 | av (a:AV)
 | n (g:Nat)
 | kd (k:Kd)
def St:Type:=Loc->Ct
def upd (σ:St) (l:Loc) (c:Ct):St:=fun l'=>match l'.eqb l with | true=>c | false=>σ l'
theorem zfc (σ:St) (l:Loc) (c:Ct) (l':Loc):upd σ l c l'=if l'=l then c else σ l':=by
 unfold upd;by_cases h:l'=l
 ·rw [if_pos h,(Loc.eqb_iff l' l).2 h]
 ·rw [if_neg h];cases e:l'.eqb l with
  | true=>exact absurd ((Loc.eqb_iff l' l).1 e) h
  | false=>rfl
def app (σ:St):List (Loc×Ct)->St
 | []=>σ
 | (l,c)::wr=>app (upd σ l c) wr
def St.av (σ:St) (t:Nat):AV:=match σ (.tmp t) with | .av a=>a | _=>.im .any
def St.gn (σ:St) (o:Nat):Nat:=match σ (.gen o) with | .n g=>g | _=>0
def St.ig (σ:St) (o:Nat):Nat:=match σ (.ign o) with | .n g=>g | _=>0
def St.kd (σ:St) (o:Nat):Kd:=match σ (.knd o) with | .kd k=>k | _=>.dead
def St.ce (σ:St) (o i:Nat):AV:=match σ (.cel o i) with | .av a=>a | _=>.im .any
section
variable (σ:St)
theorem zex:app σ []=σ:=rfl
theorem zb2 (p:Loc×Ct) (wr:List (Loc×Ct)):app σ (p::wr)=app (upd σ p.1 p.2) wr:=rfl
theorem zsc (d t:Nat) (v:AV):(upd σ (.tmp d) (.av v)).av t=if t=d then v else σ.av t:=by
 unfold St.av;rw [zfc];by_cases h:t=d
 ·subst h;simp
 ·simp [h]
theorem av_gen (o t:Nat) (c:Ct):(upd σ (.gen o) c).av t=σ.av t:=by simp [St.av,zfc]
theorem av_ign (o t:Nat) (c:Ct):(upd σ (.ign o) c).av t=σ.av t:=by simp [St.av,zfc]
theorem ig_ign (o t g:Nat):(upd σ (.ign o) (.n g)).ig t=if t=o then g else σ.ig t:=by
 unfold St.ig;rw [zfc];by_cases h:t=o
 ·subst h;simp
 ·simp [h]
theorem ig_tmp (d t:Nat) (c:Ct):(upd σ (.tmp d) c).ig t=σ.ig t:=by simp [St.ig,zfc]
theorem ig_gen (d t:Nat) (c:Ct):(upd σ (.gen d) c).ig t=σ.ig t:=by simp [St.ig,zfc]
theorem zj2 (d t:Nat) (c:Ct):(upd σ (.knd d) c).ig t=σ.ig t:=by simp [St.ig,zfc]
theorem ig_cel (d i t:Nat) (c:Ct):(upd σ (.cel d i) c).ig t=σ.ig t:=by simp [St.ig,zfc]
theorem gn_ign (d t:Nat) (c:Ct):(upd σ (.ign d) c).gn t=σ.gn t:=by simp [St.gn,zfc]
theorem kd_ign (d t:Nat) (c:Ct):(upd σ (.ign d) c).kd t=σ.kd t:=by simp [St.kd,zfc]
theorem ce_ign (d p j:Nat) (c:Ct):(upd σ (.ign d) c).ce p j=σ.ce p j:=by simp [St.ce,zfc]
theorem ziz (o t:Nat) (c:Ct):(upd σ (.knd o) c).av t=σ.av t:=by simp [St.av,zfc]
theorem av_cel (o i t:Nat) (c:Ct):(upd σ (.cel o i) c).av t=σ.av t:=by simp [St.av,zfc]
theorem zui (o t g:Nat):(upd σ (.gen o) (.n g)).gn t=if t=o then g else σ.gn t:=by
 unfold St.gn;rw [zfc];by_cases h:t=o
 ·subst h;simp
 ·simp [h]
theorem gn_tmp (d t:Nat) (c:Ct):(upd σ (.tmp d) c).gn t=σ.gn t:=by simp [St.gn,zfc]
theorem zgi (d t:Nat) (c:Ct):(upd σ (.knd d) c).gn t=σ.gn t:=by simp [St.gn,zfc]
theorem gn_cel (d i t:Nat) (c:Ct):(upd σ (.cel d i) c).gn t=σ.gn t:=by simp [St.gn,zfc]
theorem zfm (o t:Nat) (k:Kd):(upd σ (.knd o) (.kd k)).kd t=if t=o then k else σ.kd t:=by
 unfold St.kd;rw [zfc];by_cases h:t=o
 ·subst h;simp
 ·simp [h]
theorem kd_tmp (d t:Nat) (c:Ct):(upd σ (.tmp d) c).kd t=σ.kd t:=by simp [St.kd,zfc]
theorem kd_gen (d t:Nat) (c:Ct):(upd σ (.gen d) c).kd t=σ.kd t:=by simp [St.kd,zfc]
theorem kd_cel (d i t:Nat) (c:Ct):(upd σ (.cel d i) c).kd t=σ.kd t:=by simp [St.kd,zfc]
theorem ce_cel (o i p j:Nat) (v:AV):(upd σ (.cel o i) (.av v)).ce p j=if p=o∧j=i then v else σ.ce p j:=by
 unfold St.ce;rw [zfc];by_cases h:p=o∧j=i
 ·obtain ⟨rfl,rfl⟩:=h;simp
 ·simp [h]
theorem ce_tmp (d p j:Nat) (c:Ct):(upd σ (.tmp d) c).ce p j=σ.ce p j:=by simp [St.ce,zfc]
theorem ce_gen (d p j:Nat) (c:Ct):(upd σ (.gen d) c).ce p j=σ.ce p j:=by simp [St.ce,zfc]
theorem zj3 (d p j:Nat) (c:Ct):(upd σ (.knd d) c).ce p j=σ.ce p j:=by simp [St.ce,zfc]
end
inductive RepI (w:World) (S:Nat->Prop):Value->IV->Prop
 | val (v:Value):RepI w S v (.val v)
 | ex (v:Value) (h1:v.oneCell'=true):RepI w S v (.ex v)
 | any (v:Value):RepI w S v .any
 | emp (A:Option Addr) (c:Nat):RepI w S (.slice A 0 c) (.sl [])
 | sl (b o c k n:Nat) (es:List (List IV)) (us:List Value) (hn:es.length=n) (hk:∀ e∈es,e.length=k) (hc:n<=c) (hs:n<=17592186044416) (hS:S b)
   (hl:us.length=es.flatten.length) (h1:∀ u∈us,u.oneCell'=true) (hu:∀ (i:Nat) u,us[i]?=some u->w.cell? ⟨b,o+i,none⟩=some u)
   (hr:∀ (i:Nat) u x,us[i]?=some u->es.flatten[i]?=some x->RepI w S u x):RepI w S (.slice (some ⟨b,o,none⟩) n c) (.sl es)
 | agg (us:List Value) (cs:List IV) (hl:us.length=cs.length) (h1:∀ u∈us,u.oneCell'=true) (hr:∀ (i:Nat) u x,us[i]?=some u->cs[i]?=some x->RepI w S u x):RepI w S (.agg us.toArray) (.agg cs)
 | ref (b o:Nat) (us:List Value) (cs:List IV) (hS:S b) (hl:us.length=cs.length) (h1:∀ u∈us,u.oneCell'=true) (hu:∀ (i:Nat) u,us[i]?=some u->w.cell? ⟨b,o+i,none⟩=some u)
   (hr:∀ (i:Nat) u x,us[i]?=some u->cs[i]?=some x->RepI w S u x):RepI w S (.pointer (some ⟨b,o,none⟩)) (.ref cs)
 | fn (f:FuncId) (us:List Value) (cs:List IV) (hl:us.length=cs.length) (hr:∀ (i:Nat) u x,us[i]?=some u->cs[i]?=some x->RepI w S u x):RepI w S (.func (.func f) #[] us.toArray) (.fn f cs)
 | nsl (a:Addr) (n c:Nat) (es:List (List IV)) (h:RepI w S (.slice (some a) n c) (.sl es)):RepI w S (.slice (some a) n c) (.nsl es)
structure Ly where
 root:Nat->Value
 inn:Nat->List Value
 ig:Nat->Nat
instance:CoeFun Ly (fun _=>Nat->Value):=⟨Ly.root⟩
inductive RepA (w:World) (S:Nat->Prop) (ρ:Ly) (γ:Nat->Nat):Value->AV->Prop
 | im (v:Value) (x:IV) (h:RepI w S v x):RepA w S ρ γ v (.im x)
 | own (v:Value) (o g i:Nat) (h1:v.oneCell'=true) (hg:g<=γ o) (h:γ o=g->∃ b,ρ o=.pointer (some ⟨b,0,none⟩)∧v=.pointer (some ⟨b,i,none⟩)):RepA w S ρ γ v (.own o g i)
 | osl (v:Value) (o g:Nat) (h1:v.oneCell'=true) (hg:g<=γ o) (h:γ o=g->v=ρ o):RepA w S ρ γ v (.osl o g)
 | elt (v:Value) (o g k i j:Nat) (h1:v.oneCell'=true) (hg:g<=γ o) (h:γ o=g->∃ b q n c,ρ o=.slice (some ⟨b,q,none⟩) n c∧v=.pointer (some ⟨b,q+(i*k+j),none⟩)):RepA w S ρ γ v (.elt o g k i j)
 | sub (v:Value) (o g i:Nat) (h1:v.oneCell'=true) (hg:g<=ρ.ig o) (h:ρ.ig o=g->(ρ.inn o)[i]?=some v):RepA w S ρ γ v (.sub o g i)
 | elt2 (v:Value) (o g i k j c:Nat) (h1:v.oneCell'=true) (hg:g<=ρ.ig o) (h:ρ.ig o=g->∃ b n cp,(ρ.inn o)[i]?=some (.slice (some ⟨b,0,none⟩) n cp)∧v=.pointer (some ⟨b,j*k+c,none⟩)):RepA w S ρ γ v (.elt2 o g i k j c)
 | osv (v:Value) (o g k m:Nat) (h1:v.oneCell'=true) (hg:g<=γ o) (h:γ o=g->∃ b n c,ρ o=.slice (some ⟨b,0,none⟩) n c∧k<=n∧v=.slice (if c=k then some ⟨b,0,none⟩ else some ⟨b,k*m,none⟩) (n-k) (c-k)):RepA w S ρ γ v (.osv o g k m)
 | full (A:Option Addr) (n:Nat) (es:List (List IV)) (h:RepI w S (.slice A n n) (.sl es)):RepA w S ρ γ (.slice A n n) (.full es)
 | fn (f:FuncId) (us:List Value) (cs:List AV) (hl:us.length=cs.length) (hr:∀ (i:Nat) u x,us[i]?=some u->cs[i]?=some x->RepA w S ρ γ u x):RepA w S ρ γ (.func (.func f) #[] us.toArray) (.fn f cs)
 | agg (us:List Value) (cs:List AV) (hl:us.length=cs.length) (h1:∀ u∈us,u.oneCell'=true) (hr:∀ (i:Nat) u x,us[i]?=some u->cs[i]?=some x->RepA w S ρ γ u x):RepA w S ρ γ (.agg us.toArray) (.agg cs)
 | tup (us:List Value) (cs:List AV) (hl:us.length=cs.length) (hr:∀ (i:Nat) u x,us[i]?=some u->cs[i]?=some x->RepA w S ρ γ u x):RepA w S ρ γ (.tuple us.toArray) (.tup cs)
structure Base where
 w0:World
 S0:Nat->Prop
 n:Nat
 G:Nat->Prop
 Z:Nat->Prop
 L:Nat->Option Value
 ds:List Deferred
def Mine (B:Base) (b:Nat):Prop:=B.w0.heap.size<=b∨B.G b
structure Belo (G:Nat->Prop) (n:Nat) (w w':World):Prop where
 os:w'.os=w.os
 tape:w'.tape=w.tape
 output:w'.output=w.output
 size:w.heap.size<=w'.heap.size
 block:∀ k,k<n->¬ G k->w'.heap[k]?=w.heap[k]?
theorem Belo.of {G:Nat->Prop} {n:Nat} {w w':World} (h:Below n w w'):Belo G n w w':=⟨h.os,h.tape,h.output,h.size,fun k hk _=>h.block k hk⟩
theorem Belo.below {G:Nat->Prop} {n:Nat} {w w':World} (h:Belo G n w w') (hG:∀ b,¬ G b):Below n w w':=⟨h.os,h.tape,h.output,h.size,fun k hk=>h.block k hk (hG k)⟩
theorem Belo.refl (G:Nat->Prop) (n:Nat) (w:World):Belo G n w w:=.of (Below.refl n w)
theorem Belo.trans {G:Nat->Prop} {n:Nat} {a b c:World} (h:Belo G n a b) (k:Belo G n b c):Belo G n a c :=
 ⟨k.os.trans h.os,k.tape.trans h.tape,k.output.trans h.output,yce h.size k.size,fun i hi hg=>(k.block i hi hg).trans (h.block i hi hg)⟩
def zbm:Value->Option Nat
 | .pointer (some a)=>some a.block
 | .slice (some a) _ _=>some a.block
 | .map (some b)=>some b
 | _=>none
def live (σ:St) (o:Nat):Prop:=σ.kd o≠.dead
def fpv (v:Value) (inn:List Value):List Nat:=(v::inn).filterMap zbm
def fpk (v:Value) (inn:List Value):Kd->List Nat
 | .dead=>[]
 | .grid _ _ _ _ _=>fpv v inn
 | .bag _ _ _ _ _=>fpv v inn
 | .mapI _ _=>fpv v inn
 | _=>(zbm v).toList
def Owns (σ:St) (ρ:Ly) (o b:Nat):Prop:=b∈fpk (ρ o) (ρ.inn o) (σ.kd o)
def Imm (B:Base) (σ:St) (ρ:Ly) (w:World) (b:Nat):Prop :=
 (B.S0 b∨Mine B b)∧b<w.heap.size∧(∀ o,¬ Owns σ ρ o b)∧¬ B.Z b
def zjs (w:World) (S:Nat->Prop) (v:Value) (e:TypeId) (k:Nat) (es:List (List IV)):Prop :=
 ∃ us:List Value,0<k∧(∀ x∈es,x.length=k)∧es.length<=17592186044416∧w.ownsRow 0 e k v es.length us∧us.length=es.flatten.length∧(∀ u∈us,u.oneCell'=true) ∧
  ∀ (i:Nat) u x,us[i]?=some u->es.flatten[i]?=some x->RepI w S u x
def zmu (w:World) (S:Nat->Prop) (v:Value) (e:TypeId) (k:Nat) (es:List (List IV)):Prop :=
 ∃ us:List Value,0<k∧(∀ x∈es,x.length=k)∧es.length<=17592186044416∧us.length=es.flatten.length∧(∀ u∈us,u.oneCell'=true) ∧
  (∀ (i:Nat) u x,us[i]?=some u->es.flatten[i]?=some x->RepI w S u x) ∧
  ((v=.slice none 0 0∧es=[])∨∃ (q off cap:Nat) (cur:Array Value),v=.slice (some ⟨q,off,none⟩) es.length cap∧w.heap[q]?=some (.cells cur e (0,0))∧es.length<=cap∧cap<=maxLen∧off+cap*k<=cur.size∧∀ (j:Nat) u,us[j]?=some u->cur[off+j]?=some u)
def zlj (w:World) (S:Nat->Prop) (v:Value) (inn:List Value) (e e':TypeId) (k:Nat) (gs:List (List IV)) (hole:Option Nat):Prop :=
 (fpv v inn).Nodup∧inn.length=gs.length∧∃ us:List Value,gs.length<=17592186044416∧w.ownsRow 0 e 1 v gs.length us∧(∀ u∈us,u.oneCell'=true) ∧
  ∀ (i:Nat) u,inn[i]?=some u->(hole=some i∧u=undef)∨(us[i]?=some u∧∃ es,gs[i]?=some [.sl es]∧zjs w S u e' k es)
def zrd (es:Array MapEntry) (clock:Nat):Prop:=(∀ x∈es.toList,x.born<clock)∧(es.toList.map (·.born)).Nodup
def zd9 (w:World) (S:Nat->Prop) (v:Value) (inn:List Value):Kd->Prop
 | .row e k es=>zjs w S v e k es
 | .que e k es=>zmu w S v e k es
 | .grid e e' k gs hole=>zlj w S v inn e e' k gs hole
 | .map l=>∃ (b clock:Nat) (es:Array MapEntry),v=.map (some b)∧w.heap[b]?=some (.map es clock)∧es.toList.map (fun e=>(e.key,e.val))=l∧zrd es clock
 | _=>False
abbrev pv (b:Nat):Value:=.pointer (some ⟨b,0,none⟩)
def EntOk (w:World) (S:Nat->Prop) (t e:TypeId) (k:Nat) (g:Nat×List IV×List (List IV)) (row:Value):Prop :=
 ∃ us:List Value,w.heap[g.1]?=some (.cells (us++[row]).toArray t (0,0))∧us.length=g.2.1.length∧(∀ u∈us,u.oneCell'=true) ∧
  (∀ (i:Nat) u x,us[i]?=some u->g.2.1[i]?=some x->RepI w S u x)∧zjs w S row e k g.2.2
def zsq (w:World) (S:Nat->Prop) (v:Value) (inn:List Value) (t e:TypeId) (k:Nat) (l:List (Nat×List IV×List (List IV))):Prop :=
 zbm v=none∧(fpv v inn).Nodup∧∃ rows:List Value,rows.length=l.length∧inn=(l.map fun g=>pv g.1)++rows∧∀ (i:Nat) g row,l[i]?=some g->rows[i]?=some row->EntOk w S t e k g row
def GoOk (w:World) (S:Nat->Prop) (v:Value) (inn:List Value) (left:List IV) (cur:Option IV):Prop :=
 ∃ (b r clock since c0:Nat) (es:Array MapEntry) (seen:Array Nat) (rd:MapEntry->IV),v=.map (some b)∧inn=[.pointer (some ⟨r,0,none⟩)]∧r≠b∧w.heap[b]?=some (.map es clock)∧w.heap[r]?=some (.mapIter (some b) since seen c0) ∧
  (∀ x∈es.toList,x.born<since)∧since<=c0∧since<=clock∧(es.toList.map (·.born)).Nodup∧(∀ x∈es.toList,RepI w S x.val (rd x))∧left=(es.toList.filter fun x=>!seen.contains x.born).map rd ∧
  ∀ y,cur=some y->c0=clock∧∃ (s0:Array Nat) (e:MapEntry),seen=s0.push e.born∧e∈es.toList∧rd e=y
def zne (B:Base) (σ:St) (ρ:Ly) (w:World) (o:Nat):Kd->Prop
 | .dead=>True
 | .box t m=>∃ (b:Nat) (us:List Value),ρ o=.pointer (some ⟨b,0,none⟩)∧w.heap[b]?=some (.cells us.toArray t (0,0))∧us.length=m∧(∀ u∈us,u.oneCell'=true) ∧
   ∀ (i:Nat) u,us[i]?=some u->RepA w (Imm B σ ρ w) ρ σ.gn u (σ.ce o i)
 | .bag t e k l hole=>zsq w (Imm B σ ρ w) (ρ o) (ρ.inn o) t e k l∧∀ p,hole=some p->RepA w (Imm B σ ρ w) ρ σ.gn (pv p) (σ.ce o 0)
 | .mapI left cur=>GoOk w (Imm B σ ρ w) (ρ o) (ρ.inn o) left cur
 | k=>zd9 w (Imm B σ ρ w) (ρ o) (ρ.inn o) k
structure SatR (B:Base) (σ:St) (a:Act) (w:World) (ρ:Ly):Prop where
 bel:Belo B.G B.w0.heap.size B.w0 w
 obs:∀ o,zne B σ ρ w o (σ.kd o)
 own:∀ o b,Owns σ ρ o b->Mine B b∧b<w.heap.size
 dis:∀ o p b,Owns σ ρ o b->Owns σ ρ p b->o=p
 tms:∀ t,RepA w (Imm B σ ρ w) ρ σ.gn (a.tmps.getD t undef) (σ.av t)
 igs:∀ o,ρ.ig o=σ.ig o
 res:∀ b,B.Z b->(Mine B b∧b<w.heap.size)∧∀ o,¬ Owns σ ρ o b
 rt:∀ o v,B.L o=some v->σ.gn o=0->ρ o=v
 siz:a.tmps.size=B.n
 dfr:a.defers=B.ds
def Sat (B:Base) (σ:St) (a:Act) (w:World):Prop:=∃ ρ,SatR B σ a w ρ
def Ent (σ σ':St):Prop:=∀ B a w,Sat B σ a w->Sat B σ' a w
def Holds (σ:St) (φ:Prop):Prop:=∀ B a w,Sat B σ a w->φ
def zto (body:(Exit->St->Prop)->St->Prop) (K:Exit->St->Prop) (σ:St):Prop :=
 ∃ (I:Nat->St->Prop) (m:Nat),I m σ∧∀ m σ,I m σ->∃ σ1 φ,Ent σ σ1∧Holds σ1 φ∧(φ->body (fun e σ'=>match e with | .normal=>∃ m',m'<m∧I m' σ' | e=>K e σ') σ1)
structure Fx where
 rd:List Loc
 wr:List (Loc×Ct)
abbrev vI (n:Int):AV:=.im (.val (.int .i64 n))
abbrev vB (b:Bool):AV:=.im (.val (.bool b))
def splice {α:Type} (e:List α) (j:Nat) (xs:List α):List α:=e.take j++xs++e.drop (j+xs.length)
def Side (A B:Prop):Prop:=A∧B
def Both (b:Bool) (A B:Prop):Prop:=(b=true->A)∧(b=false->B)
def Chk (b:Bool) (A:Prop):Prop:=match b with | true=>A | false=>False
def Nf {α:Type} (a:α) (F:α->Prop):Prop:=∃ b,b=a∧F b
def Cut (body:(St->Prop)->Prop) (rest:St->Prop):Prop:=∃ Post:St->Prop,body (fun σ'=>∃ σ1,Ent σ' σ1∧Post σ1)∧∀ σ,Post σ->∃ φ,Holds σ φ∧(φ->rest σ)
theorem Nf.mk {α:Type} {a:α} {F:α->Prop} (b:α) (h:b=a) (k:F b):Nf a F:=⟨b,h,k⟩
theorem Side.mk {A B:Prop} (a:A) (b:B):Side A B:=⟨a,b⟩
theorem Both.mk {b:Bool} {A B:Prop} (h:b=true->A) (k:b=false->B):Both b A B:=⟨h,k⟩
theorem Both.yes {b:Bool} {A B:Prop} (e:b=true) (h:A):Both b A B:=⟨fun _=>h,fun e'=>absurd (e.symm.trans e') (by decide)⟩
theorem Both.no {b:Bool} {A B:Prop} (e:b=false) (h:B):Both b A B:=⟨fun e'=>absurd (e.symm.trans e') (by decide),fun _=>h⟩
theorem Chk.ok {b:Bool} {A:Prop} (h:Chk b A):b=true∧A:=by
 cases b with
 | true=>exact ⟨rfl,h⟩
 | false=>exact False.elim h
def opd:Operand->List Loc
 | .tmp t=>[.tmp t]
 | _=>[]
def evA (σ:St):Operand->AV
 | .tmp t=>σ.av t
 | .const v=>.im (.val v)
 | .func f=>.im (.fn f [])
 | .global _=>.im .any
def wrT:Option Tmp->AV->List (Loc×Ct)
 | some d,v=>[(.tmp d,.av v)]
 | none,_=>[]
def toIVs:List AV->Option (List IV)
 | []=>some []
 | .im x::l=>(toIVs l).map (x::·)
 | _::_=>none
def aggA (cs:List AV):AV:=match toIVs cs with | some l=>.im (.agg l) | none=>.agg cs
def zpb:AV->Option (List AV)
 | .im (.agg cs)=>some (cs.map .im)
 | .im (.val v)=>if v.cells.toList.all (·.oneCell')=true then some (v.cells.toList.map fun u=>.im (.val u)) else none
 | .agg cs=>some cs
 | .im .any=>none
 | .tup _=>none
 | v=>some [v]
def aggCs:AV->Option (List AV)
 | .im (.agg cs)=>some (cs.map .im)
 | .im (.val (.agg vs))=>if vs.toList.all (·.oneCell')=true then some (vs.toList.map fun u=>.im (.val u)) else none
 | .agg cs=>some cs
 | _=>none
def szOf (P:Program) (t:TypeId):Option Nat:=(P.info? t).map (·.size)
def zp2 (P:Program) (t:TypeId):Option Bool:=(P.underlying t).map fun d=>match d with | .struct _ | .array ..=>true | _=>false
def fldOf (P:Program) (t:TypeId) (f:Nat):Option (Nat×TypeId):=match P.underlying t with | some (.struct fs)=>(fs[f]?).map fun x=>(x.offset,x.type) | _=>none
def zhs (P:Program) (t:TypeId):Option TypeId:=match P.underlying t with | some (.slice e)=>some e | _=>none
def zeroOf (P:Program) (t:TypeId):Option (List Value):=match P.info? t with | some i=>i.zero.map fun z=>z.cells.toList | _=>none
def arrOf (P:Program) (t:TypeId):Option (Nat×TypeId):=match P.underlying t with | some (.array n e)=>some (n,e) | _=>none
def ztl (P:Program) (t:TypeId):Option (TypeId×TypeId):=match P.underlying t with
 | some (.map k e)=>some (k,e)
 | _=>none
def intArr (P:Program) (t:TypeId):Option Nat:=match arrOf P t with
 | some (n,e)=>match P.underlying e,szOf P e with
  | some (.int .i64),some 1=>some n
  | _,_=>none
 | none=>none
def byteOf (P:Program) (t:TypeId):Option Nat:=(P.info? t).map (·.bytes)
def inR (n:Int):Prop:=-9223372036854775808<=n∧n<=9223372036854775807
inductive Oc where
 | im (x:IV)
 | ow (k:Kd)
inductive Arg where
 | im (x:IV)
 | ow (k:Kd)
 | box (t:TypeId) (cs:List Oc)
 | lent (k:Kd)
instance:Coe IV Arg:=⟨.im⟩
@[match_pattern] abbrev Arg.row (e:TypeId) (k:Nat) (es:List (List IV)):Arg:=.ow (.row e k es)
inductive Rs where
 | mk (tp:Bool) (l:List Oc) (ys:List Arg)
abbrev Rs.im (x:IV):Rs:=.mk false [.im x] []
abbrev Rs.row (e:TypeId) (k:Nat) (es:List (List IV)):Rs:=.mk false [.ow (.row e k es)] []
abbrev Rs.tup (l:List IV):Rs:=.mk true (l.map .im) []
def zuc:Oc->Prop
 | .im x=>(∃ v,x=.val v)∨∃ cs,x=.agg cs∧∀ c∈cs,∃ v,c=.val v
 | .ow (.row _ _ es)=>∀ e∈es,∀ x∈e,∃ v,x=.val v
 | .ow (.map _)=>True
 | _=>False
def flatArg:Arg->Prop
 | .box _ cs=>∀ c∈cs,zuc c
 | .lent k=>zuc (.ow k)
 | _=>False
def flatRs:Rs->Prop
 | .mk _ l ys=>(∀ c∈l,zuc c)∧∀ y∈ys,flatArg y
def zez (σ:St) (o:Nat) (k:Kd):List (Loc×Ct):=[(.gen o,.n (σ.gn o+1)),(.knd o,.kd k)]
def zhi (σ:St) (o:Nat) (k:Kd):List (Loc×Ct):=match k with
 | .grid _ _ _ _ _=>(.ign o,.n (σ.ig o+1))::zez σ o k
 | _=>zez σ o k
def nmB (i j:Nat):Nat:=Nat.add (Nat.add 2000 (Nat.mul 64 i)) j
def nmC (i j:Nat):Nat:=Nat.add (Nat.add 5000 (Nat.mul 64 i)) j
def nmR (d i:Nat):Nat:=Nat.add (Nat.add 3100 (Nat.mul 4 d)) i
def ocPl (σ:St) (nm:Nat):Oc->AV×List (Nat×Kd)
 | .im x=>(.im x,[])
 | .ow k=>(.osl nm (σ.gn nm+1),[(nm,k)])
def zcj (σ:St) (f:Nat->Nat):Nat->List Oc->List AV×List (Nat×Kd)
 | _,[]=>([],[])
 | i,c::l=>match ocPl σ (f i) c,zcj σ f (i+1) l with | (a,s),(al,ss)=>(a::al,s++ss)
def zdz (σ:St):List (Nat×Kd)->List (Loc×Ct)
 | []=>[]
 | p::l=>zhi σ p.1 p.2++zdz σ l
def znf:List (Nat×Kd)->List Loc
 | []=>[]
 | p::l=>.gen p.1::.ign p.1::znf l
def nz1:IV->IV
 | .val (.slice none 0 0)=>.sl []
 | .val (.map none)=>.any
 | .nsl es=>.sl es
 | x=>x
def nz:IV->IV
 | .agg cs=>.agg (cs.map nz1)
 | .val (.agg vs)=>if vs.toList.all (·.oneCell')=true then .agg (vs.toList.map fun v=>nz1 (.val v)) else .any
 | x=>nz1 x
def mkZ (own:List Nat) (d:Nat) (v:Value):IV:=match own.contains (9700000+d) with
 | true=>.val v
 | false=>nz1 (.val v)
def rowAt (gs:List (List IV)) (i:Nat):List (List IV):=match gs[i]? with
 | some [.sl es]=>es
 | _=>[]
def fz1 (σ:St):AV->Option (IV×yad)
 | .im x=>some (nz1 x,[])
 | .osl b g=>match σ.kd b with | .row _ _ es=>some (.sl es,[(b,g)]) | .grid _ _ _ gs none=>some (.sl gs,[(b,g)]) | .map _=>some (.any,[(b,g)]) | _=>none
 | .sub b g i=>match σ.kd b,Nat.beq (σ.ig b) g with
  | .grid _ _ _ gs none,true=>some (.sl (rowAt gs i),[(b,σ.gn b)])
  | _,_=>none
 | _=>none
def fzL (σ:St):List AV->Option (List IV×yad)
 | []=>some ([],[])
 | a::l=>match fz1 σ a,fzL σ l with | some (x,b),some (xs,bs)=>some (x::xs,b++bs) | _,_=>none
def zln (σ:St) (b:Nat):Nat:=match σ.kd b with | .box _ m=>m | _=>0
def zqa (σ:St) (b:Nat):List AV:=(List.range (zln σ b)).map fun i=>σ.ce b i
def fz2 (σ:St):AV->Option (IV×yad)
 | .im x=>some (nz x,[])
 | .agg cs=>(fzL σ cs).map fun p=>(.agg p.1,p.2)
 | .own b g i=>match σ.kd b with | .box _ _=>(fzL σ (zqa σ b)).map fun p=>(.ref (p.1.drop i),(b,g)::p.2) | _=>none
 | a=>fz1 σ a
def fzM (σ:St):List AV->Option (List IV×yad)
 | []=>some ([],[])
 | a::l=>match fz2 σ a,fzM σ l with | some (x,b),some (xs,bs)=>some (x::xs,b++bs) | _,_=>none
def fz (σ:St):AV->Option (IV×yad)
 | .fn f caps=>(fzM σ caps).map fun p=>(.fn f p.1,p.2)
 | a=>fz2 σ a
def boxRd (σ:St) (b:Nat):List Loc:=(List.range (zln σ b)).map fun i=>.cel b i
def frd (σ:St) (bs:yad):List Loc:=bs.flatMap fun b=>.gen b.1::.knd b.1::.ign b.1::boxRd σ b.1
def fwr (bs:yad):List (Loc×Ct):=bs.map fun b=>(.knd b.1,.kd .dead)
def gok (σ:St):yad->Prop
 | []=>True
 | (b,g)::bs=>σ.gn b=g∧gok σ bs
def zm1 (σ:St) (bs:yad) (A:Prop):Prop:=match bs with | []=>A | _::_=>Side (gok σ bs) A
def asInt:AV->Option (IntKind×Int)
 | .im (.val (.int k n))=>some (k,n)
 | _=>none
def asBool:AV->Option Bool
 | .im (.val (.bool b))=>some b
 | _=>none
def asStr:AV->Option ByteArray
 | .im (.val (.string s))=>some s
 | _=>none
def rng:IntKind->Int->Prop
 | .i64,n=>inR n
 | .u8,n=>0<=n∧n<=255
 | .u64,n=>0<=n∧n<=18446744073709551615
 | _,_=>False
def zav (k:IntKind) (n:Int) (F:Int->Prop):Prop:=(rng k n∧F n)∨F (k.wrap n)
theorem zav.mk {k:IntKind} {n:Int} {F:Int->Prop} (h:rng k n) (f:F n):zav k n F:=.inl ⟨h,f⟩
def xorK (k:IntKind) (a b:Int):Int:=k.wrap (BitVec.ofInt k.bits a ^^^ BitVec.ofInt k.bits b).toNat
def za2 (n bytes:Nat):Prop:=n*bytes<=140737488355328∧n<=17592186044416
section
variable (P:Program) (own:List Nat) (o:Oper) (σ:St) (K:Fx->Prop)
def aPick (c a b:Operand):Prop :=
 match asBool (evA σ c) with
 | some t=>Both t (K ⟨opd c++opd a++opd b,wrT o.dst (evA σ a)⟩) (K ⟨opd c++opd a++opd b,wrT o.dst (evA σ b)⟩)
 | none=>False
def aLoad (t:TypeId) (p:Operand):Prop :=
 match zp2 P t with
 | some false=>match evA σ p with
  | .im (.ref (c::_))=>K ⟨opd p,wrT o.dst (.im c)⟩
  | .own b g i=>Chk (Nat.blt i (zln σ b)) (Side (σ.gn b=g) (K ⟨opd p++[.gen b,.knd b,.cel b i],wrT o.dst (σ.ce b i)⟩))
  | .elt b g k i j=>match esOf (σ.kd b) with
   | some es=>∃ e c,(σ.gn b=g∧es[i]?=some e∧e[j]?=some c∧e.length=k)∧K ⟨opd p++[.gen b,.knd b],wrT o.dst (.im c)⟩
   | _=>False
  | _=>False
 | some true=>match szOf P t with
  | some m=>match evA σ p with
   | .im (.ref cs)=>Chk (Nat.ble m cs.length) (K ⟨opd p,wrT o.dst (.im (.agg (cs.take m)))⟩)
   | .own b g i=>Chk (Nat.blt 0 m&&Nat.ble (i+m) (zln σ b)) (Side (σ.gn b=g) (K ⟨opd p++[.gen b,.knd b]++(List.range m).map (fun j=>.cel b (i+j)),wrT o.dst (aggA ((List.range m).map fun j=>σ.ce b (i+j)))⟩))
   | .elt b g k i j=>match esOf (σ.kd b) with
    | some es=>∃ e,(σ.gn b=g∧es[i]?=some e∧j+m<=e.length∧e.length=k)∧K ⟨opd p++[.gen b,.knd b],wrT o.dst (.im (.agg ((e.drop j).take m)))⟩
    | _=>False
   | _=>False
  | none=>False
 | none=>False
def zg6 (b:Nat):Nat->List AV->List (Loc×Ct)
 | _,[]=>[]
 | i,c::cs=>(.cel b i,.av c)::zg6 b (i+1) cs
def aStore (t:TypeId) (p x:Operand):Prop :=
 match szOf P t,zpb (evA σ x) with
 | some m,some cs=>Chk (Nat.beq cs.length m) (match evA σ p with
  | .own b g i=>Chk (Nat.blt 0 m&&Nat.ble (i+m) (zln σ b)) (Side (σ.gn b=g) (K ⟨opd p++opd x++[.gen b,.knd b],zg6 b i cs++wrT o.dst (.im (.val undef))⟩))
  | _=>False)
 | _,_=>False
def aBox (t:TypeId) (x:Operand):Prop :=
 match o.dst,zpb (evA σ x) with
 | some d,some cs=>match own.contains (700000+d) with
  | true=>match fzL σ cs with
   | some (xs,bs)=>zm1 σ bs (K ⟨opd x++frd σ bs,fwr bs++[(.tmp d,.av (.im (.ref xs)))]⟩)
   | none=>False
  | false=>K ⟨opd x++[.gen d],zez σ d (.box t cs.length)++zg6 d 0 cs++[(.tmp d,.av (.own d (σ.gn d+1) 0))]⟩
 | _,_=>False
def aAlloc (t:TypeId):Prop :=
 match o.dst,zeroOf P t with
 | some d,some cs=>Chk (cs.all (·.oneCell')) (K ⟨[.gen d],zez σ d (.box t cs.length)++zg6 d 0 (cs.map fun v=>.im (.val v))++[(.tmp d,.av (.own d (σ.gn d+1) 0))]⟩)
 | _,_=>False
def aAllocA (t:TypeId):Prop :=
 match o.dst,zeroOf P t with
 | some d,some cs=>Chk (cs.all (·.oneCell')&&Nat.blt 0 cs.length&&Nat.ble cs.length 17592186044416)
   (Nf (cs.map fun v=>[nz1 (.val v)]) fun r=>K ⟨[.gen d],zez σ d (.row t 1 r)++[(.tmp d,.av (.elt d (σ.gn d+1) 1 0 0))]⟩)
 | _,_=>False
def aAllocs (t:TypeId):Prop:=match intArr P t with
 | some n=>match Nat.ble n 4 with
  | true=>aAlloc P o σ K t
  | false=>aAllocA P o σ K t
 | none=>aAlloc P o σ K t
def zq6 (t:TypeId) (p:Operand) (f:Nat):Prop :=
 match fldOf P t f with
 | some (off,ft)=>match szOf P ft with
  | some m=>Chk (Nat.blt 0 m) (match evA σ p with
   | .im (.ref cs)=>K ⟨opd p,wrT o.dst (.im (.ref (cs.drop off)))⟩
   | .own b g i=>Side (σ.gn b=g) (K ⟨opd p++[.gen b],wrT o.dst (.own b g (i+off))⟩)
   | .elt b g k i j=>Side (σ.gn b=g) (K ⟨opd p++[.gen b],wrT o.dst (.elt b g k i (j+off))⟩)
   | _=>False)
  | none=>False
 | none=>False
def aField (t:TypeId) (x:Operand) (f:Nat):Prop :=
 match fldOf P t f with
 | some (off,ft)=>match aggCs (evA σ x) with
  | some cs=>match zp2 P ft with
   | some false=>match cs[off]? with
    | some c=>K ⟨opd x,wrT o.dst c⟩
    | none=>False
   | some true=>match szOf P ft with
    | some m=>Chk (Nat.ble (off+m) cs.length) (K ⟨opd x,wrT o.dst (aggA ((cs.drop off).take m))⟩)
    | none=>False
   | none=>False
  | none=>False
 | none=>False
def zou (t:TypeId) (x i:Operand):Prop :=
 match asInt (evA σ i),zhs P t with
 | some (_,n),some et=>match evA σ x with
  | .im (.sl es)=>∃ e,(0<=n∧es[n.toNat]?=some e∧szOf P et=some e.length)∧K ⟨opd x++opd i,wrT o.dst (.im (.ref e))⟩
  | .osl b g=>match esOf (σ.kd b) with
   | some es=>match szOf P et with
    | some k=>Side (0<=n∧σ.gn b=g∧n.toNat<es.length) (K ⟨opd x++opd i++[.gen b,.knd b],wrT o.dst (.elt b g k n.toNat 0)⟩)
    | none=>False
   | _=>False
  | _=>False
 | _,_=>False
def optI (σ:St) (d:Int):Option Operand->Option Int
 | none=>some d
 | some x=>(asInt (evA σ x)).map (·.2)
def aSlice (t:TypeId) (x:Operand) (lo hi:Option Operand):Prop :=
 match zhs P t with
 | some et=>match szOf P et with
  | some k=>match nz (match evA σ x with | .im y=>y | _=>.any) with
   | .sl es=>match optI σ 0 lo,optI σ es.length hi with
    | some l,some h=>Side (0<=l∧l<=h∧h<=es.length∧∀ e∈es,e.length=k) (Nf ((es.take h.toNat).drop l.toNat) fun r=>K ⟨opd x++(lo.map opd).getD []++(hi.map opd).getD [],wrT o.dst (.im (.sl r))⟩)
    | _,_=>False
   | _=>False
  | none=>False
 | none=>False
def aSlice3 (t:TypeId) (x:Operand) (lo hi:Option Operand) (mx:Operand):Prop :=
 match lo,hi,zhs P t with
 | none,some hi,some et=>match szOf P et,nz (match evA σ x with | .im y=>y | _=>.any),asInt (evA σ hi),asInt (evA σ mx) with
  | some k,.sl es,some (_,h),some (_,m)=>Side (0<=h∧h<=es.length∧m=h∧∀ e∈es,e.length=k) (Nf (es.take h.toNat) fun r=>K ⟨opd x++opd hi++opd mx,wrT o.dst (.full r)⟩)
  | _,_,_,_=>False
 | _,_,_=>False
def aSliceV (t:TypeId) (x:Operand) (b g:Nat) (lo:Operand):Prop :=
 match zhs P t,asInt (evA σ lo),σ.kd b with
 | some et,some (_,l),.row _ k es=>match szOf P et with
  | some k'=>Chk (Nat.beq k k') (Side (σ.gn b=g∧0<=l∧l.toNat<=es.length∧0<es.length) (K ⟨opd x++opd lo++[.gen b,.knd b],wrT o.dst (.osv b g l.toNat k)⟩))
  | none=>False
 | _,_,_=>False
def aSliceT (t:TypeId) (x:Operand) (b g:Nat) (hi:Operand):Prop :=
 match zhs P t,asInt (evA σ hi),σ.kd b,o.dst with
 | some et,some (_,l),.row et' k es,some d=>match szOf P et with
  | some k'=>Chk (Nat.beq k k') (Side (σ.gn b=g∧0<=l∧l.toNat<=es.length∧0<es.length)
   (Nf (es.take l.toNat) fun r=>K ⟨opd x++opd hi++[.gen b,.knd b],(.knd b,.kd .dead)::(zez σ b (.row et' k r)++[(.tmp d,.av (.osl b (σ.gn b+1)))])⟩))
  | none=>False
 | _,_,_,_=>False
def aLenV (x:Operand) (b g k:Nat):Prop :=
 match σ.kd b with
 | .row _ _ es=>Side (σ.gn b=g) (Nf (es.length-k) fun n=>K ⟨opd x++[.gen b,.knd b],wrT o.dst (vI n)⟩)
 | _=>False
def aIndexV (t:TypeId) (x i:Operand) (b g k m:Nat):Prop :=
 match asInt (evA σ i),zhs P t,σ.kd b with
 | some (_,n),some et,.row _ _ es=>match szOf P et with
  | some m'=>Chk (Nat.beq m m') (Side (0<=n∧σ.gn b=g∧k+n.toNat<es.length) (Nf (k+n.toNat) fun j=>K ⟨opd x++opd i++[.gen b,.knd b],wrT o.dst (.elt b g m j 0)⟩))
  | none=>False
 | _,_,_=>False
def aClear (t:TypeId) (x:Operand):Prop :=
 match zhs P t,evA σ x with
 | some et,.osv b g k m=>match σ.kd b,szOf P et,zeroOf P et with
  | .row et' k' es,some m',some z=>Chk (Nat.beq m m'&&Nat.beq k' m'&&Nat.blt 0 m'&&Nat.beq z.length m'&&z.all (·.oneCell')) (Side (σ.gn b=g∧k<=es.length)
   (Nf (es.take k++List.replicate (es.length-k) (z.map fun v=>nz1 (.val v))) fun r=>K ⟨opd x++[.gen b,.knd b],(.knd b,.kd (.row et' k' r))::wrT o.dst (.im .any)⟩))
  | _,_,_=>False
 | _,_=>False
def aCopy (t:TypeId) (x y:Operand):Prop :=
 match zhs P t,evA σ x with
 | some et,.osl b g=>match σ.kd b,szOf P et,nz (match evA σ y with | .im y=>y | _=>.any) with
  | .row et' k es,some m,.sl ss=>Chk (Nat.beq k m) (Side (σ.gn b=g∧0<es.length∧0<ss.length∧∀ e∈ss,e.length=k)
   (Nf (ss.take es.length++es.drop ss.length) fun r=>K ⟨opd x++opd y++[.gen b,.knd b],(.knd b,.kd (.row et' k r))::wrT o.dst (.im .any)⟩))
  | _,_,_=>False
 | _,_=>False
def aIndexG (t:TypeId) (x i:Operand) (b g:Nat):Prop :=
 match asInt (evA σ i),zhs P t,σ.kd b with
 | some (_,n),some et,.grid _ _ _ gs _=>match szOf P et with
  | some k=>Chk (Nat.beq k 1) (Side (0<=n∧σ.gn b=g∧n.toNat<gs.length) (K ⟨opd x++opd i++[.gen b,.knd b],wrT o.dst (.elt b g 1 n.toNat 0)⟩))
  | none=>False
 | _,_,_=>False
def aIndexS (t:TypeId) (x i:Operand) (b g j:Nat):Prop :=
 match asInt (evA σ i),zhs P t,σ.kd b with
 | some (_,n),some et,.grid _ _ k gs none=>match szOf P et with
  | some k'=>Chk (Nat.beq k' k) (∃ es,(0<=n∧σ.ig b=g∧gs[j]?=some [.sl es]∧n.toNat<es.length)∧K ⟨opd x++opd i++[.ign b,.knd b],wrT o.dst (.elt2 b g j k n.toNat 0)⟩)
  | none=>False
 | _,_,_=>False
def aLoadG (t:TypeId) (p:Operand) (b g k i j:Nat):Prop :=
 match zp2 P t,σ.kd b with
 | some false,.grid _ _ _ gs none=>Chk (Nat.beq k 1&&Nat.beq j 0) (Side (σ.gn b=g∧i<gs.length) (K ⟨opd p++[.gen b,.knd b]++[.ign b],wrT o.dst (.sub b (σ.ig b) i)⟩))
 | _,_=>False
def aLoadS (t:TypeId) (p:Operand) (b g i k j c:Nat):Prop :=
 match zp2 P t,σ.kd b with
 | some false,.grid _ _ k' gs none=>Chk (Nat.beq k' k) (∃ es e x,(σ.ig b=g∧gs[i]?=some [.sl es]∧es[j]?=some e∧e[c]?=some x)∧K ⟨opd p++[.ign b,.knd b],wrT o.dst (.im x)⟩)
 | _,_=>False
def aStoreS (t:TypeId) (p x:Operand) (b g i k j c:Nat):Prop :=
 match szOf P t,zpb (evA σ x),σ.kd b with
 | some m,some cs,.grid e e' k' gs none=>match fzL σ cs with
  | some (xs,[])=>Chk (Nat.beq cs.length m&&Nat.blt 0 m&&Nat.ble (c+m) k&&Nat.beq k' k) (∃ es el,(σ.ig b=g∧gs[i]?=some [.sl es]∧es[j]?=some el)∧Nf (gs.set i [.sl (es.set j (splice el c xs))]) fun r=>K ⟨opd p++opd x++[.ign b,.knd b],(.knd b,.kd (.grid e e' k' r none))::wrT o.dst (.im (.val undef))⟩)
  | _=>False
 | _,_,_=>False
def holeOk (hole:Option Nat) (i:Nat):Prop:=match hole with | none=>True | some h=>h=i
def aStoreG (t:TypeId) (p x:Operand) (b g k i j:Nat):Prop :=
 match szOf P t,evA σ x,σ.kd b with
 | some m,.osl r gr,.grid e e' k' gs hole=>match σ.kd r with
  | .row e2 k2 es=>Chk (Nat.beq m 1&&Nat.beq k 1&&Nat.beq j 0&&Nat.beq e2 e'&&Nat.beq k2 k'&&!Nat.beq r b) (Side (σ.gn b=g∧σ.gn r=gr∧i<gs.length∧holeOk hole i)
    (Nf (gs.set i [.sl es]) fun rr=>K ⟨opd p++opd x++[.gen b,.knd b]++[.ign b,.gen r,.knd r],(.knd r,.kd .dead)::(.ign b,.n (σ.ig b+1))::(.knd b,.kd (.grid e e' k' rr none))::wrT o.dst (.im (.val undef))⟩))
  | _=>False
 | _,_,_=>False
def aLenG (x:Operand) (b g:Nat):Prop :=
 match σ.kd b with
 | .grid _ _ _ gs none=>Side (σ.gn b=g) (Nf gs.length fun n=>K ⟨opd x++[.gen b,.knd b],wrT o.dst (vI n)⟩)
 | _=>False
def aLenS (x:Operand) (b g i:Nat):Prop :=
 match σ.kd b with
 | .grid _ _ _ gs none=>∃ es,(σ.ig b=g∧gs[i]?=some [.sl es])∧Nf es.length fun n=>K ⟨opd x++[.ign b,.knd b],wrT o.dst (vI n)⟩
 | _=>False
def aIndexA (n:Nat) (et:TypeId) (x i:Operand):Prop :=
 match asInt (evA σ i),szOf P et with
 | some (_,j),some m=>match evA σ x with
  | .elt b g k p q=>match Nat.beq k 1&&Nat.beq p 0&&Nat.beq q 0&&Nat.beq m 1 with
   | true=>Side (0<=j∧j<n∧σ.gn b=g) (K ⟨opd x++opd i++[.gen b],wrT o.dst (.elt b g 1 j.toNat 0)⟩)
   | false=>Side (0<=j∧j<n∧σ.gn b=g) (K ⟨opd x++opd i++[.gen b],wrT o.dst (.elt b g k p (q+j.toNat*m))⟩)
  | .im (.ref cs)=>Side (0<=j∧j<n) (K ⟨opd x++opd i,wrT o.dst (.im (.ref (cs.drop (j.toNat*m))))⟩)
  | .own b g p=>Side (0<=j∧j<n∧σ.gn b=g) (K ⟨opd x++opd i++[.gen b],wrT o.dst (.own b g (p+j.toNat*m))⟩)
  | _=>False
 | _,_=>False
def aLoadA (t:TypeId) (p:Operand) (b g k i j:Nat):Prop :=
 match σ.kd b,szOf P t with
 | .row _ k' es,some m=>Chk (Nat.beq k' 1&&Nat.beq k 1&&Nat.beq i 0&&Nat.beq j 0) (Side (σ.gn b=g∧es.length=m) (Nf es.flatten fun r=>K ⟨opd p++[.gen b,.knd b],wrT o.dst (.im (.agg r))⟩))
 | _,_=>False
def wholeA (P:Program) (t:TypeId) (k:Nat):Bool:=match intArr P t with
 | some n=>Nat.beq k 1&&Nat.blt 1 n
 | none=>false
def aLenM (x:Operand) (b g:Nat) (l:List (Value×Value)):Prop:=Side (σ.gn b=g) (Nf l.length fun n=>K ⟨opd x++[.gen b,.knd b],wrT o.dst (vI n)⟩)
def zr6:Kd->Bool
 | .grid _ _ _ _ _=>true
 | _=>false
def aSliceQ (t:TypeId) (x:Operand) (b g:Nat) (lo:Operand):Prop :=
 match zhs P t,asInt (evA σ lo),σ.kd b,o.dst with
 | some et,some (_,l),.que et' k es,some d=>match szOf P et with
  | some k'=>Chk (Nat.beq k k') (Side (σ.gn b=g∧0<=l∧l.toNat<=es.length)
   (Nf (es.drop l.toNat) fun r=>K ⟨opd x++opd lo++[.gen b,.knd b],(.knd b,.kd .dead)::(zez σ b (.que et' k r)++[(.tmp d,.av (.osl b (σ.gn b+1)))])⟩))
  | none=>False
 | _,_,_,_=>False
def aSlices (t:TypeId) (x:Operand) (lo hi:Option Operand):Prop :=
 match evA σ x with
 | .osl b g=>match lo,hi with
  | some l,none=>match isQue (σ.kd b) with
   | true=>aSliceQ P o σ K t x b g l
   | false=>aSliceV P o σ K t x b g l
  | none,some h=>aSliceT P o σ K t x b g h
  | _,_=>False
 | _=>aSlice P o σ K t x lo hi
def aIndexes (t:TypeId) (x i:Operand):Prop :=
 match evA σ x with
 | .osv b g k m=>aIndexV P o σ K t x i b g k m
 | .sub b g j=>aIndexS P o σ K t x i b g j
 | .osl b g=>match zr6 (σ.kd b) with
  | true=>aIndexG P o σ K t x i b g
  | false=>zou P o σ K t x i
 | _=>match arrOf P t with
  | some (n,et)=>aIndexA P o σ K n et x i
  | none=>zou P o σ K t x i
def aLoads (t:TypeId) (p:Operand):Prop :=
 match evA σ p with
 | .elt2 b g i k j c=>aLoadS P o σ K t p b g i k j c
 | .elt b g k i j=>match zr6 (σ.kd b) with
  | true=>aLoadG P o σ K t p b g k i j
  | false=>match wholeA P t k with
   | true=>aLoadA P o σ K t p b g k i j
   | false=>aLoad P o σ K t p
 | _=>aLoad P o σ K t p
def isStr (P:Program) (t:TypeId):Bool:=match P.underlying t with | some .string=>true | _=>false
def aLen (t:TypeId) (x:Operand):Prop :=
 match zhs P t with
 | some _=>match evA σ x with
  | .im (.sl es)=>Nf es.length fun n=>K ⟨opd x,wrT o.dst (vI n)⟩
  | .im (.val (.slice _ n _))=>K ⟨opd x,wrT o.dst (vI n)⟩
  | .osl b g=>match esOf (σ.kd b) with
   | some es=>Side (σ.gn b=g) (Nf es.length fun n=>K ⟨opd x++[.gen b,.knd b],wrT o.dst (vI n)⟩)
   | _=>False
  | _=>False
 | none=>match asStr (evA σ x) with
  | some s=>Chk (isStr P t) (K ⟨opd x,wrT o.dst (vI s.size)⟩)
  | none=>False
def aLens (t:TypeId) (x:Operand):Prop :=
 match evA σ x with
 | .osv b g k _=>match zhs P t with
  | some _=>aLenV o σ K x b g k
  | none=>False
 | .sub b g i=>match zhs P t with
  | some _=>aLenS o σ K x b g i
  | none=>False
 | .osl b g=>match zr6 (σ.kd b) with
  | true=>match zhs P t with
   | some _=>aLenG o σ K x b g
   | none=>False
  | false=>match ztl P t,σ.kd b with
   | some _,.map l=>aLenM o σ K x b g l
   | _,_=>aLen P o σ K t x
 | _=>aLen P o σ K t x
def zim (σ:St) (b d i:Nat) (e e':TypeId) (k:Nat) (gs es:List (List IV)):List (Loc×Ct) :=
 [(.ign b,.n (σ.ig b+1)),(.knd b,.kd (.grid e e' k gs (some i))),(.gen d,.n (σ.gn d+1)),(.knd d,.kd (.row e' k es))]
def zOk (P:Program) (t:TypeId) (k:Nat):Bool:=match zeroOf P t with | some z=>Nat.beq z.length k | none=>false
def aAppend (t:TypeId) (x y:Operand):Prop :=
 match o.dst,zhs P t with
 | some d,some et=>match szOf P et,byteOf P et,fz σ (evA σ y) with
  | some k,some by_,some (.sl new,[])=>match evA σ x with
   | .im (.val (.slice none 0 0))=>Chk (Nat.blt 0 k&&zOk P et k) (Side ((∀ e∈new,e.length=k)∧za2 new.length by_)
     (Nf new fun r=>K ⟨opd x++opd y++[.gen d],zez σ d (.row et k r)++[(.tmp d,.av (.osl d (σ.gn d+1)))]⟩))
   | .osl b g=>match σ.kd b with
    | .row et' k' es=>Chk (Nat.blt 0 k&&Nat.beq et' et&&Nat.beq k' k&&zOk P et k) (Side (σ.gn b=g∧(∀ e∈new,e.length=k)∧za2 (es.length+new.length) by_)
      (Nf (es++new) fun r=>K ⟨opd x++opd y++[.gen b,.knd b],(.knd b,.kd .dead)::(zez σ b (.row et k r)++[(.tmp d,.av (.osl b (σ.gn b+1)))])⟩))
    | .que et' k' es=>Chk (Nat.blt 0 k&&Nat.beq et' et&&Nat.beq k' k&&zOk P et k) (Side (σ.gn b=g∧0<new.length∧(∀ e∈new,e.length=k)∧za2 (es.length+new.length) by_)
      (Nf (es++new) fun r=>K ⟨opd x++opd y++[.gen b,.knd b],(.knd b,.kd .dead)::(zez σ b (.que et k r)++[(.tmp d,.av (.osl b (σ.gn b+1)))])⟩))
    | _=>False
   | .full es=>Chk (Nat.blt 0 k&&zOk P et k) (Side (0<new.length∧(∀ e∈es,e.length=k)∧(∀ e∈new,e.length=k)∧za2 (es.length+new.length) by_)
     (Nf (es++new) fun r=>K ⟨opd x++opd y++[.gen d],zez σ d (.row et k r)++[(.tmp d,.av (.osl d (σ.gn d+1)))]⟩))
   | _=>False
  | _,_,_=>False
 | _,_=>False
def aAppendS (t:TypeId) (x y:Operand) (b g i:Nat):Prop :=
 match o.dst,zhs P t,σ.kd b with
 | some d,some et,.grid e e' k' gs none=>match szOf P et,byteOf P et,fz σ (evA σ y) with
  | some k,some by_,some (.sl new,[])=>Chk (Nat.blt 0 k&&Nat.beq e' et&&Nat.beq k' k&&zOk P et k&&!Nat.beq d b)
    (∃ es,(σ.ig b=g∧gs[i]?=some [.sl es]∧(∀ e∈new,e.length=k)∧za2 (es.length+new.length) by_) ∧
     Nf (es++new) fun r=>K ⟨opd x++opd y++[.ign b,.knd b,.gen d],zim σ b d i e e' k' gs es++((.knd d,.kd .dead)::([(.gen d,.n (σ.gn d+2)),(.knd d,.kd (.row et k r))]++[(.tmp d,.av (.osl d (σ.gn d+2)))]))⟩)
  | _,_,_=>False
 | _,_,_=>False
def aAppendT (t:TypeId) (x y:Operand) (b g i b' g' j:Nat):Prop :=
 match o.dst,zhs P t,σ.kd b with
 | some d,some et,.grid e e' k' gs none=>match szOf P et,byteOf P et with
  | some k,some by_=>Chk (Nat.blt 0 k&&Nat.beq e' et&&Nat.beq k' k&&zOk P et k&&!Nat.beq d b&&Nat.beq b' b)
    (∃ es new,(σ.ig b=g∧σ.ig b=g'∧i≠j∧gs[i]?=some [.sl es]∧gs[j]?=some [.sl new]∧za2 (es.length+new.length) by_) ∧
     Nf (es++new) fun r=>K ⟨opd x++opd y++[.ign b,.knd b,.gen d],zim σ b d i e e' k' gs es++((.knd d,.kd .dead)::([(.gen d,.n (σ.gn d+2)),(.knd d,.kd (.row et k r))]++[(.tmp d,.av (.osl d (σ.gn d+2)))]))⟩)
  | _,_=>False
 | _,_,_=>False
def zhj:IV->List IV
 | .agg cs=>cs
 | .any=>[]
 | .val v=>if v.oneCell'=true then [.val v] else []
 | x=>[x]
def zvc (σ:St):Nat->List (Nat×Operand)->Option (List IV×yad)
 | _,[]=>some ([],[])
 | i,(j,x)::l=>if i=j then match fz σ (evA σ x),zvc σ (i+1) l with | some (v,b),some (vs,bs)=>some (v::vs,b++bs) | _,_=>none else none
def opdL (l:List Operand):List Loc:=l.flatMap opd
def zmn (t:TypeId) (len:Nat) (parts:Array (Nat×Operand)):Prop :=
 match o.dst,zhs P t with
 | some d,some et=>match szOf P et,zvc σ 0 parts.toList with
  | some k,some (vs,bs)=>Chk (Nat.beq vs.length len&&Nat.ble (len*k) 65536&&Nat.blt 0 k&&zOk P et k&&vs.all fun v=>Nat.beq (zhj v).length k)
   (zm1 σ bs (if own.contains d=true then K ⟨opdL (parts.toList.map (·.2))++frd σ bs++[.gen d],fwr bs++(zez σ d (.row et k (vs.map zhj))++[(.tmp d,.av (.osl d (σ.gn d+1)))])⟩
   else if own.contains (9500000+d)=true then K ⟨opdL (parts.toList.map (·.2))++frd σ bs,fwr bs++[(.tmp d,.av (.im (.nsl (vs.map zhj))))]⟩
   else K ⟨opdL (parts.toList.map (·.2))++frd σ bs,fwr bs++[(.tmp d,.av (.im (.sl (vs.map zhj))))]⟩))
  | _,_=>False
 | _,_=>False
def aBuildG (t:TypeId) (len:Nat) (parts:Array (Nat×Operand)):Prop :=
 match o.dst,zhs P t,parts.toList with
 | some d,some et,[(0,x)]=>match szOf P et,evA σ x with
  | some k,.osl r gr=>match σ.kd r with
   | .row e' k' es=>Chk (Nat.beq len 1&&Nat.beq k 1&&zOk P et 1) (zm1 σ [(r,gr)] (Nf [[IV.sl es]] fun gs=>K ⟨opd x++frd σ [(r,gr)]++znf [(d,.grid et e' k' gs none)],fwr [(r,gr)]++(zdz σ [(d,.grid et e' k' gs none)]++[(.tmp d,.av (.osl d (σ.gn d+1)))])⟩))
   | _=>False
  | _,_=>False
 | _,_,_=>False
def zs1 (t:TypeId) (len:Nat) (parts:Array (Nat×Operand)):Prop :=
 match o.dst,zhs P t,parts.toList with
 | some d,some et,[(0,x),(1,y)]=>match szOf P et,evA σ x,evA σ y with
  | some k,.osl r gr,.osl q gq=>match σ.kd r,σ.kd q with
   | .row e' k' es,.row e2 k2 fs=>Chk (Nat.beq len 2&&Nat.beq k 1&&zOk P et 1&&Nat.beq e2 e'&&Nat.beq k2 k'&&!Nat.beq r q) (zm1 σ [(r,gr),(q,gq)] (Nf [[IV.sl es],[IV.sl fs]] fun gs=>K ⟨opd x++opd y++frd σ [(r,gr),(q,gq)]++znf [(d,.grid et e' k' gs none)],fwr [(r,gr),(q,gq)]++(zdz σ [(d,.grid et e' k' gs none)]++[(.tmp d,.av (.osl d (σ.gn d+1)))])⟩))
   | _,_=>False
  | _,_,_=>False
 | _,_,_=>False
def aAppendG (t:TypeId) (x y:Operand) (c gc:Nat):Prop :=
 match o.dst,zhs P t,σ.kd c with
 | some d,some et,.grid e e' k hs none=>match szOf P et,byteOf P et,evA σ x with
  | some m,some by_,.osl b gb=>match σ.kd b with
   | .grid e1 e1' k1 gs none=>Chk (Nat.beq m 1&&Nat.beq e et&&Nat.beq e1 et&&Nat.beq e1' e'&&Nat.beq k1 k&&zOk P et 1&&!Nat.beq b c) (zm1 σ [(b,gb),(c,gc)] (Side (za2 (gs.length+hs.length) by_)
     (Nf (gs++hs) fun r=>K ⟨opd x++opd y++frd σ [(b,gb),(c,gc)]++znf [(d,.grid et e' k r none)],fwr [(b,gb),(c,gc)]++(zdz σ [(d,.grid et e' k r none)]++[(.tmp d,.av (.osl d (σ.gn d+1)))])⟩)))
   | _=>False
  | _,_,_=>False
 | _,_,_=>False
def zi5 {α:Type} (cs:List α):Nat->List α->List α
 | _,[]=>cs
 | i,c::r=>zi5 (cs.set i c) (i+1) r
def buildA (P:Program) (t:TypeId) (σ:St):List (Nat×Operand)->List AV->Option (List AV)
 | [],cs=>some cs
 | (i,x)::l,cs=>match fldOf P t i,zpb (evA σ x) with
  | some (off,ft),some vs=>match szOf P ft with | some m=>if (Nat.beq m vs.length&&Nat.ble (off+vs.length) cs.length)=true then buildA P t σ l (zi5 cs off vs) else none | none=>none
  | _,_=>none
def plcOf (P:Program) (t:TypeId):Option (yad):=match P.underlying t with | some (.struct fs)=>fs.toList.mapM (fun f=>(P.info? f.type).map fun i=>(f.offset,i.size)) | _=>none
def aBuild (t:TypeId) (parts:Array (Nat×Operand)):Prop :=
 match zeroOf P t with
 | some z=>match buildA P t σ parts.toList (z.map fun v=>.im (.val v)) with
  | some cs=>Chk ((plcOf P t).isSome&&z.all (·.oneCell')) (K ⟨opdL (parts.toList.map (·.2)),wrT o.dst (aggA cs)⟩)
  | none=>False
 | none=>False
def buildG (pl:Nat->Option (Nat×Nat)) (σ:St):List (Nat×Operand)->List AV->Option (List AV)
 | [],cs=>some cs
 | (i,x)::l,cs=>match pl i,zpb (evA σ x) with
  | some (off,m),some vs=>if (Nat.beq m vs.length&&Nat.ble (off+vs.length) cs.length)=true then buildG pl σ l (zi5 cs off vs) else none
  | _,_=>none
def aBuildR (t et:TypeId) (parts:Array (Nat×Operand)):Prop :=
 match zeroOf P t,szOf P et with
 | some z,some m=>match buildG (fun i=>some (i*m,m)) σ parts.toList (z.map fun v=>.im (.val v)) with
  | some cs=>Chk (z.all (·.oneCell')) (K ⟨opdL (parts.toList.map (·.2)),wrT o.dst (aggA cs)⟩)
  | none=>False
 | _,_=>False
def aBuilds (t:TypeId) (parts:Array (Nat×Operand)):Prop :=
 match arrOf P t with
 | some (_,et)=>aBuildR P o σ K t et parts
 | none=>aBuild P o σ K t parts
def aIndexX (t:TypeId) (x i:Operand):Prop :=
 match arrOf P t,aggCs (evA σ x),asInt (evA σ i) with
 | some (n,et),some cs,some (_,j)=>match zp2 P et,szOf P et with
  | some true,some m=>Chk (Nat.beq n 2&&Nat.ble (m+m) cs.length) (Both (decide (j=0)) (K ⟨opd x++opd i,wrT o.dst (aggA (cs.take m))⟩) (Side (j=1) (K ⟨opd x++opd i,wrT o.dst (aggA ((cs.drop m).take m))⟩)))
  | _,_=>False
 | _,_,_=>False
def aExtract (x:Operand) (i:Nat):Prop :=
 match evA σ x with
 | .tup l=>match l[i]? with
  | some v=>K ⟨opd x,wrT o.dst v⟩
  | none=>False
 | _=>False
def isBl (P:Program) (t:TypeId):Bool:=match P.underlying t with | some .bool=>true | _=>false
def isShr:BinOp->Bool
 | .shr=>true
 | _=>false
def isAdd:BinOp->Bool
 | .add=>true
 | _=>false
def aBin (op:BinOp) (t:TypeId) (x y:Operand):Prop :=
 match isShr op with
 | true=>match asInt (evA σ x),asInt (evA σ y),P.underlying t with
  | some (k,a),some (_,b),some (.int k')=>Chk (decide (k=k')&&decide (k=.u64)) (Side (rng k (a / 2^b.toNat)∧0<=a∧0<=b∧b<=62) (K ⟨opd x++opd y,wrT o.dst (.im (.val (.int k (a / 2^b.toNat))))⟩))
  | _,_,_=>False
 | false=>match asStr (evA σ x),asStr (evA σ y) with
 | some a,some b=>Chk (isStr P t&&isAdd op) (Side (a.size+b.size<=9223372036854775807) (K ⟨opd x++opd y,wrT o.dst (.im (.val (.string (a++b))))⟩))
 | _,_=>match asInt (evA σ x),asInt (evA σ y) with
 | some (k,a),some (k',b)=>Chk (decide (k=k')) (match op with
  | .add=>zav k (a+b) fun n=>K ⟨opd x++opd y,wrT o.dst (.im (.val (.int k n)))⟩
  | .sub=>zav k (a-b) fun n=>K ⟨opd x++opd y,wrT o.dst (.im (.val (.int k n)))⟩
  | .mul=>zav k (a*b) fun n=>K ⟨opd x++opd y,wrT o.dst (.im (.val (.int k n)))⟩
  | .quo=>Side (rng k (a / b)∧0<=a∧1<=b) (K ⟨opd x++opd y,wrT o.dst (.im (.val (.int k (a / b))))⟩)
  | .rem=>Side (rng k (a%b)∧0<=a∧1<=b) (K ⟨opd x++opd y,wrT o.dst (.im (.val (.int k (a%b))))⟩)
  | .xor=>K ⟨opd x++opd y,wrT o.dst (.im (.val (.int k (xorK k a b))))⟩
  | .eql=>K ⟨opd x++opd y,wrT o.dst (vB (decide (a=b)))⟩
  | .neq=>K ⟨opd x++opd y,wrT o.dst (vB (decide (a≠b)))⟩
  | .lss=>K ⟨opd x++opd y,wrT o.dst (vB (decide (a<b)))⟩
  | .leq=>K ⟨opd x++opd y,wrT o.dst (vB (decide (a<=b)))⟩
  | .gtr=>K ⟨opd x++opd y,wrT o.dst (vB (decide (b<a)))⟩
  | .geq=>K ⟨opd x++opd y,wrT o.dst (vB (decide (b<=a)))⟩
  | _=>False)
 | _,_=>match asBool (evA σ x),asBool (evA σ y) with
  | some a,some b=>match op with
   | .eql=>Chk (isBl P t) (K ⟨opd x++opd y,wrT o.dst (vB (a==b))⟩)
   | .neq=>Chk (isBl P t) (K ⟨opd x++opd y,wrT o.dst (vB (!(a==b)))⟩)
   | _=>False
  | _,_=>False
def eqCs:List AV->List AV->Option Bool
 | [],[]=>some true
 | x::xs,y::ys=>match asInt x,asInt y,eqCs xs ys with
  | some (k,a),some (k',b),some r=>match decide (k=k') with
   | true=>some (decide (a=b)&&r)
   | false=>none
  | _,_,_=>none
 | _,_=>none
def intF (P:Program) (f:Field) (i:Nat):Bool:=decide (f.name≠"_")&&Nat.beq f.offset i&&(match P.underlying f.type with | some (.int _)=>true | _=>false)
def intFs (P:Program):Nat->List Field->Bool
 | _,[]=>true
 | i,f::fs=>intF P f i&&intFs P (i+1) fs
def eqT (P:Program) (t:TypeId) (n:Nat):Bool:=match P.underlying t with
 | some (.struct fs)=>Nat.beq fs.toList.length n&&intFs P 0 fs.toList&&!P.stoodInHeld t&&!P.eqGuardType P.depth t
 | _=>false
def aBinS (op:BinOp) (t:TypeId) (x y:Operand):Prop :=
 match aggCs (evA σ x),aggCs (evA σ y) with
 | some xs,some ys=>match eqCs xs ys with
  | some r=>Side (eqT P t xs.length=true) (match op with
   | .eql=>Nf r fun r=>K ⟨opd x++opd y,wrT o.dst (vB r)⟩
   | .neq=>Nf r fun r=>K ⟨opd x++opd y,wrT o.dst (vB (!r))⟩
   | _=>False)
  | none=>False
 | _,_=>False
def isPt (P:Program) (t:TypeId):Bool:=match P.underlying t with | some (.pointer _)=>true | _=>false
def nilP:AV->Option Bool
 | .im (.val (.pointer none))=>some true
 | .im (.val (.pointer (some _)))=>some false
 | .im (.ref _)=>some false
 | _=>none
def aBinN (op:BinOp) (x y:Operand):Prop :=
 match nilP (evA σ x),nilP (evA σ y) with
 | some b,some true=>match op with
  | .eql=>K ⟨opd x++opd y,wrT o.dst (vB b)⟩
  | .neq=>K ⟨opd x++opd y,wrT o.dst (vB (!b))⟩
  | _=>False
 | _,_=>False
def isSl (P:Program) (t:TypeId):Bool:=match P.underlying t with | some (.slice _)=>true | _=>false
def nilS (x:AV) (b:Bool):Prop:=match x with
 | .im v=>(b=true∧v=.val (.slice none 0 0))∨(b=false∧∃ es,v=.nsl es)
 | _=>False
def isNilC:AV->Bool
 | .im (.val (.slice none 0 0))=>true
 | _=>false
def aBinZ (op:BinOp) (x y:Operand):Prop :=
 match isNilC (evA σ y) with
 | true=>∃ b,nilS (evA σ x) b∧(match op with
  | .eql=>K ⟨opd x++opd y,wrT o.dst (vB b)⟩
  | .neq=>K ⟨opd x++opd y,wrT o.dst (vB (!b))⟩
  | _=>False)
 | false=>False
def aBins (op:BinOp) (t:TypeId) (x y:Operand):Prop :=
 match zp2 P t with
 | some true=>aBinS P o σ K op t x y
 | _=>match isPt P t with
  | true=>aBinN o σ K op x y
  | false=>match isSl P t with
   | true=>aBinZ o σ K op x y
   | false=>aBin P o σ K op t x y
def aUn (op:UnOp) (x:Operand):Prop :=
 match op,asBool (evA σ x) with
 | .not,some b=>K ⟨opd x,wrT o.dst (vB (!b))⟩
 | .neg,_=>match asInt (evA σ x) with
  | some (k,n)=>zav k (0-n) fun m=>K ⟨opd x,wrT o.dst (.im (.val (.int k m)))⟩
  | none=>False
 | _,_=>False
def aConvert (dst:TypeId) (x:Operand):Prop :=
 match asInt (evA σ x),P.underlying dst with
 | some (_,n),some (.int k)=>Side (rng k n) (K ⟨opd x,wrT o.dst (.im (.val (.int k n)))⟩)
 | _,_=>False
def aMax (x y:Operand):Prop :=
 match asInt (evA σ x),asInt (evA σ y) with
 | some (k,a),some (k',b)=>Chk (decide (k=k')) (K ⟨opd x++opd y,wrT o.dst (.im (.val (.int k (max a b))))⟩)
 | _,_=>False
def aMin (x y:Operand):Prop :=
 match asInt (evA σ x),asInt (evA σ y) with
 | some (k,a),some (k',b)=>Chk (decide (k=k')) (K ⟨opd x++opd y,wrT o.dst (.im (.val (.int k (min a b))))⟩)
 | _,_=>False
def aMin3 (x y z:Operand):Prop :=
 match asInt (evA σ x),asInt (evA σ y),asInt (evA σ z) with
 | some (k,a),some (k',b),some (k'',c)=>Chk (decide (k=k')&&decide (k=k'')) (K ⟨opd x++opd y++opd z,wrT o.dst (.im (.val (.int k (min (min a b) c))))⟩)
 | _,_,_=>False
variable (C:FuncId->List Arg->Rs->Prop)
def ndB:List Nat->List Nat->Bool
 | [],_=>true
 | a::l,bs=>!(l.contains a)&&!(bs.contains a)&&ndB l bs
def fzS (σ:St) (nn:Bool) (cs:List AV):Option (List IV×yad):=match nn with
 | false=>fzL σ cs
 | true=>match cs with
  | [.im (.nsl ys)]=>some ([.nsl ys],[])
  | [.osl c g]=>match σ.kd c with
   | .row _ _ ys=>some ([.nsl ys],[(c,g)])
   | _=>none
  | _=>none
def nslS (σ:St) (nn:Bool) (cs:List AV) (A:Prop):Prop:=match nn with
 | false=>A
 | true=>match cs with
  | [.osl c _]=>match σ.kd c with
   | .row _ _ ys=>Side (0<ys.length) A
   | _=>A
  | _=>A
def aStoreE (t:TypeId) (p x:Operand) (b g k i j:Nat):Prop :=
 match szOf P t,zpb (evA σ x),σ.kd b with
 | some m,some cs,.row et k' es=>match fzS σ (own.contains (9600000+b)) cs with
  | some (xs,bs)=>Chk (Nat.beq cs.length m&&Nat.blt 0 m&&Nat.ble (j+m) k&&Nat.beq k' k&&ndB [b] (bs.map (·.1)))
   (zm1 σ ((b,g)::bs) (∃ e,es[i]?=some e∧nslS σ (own.contains (9600000+b)) cs (Nf (es.set i (splice e j xs)) fun r=>K ⟨opd p++opd x++frd σ ((b,g)::bs),fwr bs++((.knd b,.kd (.row et k r))::wrT o.dst (.im (.val undef)))⟩)))
  | none=>False
 | _,_,_=>False
def nilF:List Nat->Nat->Option (Nat×Nat)
 | [],_=>none
 | x::l,key=>match Nat.beq (Nat.div x 1000000000) key with
  | true=>some (Nat.div (Nat.mod x 1000000000) 100,Nat.mod x 100)
  | false=>nilF l key
def nilH (own:List Nat) (d i j:Nat):Option (Nat×Nat):=nilF own (Nat.succ (Nat.add (Nat.mul (Nat.add (Nat.mul d 16) i) 64) j))
def nilRow (x:IV) (e k:Nat):Option Kd:=match x with
 | .val (.slice none 0 0)=>match k with
  | 0=>none
  | k+1=>some (.row e (k+1) [])
 | _=>none
def objG (σ:St) (p:Nat):Option Kd:=match σ.kd p with
 | .dead=>none
 | .box _ _=>none
 | .bag _ _ _ _ _=>none
 | .mapI _ _=>none
 | .que _ _ _=>none
 | k=>some k
def zv5 (σ:St) (own:List Nat) (d i j:Nat):AV->Option (Oc×yad)
 | .im x=>match nilH own d i j with
  | some (e,k)=>match nilRow x e k with
   | some q=>some (.ow q,[])
   | none=>none
  | none=>some (.im (nz1 x),[])
 | .osl p g=>match objG σ p with
  | some k=>some (.ow k,[(p,g)])
  | none=>none
 | _=>none
def holeH (own:List Nat) (d i j:Nat):Bool:=own.contains (Nat.add 1000000000000000000 (Nat.add (Nat.mul (Nat.add (Nat.mul d 16) i) 64) j))
def cellG (σ:St) (own:List Nat) (d i j:Nat) (a:AV):Option (Oc×yad):=match holeH own d i j with
 | true=>some (.im .any,[])
 | false=>zv5 σ own d i j a
def isAny:Oc->Bool
 | .im .any=>true
 | _=>false
def fillC (v:Value) (h:Bool) (c:Oc):Oc:=match h with
 | true=>match isAny c with
  | true=>.im (.ex v)
  | false=>c
 | false=>c
def fillCs (h:Nat->Bool) (V:Nat->Value):Nat->List Oc->List Oc
 | _,[]=>[]
 | j,c::l=>fillC (V j) (h j) c::fillCs h V (j+1) l
def fillA (own:List Nat) (d i:Nat) (V:Nat->Nat->Value):Arg->Arg
 | .box t cs=>.box t (fillCs (holeH own d i) (V i) 0 cs)
 | x=>x
def fillX (own:List Nat) (d:Nat) (V:Nat->Nat->Value):Nat->List Arg->List Arg
 | _,[]=>[]
 | i,x::l=>fillA own d i V x::fillX own d V (i+1) l
def fillY (own:List Nat) (d:Nat) (V:Nat->Nat->Value):yad->List Arg->List Arg
 | [],l=>l
 | _,[]=>[]
 | (_,i)::bx,x::l=>fillA own d i V x::fillY own d V bx l
def hlC (own:List Nat) (d i b:Nat):Nat->List Oc->yad
 | _,[]=>[]
 | j,c::l=>match holeH own d i j,isAny c with
  | true,true=>(b,j)::hlC own d i b (j+1) l
  | _,_=>hlC own d i b (j+1) l
def hlY (own:List Nat) (d:Nat):yad->List Arg->yad
 | (b,i)::bx,y::l=>match y with
  | .box _ cs=>hlC own d i b 0 cs++hlY own d bx l
  | _=>hlY own d bx l
 | _,_=>[]
def memB (b:Nat):List Nat->Bool
 | []=>false
 | x::l=>match Nat.beq x b with
  | true=>true
  | false=>memB b l
def memC (b j:Nat):yad->Bool
 | []=>false
 | x::l=>match Nat.beq x.1 b&&Nat.beq x.2 j with
  | true=>true
  | false=>memC b j l
def keepL (bs:List Nat) (hs:yad):Loc->Bool
 | .knd b=>!memB b bs
 | .cel b j=>!memC b j hs
 | _=>true
def zse (σ:St) (own:List Nat) (d i:Nat):Nat->List AV->Option (List Oc×yad)
 | _,[]=>some ([],[])
 | j,c::l=>match cellG σ own d i j c,zse σ own d i (j+1) l with
  | some (x,gs),some (xs,gs')=>some (x::xs,gs++gs')
  | _,_=>none
def lentG (own:List Nat) (d i:Nat) (k:Kd):Arg:=match own.contains (2000000+(1000*(d+1)+i)) with
 | true=>.lent k
 | false=>.ow k
def argG (σ:St) (own:List Nat) (d i:Nat) (a:AV):Option (Arg×yad×yad):=match own.contains (1000*(d+1)+i) with
 | true=>match a with
  | .osl b g=>match objG σ b with
   | some k=>some (lentG own d i k,[],[(b,g)])
   | none=>none
  | .own b g 0=>match σ.kd b with
   | .box t _=>match zse σ own d i 0 (zqa σ b) with
    | some (cs,gs)=>some (.box t cs,[],(b,g)::gs)
    | none=>none
   | _=>none
  | .im x=>match nilH own d i 63 with
   | some (e,k)=>match nilRow x e k with
    | some q=>some (.ow q,[],[])
    | none=>none
   | none=>none
  | _=>none
 | false=>match own.contains (4000000+(1000*(d+1)+i)) with
  | true=>match a with
   | .im x=>some (.im x,[],[])
   | _=>none
  | false=>match fz σ a with
   | some (x,bs)=>some (.im x,bs,[])
   | none=>none
def zk5 (σ:St) (own:List Nat) (d:Nat):Nat->List AV->Option (List Arg×yad×yad)
 | _,[]=>some ([],[],[])
 | i,a::l=>match argG σ own d i a,zk5 σ own d (i+1) l with
  | some (x,bs,gs),some (xs,bs',gs')=>some (x::xs,bs++bs',gs++gs')
  | _,_=>none
def bxG (own:List Nat) (d:Nat):Nat->List AV->yad
 | _,[]=>[]
 | i,a::l=>match own.contains (1000*(d+1)+i) with
  | true=>match a with
   | .own b _ _=>(b,i)::bxG own d (i+1) l
   | .osl b _=>match own.contains (2000000+(1000*(d+1)+i)) with
    | true=>(b,i)::bxG own d (i+1) l
    | false=>bxG own d (i+1) l
   | _=>bxG own d (i+1) l
  | false=>bxG own d (i+1) l
def cellNm (σ:St) (b i j:Nat):Nat:=match σ.ce b j with
 | .osl p _=>p
 | _=>nmC i j
inductive LK where
 | box (t:TypeId) (al:List AV)
 | obj (k:Kd)
def flatK:Kd->Bool
 | .row _ _ _=>true
 | .map _=>true
 | _=>false
def bxPl (σ:St):yad->List Arg->Option (List (Nat×LK)×List (Nat×Kd))
 | [],[]=>some ([],[])
 | (b,i)::bx,.box t cs::ys=>match zcj σ (cellNm σ b i) 0 cs,bxPl σ bx ys with
  | (al,ss),some (l,ss')=>some ((b,.box t al)::l,ss++ss')
  | _,none=>none
 | (b,_)::bx,.lent k::ys=>match flatK k,bxPl σ bx ys with
  | true,some (l,ss')=>some ((b,.obj k)::l,ss')
  | _,_=>none
 | _,_=>none
def lkWr (b:Nat):LK->List (Loc×Ct)
 | .box t al=>(.knd b,.kd (.box t al.length))::zg6 b 0 al
 | .obj k=>[(.knd b,.kd k)]
def bxWr:List (Nat×LK)->List (Loc×Ct)
 | []=>[]
 | (b,x)::l=>lkWr b x++bxWr l
def resV (tp:Bool) (al:List AV):Option AV:=match tp with
 | true=>some (.tup al)
 | false=>match al with
  | [a]=>some a
  | _=>none
def zfa (tp:Bool) (d i:Nat):Nat:=match tp with
 | true=>nmR d i
 | false=>d
def aCall (f:Operand) (args:List Operand):Prop :=
 match o.dst,(match evA σ f with | .im (.fn g caps)=>some (g,caps.map AV.im) | .fn g caps=>some (g,caps) | _=>none) with
 | some d,some (g,caps)=>match zk5 σ own d 0 (args.map (evA σ)++caps) with
  | some (xs,bs,gs)=>Chk (ndB (gs.map (·.1)) (bs.map (·.1))) (zm1 σ (bs++gs) (∃ r,C g xs r∧match r with
   | .mk tp l ys=>match zcj σ (zfa tp d) 0 l,bxPl σ (bxG own d 0 (args.map (evA σ)++caps)) ys with
    | (al,ss),some (bl,ss')=>match resV tp al with
     | some v=>Chk (ndB ((ss++ss').map (·.1)) (bl.map (·.1))) (match own.contains (500000+d) with
      | true=>Side (flatRs (.mk tp l ys)) (K ⟨opd f++opdL args++frd σ (bs++gs)++znf (ss++ss'),fwr gs++(zdz σ (ss++ss')++(bxWr bl++[(.tmp d,.av v)]))⟩)
      | false=>K ⟨opd f++opdL args++frd σ (bs++gs)++znf (ss++ss'),fwr bs++(fwr gs++(zdz σ (ss++ss')++(bxWr bl++[(.tmp d,.av v)])))⟩)
     | none=>False
    | _,none=>False))
  | none=>False
 | _,_=>False
def resVA (m:Bool) (tp:Bool) (al:List AV):Option AV:=match m with
 | false=>resV tp al
 | true=>match tp with
  | true=>some (.agg al)
  | false=>none
def agT (m:Bool):TypeId:=match m with
 | true=>1
 | false=>0
def agL:List AV->List Oc
 | []=>[]
 | _::l=>.im .any::agL l
def aCallA (f:Operand) (args:List Operand):Prop :=
 match o.dst,(match evA σ f with | .im (.fn g caps)=>some (g,caps.map AV.im) | .fn g caps=>some (g,caps) | _=>none),args.map (evA σ) with
 | some d,some (g,caps),.agg cs::rest=>match zk5 σ own d 0 (cs++(rest++caps)) with
  | some (xs,bs,gs)=>Chk (ndB (gs.map (·.1)) (bs.map (·.1))) (zm1 σ (bs++gs) (∃ r,C g (.lent .dead::.box (agT (own.contains (8500000+d))) (agL cs)::xs) r∧match r with
   | .mk tp l ys=>match zcj σ (zfa tp d) 0 l,bxPl σ (bxG own d 0 (cs++(rest++caps))) ys with
    | (al,ss),some (bl,ss')=>match resVA (own.contains (8500000+d)) tp al with
     | some v=>Chk (ndB ((ss++ss').map (·.1)) (bl.map (·.1))) (K ⟨opd f++opdL args++frd σ (bs++gs)++znf (ss++ss'),fwr bs++(fwr gs++(zdz σ (ss++ss')++(bxWr bl++[(.tmp d,.av v)])))⟩)
     | none=>False
    | _,none=>False))
  | none=>False
 | _,_,_=>False
def aCallR (f:Operand) (args:List Operand):Prop :=
 match o.dst,(match evA σ f with | .im (.fn g caps)=>some (g,caps.map AV.im) | .fn g caps=>some (g,caps) | _=>none) with
 | some d,some (g,caps)=>match zk5 σ own d 0 (args.map (evA σ)++caps) with
  | some (xs,bs,gs)=>Chk (ndB (gs.map (·.1)) (bs.map (·.1))) (zm1 σ (bs++gs) (∃ r,C g (.lent .dead::.ow .dead::xs) r∧match r with
   | .mk tp l ys=>match zcj σ (zfa tp d) 0 l,bxPl σ (bxG own d 0 (args.map (evA σ)++caps)) ys with
    | (al,ss),some (bl,ss')=>match resVA true tp al with
     | some v=>Chk (ndB ((ss++ss').map (·.1)) (bl.map (·.1))) (K ⟨opd f++opdL args++frd σ (bs++gs)++znf (ss++ss'),fwr bs++(fwr gs++(zdz σ (ss++ss')++(bxWr bl++[(.tmp d,.av v)])))⟩)
     | none=>False
    | _,none=>False))
  | none=>False
 | _,_=>False
def aCallP (f:Operand) (args:List Operand):Prop :=
 match o.dst,(match evA σ f with | .im (.fn g caps)=>some (g,caps.map AV.im) | .fn g caps=>some (g,caps) | _=>none) with
 | some d,some (g,caps)=>match zk5 σ own d 0 (args.map (evA σ)++caps) with
  | some (xs,[],[])=>∃ t cs,C g (.lent .dead::.lent .dead::xs) (.mk true [] [.box t cs])∧match bxPl σ [(d,0)] [.box t cs] with
   | some (bl,[])=>K ⟨opd f++opdL args++[.gen d],[(.gen d,.n (σ.gn d+1)),(.knd d,.kd .dead)]++(bxWr bl++[(.tmp d,.av (.own d (σ.gn d+1) 0))])⟩
   | _=>False
  | _=>False
 | _,_=>False
def bxN:List (Nat×LK)->List Nat
 | []=>[]
 | (b,.box _ _)::l=>b::bxN l
 | (_,.obj _)::l=>bxN l
def sameBx (σ:St):List (Nat×LK)->Bool
 | []=>true
 | (b,.box t al)::l=>(match σ.kd b with | .box t' m=>Nat.beq t' t&&Nat.beq m al.length | _=>false)&&sameBx σ l
 | (_,.obj _)::l=>sameBx σ l
def keepW (bs:List Nat) (hs:yad):List (Loc×Ct)->List (Loc×Ct)
 | []=>[]
 | p::l=>match keepL bs hs p.1 with
  | true=>p::keepW bs hs l
  | false=>keepW bs hs l
def aCallH (f:Operand) (args:List Operand):Prop :=
 match o.dst,(match evA σ f with | .im (.fn g caps)=>some (g,caps.map AV.im) | .fn g caps=>some (g,caps) | _=>none) with
 | some d,some (g,caps)=>match zk5 σ own d 0 (args.map (evA σ)++caps) with
  | some (xs,bs,gs)=>Chk (ndB (gs.map (·.1)) (bs.map (·.1))) (zm1 σ (bs++gs) (∃ (tp:Bool) (l:List Oc) (ys:List Arg),(∀ V:Nat->Nat->Value,C g (fillX own d V 0 xs) (.mk tp l (fillY own d V (bxG own d 0 (args.map (evA σ)++caps)) ys))) ∧
   match zcj σ (zfa tp d) 0 l,bxPl σ (bxG own d 0 (args.map (evA σ)++caps)) ys with
    | (al,ss),some (bl,ss')=>match resV tp al with
     | some v=>Chk (ndB ((ss++ss').map (·.1)) (bl.map (·.1))&&sameBx σ bl) (K ⟨opd f++opdL args++frd σ (bs++gs)++znf (ss++ss'),
       keepW (bxN bl) (hlY own d (bxG own d 0 (args.map (evA σ)++caps)) ys) (fwr bs++(fwr gs++(zdz σ (ss++ss')++bxWr bl)))++[(.tmp d,.av v)]⟩)
     | none=>False
    | _,none=>False))
  | none=>False
 | _,_=>False
def zvb (x:Operand):Prop :=
 match evA σ x with
 | .own b g i=>Side (σ.gn b=g) (K ⟨opd x++[.gen b],wrT o.dst (.own b g i)⟩)
 | .im (.ref cs)=>K ⟨opd x,wrT o.dst (.im (.ref cs))⟩
 | .im (.fn f caps)=>K ⟨opd x,wrT o.dst (.im (.fn f caps))⟩
 | .fn f caps=>K ⟨opd x,wrT o.dst (.fn f caps)⟩
 | _=>False
def zrb (t:TypeId) (len cap:Operand):Prop :=
 match o.dst,zhs P t with
 | some d,some et=>match asInt (evA σ len),asInt (evA σ cap),szOf P et,zeroOf P et,byteOf P et with
  | some (.i64,l),some (.i64,c),some k,some z,some by_=>Chk (Nat.blt 0 k&&zOk P et k&&z.all (·.oneCell')) (Side (0<=l∧l<=c∧za2 c.toNat by_) (match own.contains (600000+d) with
   | true=>match zhs P et with
    | some e'=>match szOf P e' with
     | some k'=>Chk (Nat.beq k 1&&(match z with | [.slice none 0 0]=>true | _=>false)&&Nat.blt 0 k') (Nf (List.replicate l.toNat [IV.sl []]) fun r=>K ⟨opd len++opd cap++[.gen d,.ign d],zhi σ d (.grid et e' k' r none)++[(.tmp d,.av (.osl d (σ.gn d+1)))]⟩)
     | none=>False
    | none=>False
   | false=>match own.contains (6000000+d) with
    | true=>Nf (List.replicate l.toNat (z.map fun v=>nz1 (.val v))) fun r=>K ⟨opd len++opd cap,[(.tmp d,.av (.im (.sl r)))]⟩
    | false=>Nf (List.replicate l.toNat (z.map fun v=>mkZ own d v)) fun r=>K ⟨opd len++opd cap++[.gen d],zez σ d (.row et k r)++[(.tmp d,.av (.osl d (σ.gn d+1)))]⟩))
  | _,_,_,_,_=>False
 | _,_=>False
def keyD (P:Program) (kt:TypeId):Option TypeDesc:=match P.underlying kt with
 | some (.int k)=>some (.int k)
 | some .string=>some .string
 | some .bool=>some .bool
 | _=>none
def findV (D:TypeDesc) (k:Value):List (Value×Value)->Option (Option Value)
 | []=>some none
 | p::l=>match Instr.sameNow D k p.1 with
  | some true=>some (some p.2)
  | some false=>findV D k l
  | none=>none
def setV (D:TypeDesc) (k v:Value):List (Value×Value)->Option (List (Value×Value))
 | []=>some [(k,v)]
 | p::l=>match Instr.sameNow D k p.1 with
  | some true=>some ((k,v)::l)
  | some false=>(setV D k v l).map (p::·)
  | none=>none
def delV (D:TypeDesc) (k:Value):List (Value×Value)->Option (List (Value×Value))
 | []=>some []
 | p::l=>match Instr.sameNow D k p.1 with
  | some true=>some l
  | some false=>(delV D k l).map (p::·)
  | none=>none
def asVal:AV->Option Value
 | .im (.val v)=>some v
 | _=>none
def zeroV (P:Program) (t:TypeId):Option Value:=match P.info? t with | some i=>i.zero | none=>none
def aMakeMap (t:TypeId) (r:Option Operand):Prop :=
 match o.dst,r with
 | some d,none=>K ⟨[.gen d],zez σ d (.map [])++[(.tmp d,.av (.osl d (σ.gn d+1)))]⟩
 | _,_=>False
def aLookup (t:TypeId) (x i:Operand) (ok:Bool):Prop :=
 match ztl P t,evA σ x,asVal (evA σ i) with
 | some (kt,et),.osl b g,some kv=>match σ.kd b,keyD P kt,zeroV P et with
  | .map l,some D,some z=>Side (σ.gn b=g) (∃ r,findV D kv l=some r∧Nf (r.getD z) fun v=>match ok with
   | true=>Nf r.isSome fun is=>K ⟨opd x++opd i++[.gen b,.knd b],wrT o.dst (.tup [.im (.val v),vB is])⟩
   | false=>K ⟨opd x++opd i++[.gen b,.knd b],wrT o.dst (.im (.val v))⟩)
  | _,_,_=>False
 | _,_,_=>False
def wA (ks:yab):Value:=.agg (ks.map (Value.int .i64)).toArray
def getA (ks:yab):List (yab×Value)->Option Value
 | []=>none
 | p::m=>match decide (ks=p.1) with | true=>some p.2 | false=>getA ks m
def setA (ks:yab) (v:Value):List (yab×Value)->List (yab×Value)
 | []=>[(ks,v)]
 | p::m=>match decide (ks=p.1) with | true=>(ks,v)::m | false=>p::setA ks v m
def zwb (P:Program) (t:TypeId):Option Nat:=match ztl P t with | some (k,_)=>intArr P k | none=>none
def KeysA (n:Nat) (cs:List IV) (l:List (Value×Value)) (ks:yab) (m:List (yab×Value)):Prop :=
 cs=ks.map (fun c=>.val (.int .i64 c))∧ks.length=n∧l=m.map (fun p=>(wA p.1,p.2))∧∀ p∈m,p.1.length=n
def aLookupA (n:Nat) (t:TypeId) (x i:Operand) (ok:Bool):Prop :=
 match ztl P t,evA σ x,evA σ i with
 | some (_,et),.osl b g,.im (.agg cs)=>match σ.kd b,zeroV P et with
  | .map l,some z=>Side (σ.gn b=g) (∃ ks m,KeysA n cs l ks m∧Nf ((getA ks m).getD z) fun v=>match ok with
   | true=>Nf (getA ks m).isSome fun is=>K ⟨opd x++opd i++[.gen b,.knd b],wrT o.dst (.tup [.im (.val v),vB is])⟩
   | false=>K ⟨opd x++opd i++[.gen b,.knd b],wrT o.dst (.im (.val v))⟩)
  | _,_=>False
 | _,_,_=>False
def zpv (n:Nat) (t:TypeId) (x i y:Operand):Prop :=
 match ztl P t,evA σ x,evA σ i,asVal (evA σ y) with
 | some _,.osl b g,.im (.agg cs),some v=>match σ.kd b with
  | .map l=>Side (σ.gn b=g) (∃ ks m,KeysA n cs l ks m∧Nf ((setA ks v m).map fun p=>(wA p.1,p.2)) fun r=>K ⟨opd x++opd i++opd y++[.gen b,.knd b],(.knd b,.kd (.map r))::wrT o.dst (.im (.val undef))⟩)
  | _=>False
 | _,_,_,_=>False
def zrr (t:TypeId) (x i y:Operand):Prop :=
 match ztl P t,evA σ x,asVal (evA σ i),asVal (evA σ y) with
 | some (kt,_),.osl b g,some kv,some v=>match σ.kd b,keyD P kt with
  | .map l,some D=>Side (σ.gn b=g) (∃ l',setV D kv v l=some l'∧K ⟨opd x++opd i++opd y++[.gen b,.knd b],(.knd b,.kd (.map l'))::wrT o.dst (.im (.val undef))⟩)
  | _,_=>False
 | _,_,_,_=>False
def aDelete (t:TypeId) (x i:Operand):Prop :=
 match ztl P t,evA σ x,asVal (evA σ i) with
 | some (kt,_),.osl b g,some kv=>match σ.kd b,keyD P kt with
  | .map l,some D=>Side (σ.gn b=g) (∃ l',delV D kv l=some l'∧K ⟨opd x++opd i++[.gen b,.knd b],(.knd b,.kd (.map l'))::wrT o.dst (.im .any)⟩)
  | _,_=>False
 | _,_,_=>False
def capF (σ:St) (own:List Nat):List Operand->Option (List AV×yad×List (Nat×IV))
 | []=>some ([],[],[])
 | x::l=>match capF σ own l with
  | some (vs,bs,ws)=>match x with
   | .tmp t=>match own.contains (800000+t) with
    | true=>match fz2 σ (σ.av t) with
     | some (y,b)=>some (.im y::vs,b++bs,(t,y)::ws)
     | none=>none
    | false=>some (σ.av t::vs,bs,ws)
   | x=>some (evA σ x::vs,bs,ws)
  | none=>none
def wrI (ws:List (Nat×IV)):List (Loc×Ct):=ws.map fun p=>(.tmp p.1,.av (.im p.2))
def ztj (fn:Fn) (first captured:Array Operand):Prop :=
 match fn with
 | .func g=>match capF σ own captured.toList with
  | some (vs,bs,ws)=>Chk first.isEmpty (zm1 σ bs (K ⟨opdL captured.toList++frd σ bs,fwr bs++(wrI ws++wrT o.dst (.fn g vs))⟩))
  | none=>False
 | _=>False
def aBuiltin (b:Builtin) (args:List Operand) (ts:List TypeId):Prop :=
 match b with
 | .len=>match args with
  | [x]=>match ts with
   | t::_=>aLens P o σ K t x
   | []=>False
  | _=>False
 | .append=>match args with
  | [x,y]=>match ts with
   | [t,t']=>Chk (Nat.beq t' t) (match evA σ x with
    | .sub b g i=>match evA σ y with
     | .sub b' g' j=>aAppendT P o σ K t x y b g i b' g' j
     | _=>aAppendS P o σ K t x y b g i
    | _=>match evA σ y with
     | .osl c gc=>aAppendG P o σ K t x y c gc
     | _=>aAppend P o σ K t x y)
   | _=>False
  | _=>False
 | .max=>match args with
  | [x,y]=>aMax o σ K x y
  | _=>False
 | .min=>match args with
  | [x,y]=>aMin o σ K x y
  | [x,y,z]=>aMin3 o σ K x y z
  | _=>False
 | .clear=>match args,ts with
  | [x],t::_=>aClear P o σ K t x
  | _,_=>False
 | .copy=>match args,ts with
  | [x,y],[t,_]=>aCopy P o σ K t x y
  | _,_=>False
 | .delete=>match args,ts with
  | [x,y],[t,_]=>aDelete P o σ K t x y
  | _,_=>False
 | _=>False
def aCalls (c:Call):Prop :=
 match c.callee with
 | .builtin b=>aBuiltin P o σ K b c.args.toList c.argTypes.toList
 | .value f=>match o.dst with
  | some d=>match own.contains (900000+d) with
   | true=>aCallH own o σ K C f c.args.toList
   | false=>match own.contains (8000000+d) with
    | true=>match own.contains (8700000+d) with
     | true=>match own.contains (8800000+d) with
      | true=>aCallP own o σ K C f c.args.toList
      | false=>aCallR own o σ K C f c.args.toList
     | false=>aCallA own o σ K C f c.args.toList
    | false=>aCall own o σ K C f c.args.toList
  | none=>False
 | _=>False
def aMoves (x:Operand):Prop :=
 match o.dst with
 | some d=>match own.contains (8000000+d) with
  | true=>match fz σ (evA σ x) with
   | some (y,bs)=>zm1 σ bs (K ⟨opd x++frd σ bs,fwr bs++[(.tmp d,.av (.im y))]⟩)
   | none=>False
  | false=>K ⟨opd x,[(.tmp d,.av (evA σ x))]⟩
 | none=>K ⟨opd x,[]⟩
def aOp:Prop :=
 match o.op with
 | .move x | .assign x=>aMoves own o σ K x
 | .pick c a b=>aPick o σ K c a b
 | .load t p=>aLoads P o σ K t p
 | .store t p x=>match evA σ p with
  | .elt b g k i j=>match zr6 (σ.kd b) with
   | true=>aStoreG P o σ K t p x b g k i j
   | false=>aStoreE P own o σ K t p x b g k i j
  | .elt2 b g i k j c=>aStoreS P o σ K t p x b g i k j c
  | _=>aStore P o σ K t p x
 | .box t x=>aBox own o σ K t x
 | .alloc t=>aAllocs P o σ K t
 | .fieldAddr t p f=>zq6 P o σ K t p f
 | .field t x f=>aField P o σ K t x f
 | .indexAddr t x i=>aIndexes P o σ K t x i
 | .slice t x lo hi mx=>match mx with
  | none=>aSlices P o σ K t x lo hi
  | some m=>aSlice3 P o σ K t x lo hi m
 | .build t parts=>aBuilds P o σ K t parts
 | .index t x i=>aIndexX P o σ K t x i
 | .buildSlice t len parts=>match o.dst with
  | some d=>match own.contains (9000000+d) with
   | true=>match Nat.beq len 2 with
    | true=>zs1 P o σ K t len parts
    | false=>aBuildG P o σ K t len parts
   | false=>zmn P own o σ K t len parts
  | none=>False
 | .extract x i=>aExtract o σ K x i
 | .binOp op t x y _=>aBins P o σ K op t x y
 | .unOp op _ x=>aUn o σ K op x
 | .convert src dst x=>Chk (P.underlying src).isSome (aConvert P o σ K dst x)
 | .makeFunc fn first captured=>ztj own o σ K fn first captured
 | .nilCheck x=>zvb o σ K x
 | .makeSlice t len cap=>zrb P own o σ K t len cap
 | .makeMap t r=>aMakeMap o σ K t r
 | .lookup t x i ok=>match zwb P t with
  | some n=>aLookupA P o σ K n t x i ok
  | none=>aLookup P o σ K t x i ok
 | .mapUpdate t x i y=>match zwb P t with
  | some n=>zpv P o σ K n t x i y
  | none=>zrr P o σ K t x i y
 | .call c=>aCalls P own o σ K C c
 | _=>False
end
def zdh (n:Nat) (o:Oper):Bool:=match o.dst with | some d=>decide (d<n) | none=>true
def notBool:Value->Bool
 | .bool _=>false
 | _=>true
def aGuard (P:Program) (C:FuncId->List Arg->Rs->Prop) (n:Nat) (own:List Nat) (ops:List Oper) (o:Oper) (σ:St) (K:Fx->Prop):Prop :=
 Chk (zdh n o) (match o.guard with
 | none=>aOp P own o σ K C
 | some (j,want)=>match (ops[j]?).bind (·.dst) with
  | some t=>match asBool (σ.av t) with
   | some b=>Both (b==want) (aOp P own o σ (fun fx=>K ⟨.tmp t::fx.rd,fx.wr⟩) C) (K ⟨[.tmp t],wrT o.dst (.im (.val undef))⟩)
   | none=>match σ.av t with
    | .im (.val v)=>Chk (notBool v) (K ⟨[.tmp t],wrT o.dst (.im (.val undef))⟩)
    | _=>False
  | none=>False)
def frcN {α:Sort _} (n:Nat) (K:Nat->α):α:=match n with
 | 0=>K 0
 | m+1=>K (m+1)
def frcM {α:Sort _}:Nat->Nat->(Nat->α)->α
 | 0,a,K=>K a
 | m+1,a,K=>frcM m (a+1) K
def frcL {α:Sort _} (l:Loc) (K:Loc->α):α:=match l with
 | .tmp t=>frcN t fun t=>K (.tmp t)
 | .gen t=>frcN t fun t=>K (.gen t)
 | .ign t=>frcN t fun t=>K (.ign t)
 | .knd t=>frcN t fun t=>K (.knd t)
 | .cel t i=>frcN t fun t=>frcN i fun i=>K (.cel t i)
def frcA {α:Sort _} (a:AV) (K:AV->α):α:=match a with
 | .im x=>K (.im x)
 | .own o g i=>frcN o fun o=>frcN i fun i=>K (.own o g i)
 | .osl o g=>frcN o fun o=>K (.osl o g)
 | .elt o g k i j=>frcN o fun o=>frcN k fun k=>frcN j fun j=>K (.elt o g k i j)
 | .sub o g i=>frcN o fun o=>K (.sub o g i)
 | .elt2 o g i k j c=>frcN o fun o=>frcN k fun k=>frcN c fun c=>K (.elt2 o g i k j c)
 | .osv o g k m=>K (.osv o g k m)
 | .full es=>K (.full es)
 | .fn f caps=>K (.fn f caps)
 | .agg cs=>K (.agg cs)
 | .tup cs=>K (.tup cs)
def frcC {α:Sort _} (c:Ct) (K:Ct->α):α:=match c with
 | .av a=>frcA a fun a=>K (.av a)
 | .n g=>K (.n g)
 | .kd k=>match k with
  | .dead=>K (.kd .dead)
  | .box t m=>frcM m 0 fun m=>K (.kd (.box t m))
  | .row e k es=>K (.kd (.row e k es))
  | .grid e e' k gs hole=>K (.kd (.grid e e' k gs hole))
  | .map l=>K (.kd (.map l))
  | .bag t e k l hole=>K (.kd (.bag t e k l hole))
  | .mapI left cur=>K (.kd (.mapI left cur))
  | .que e k es=>K (.kd (.que e k es))
theorem frcN_eq {α:Sort _} (n:Nat) (K:Nat->α):frcN n K=K n:=by cases n<;>rfl
theorem frcM_eq {α:Sort _} (n a:Nat) (K:Nat->α):frcM n a K=K (a+n):=by
 induction n generalizing a with
 | zero=>rfl
 | succ n ih=>rw [frcM,ih];congr 1;omega
theorem frcL_eq {α:Sort _} (l:Loc) (K:Loc->α):frcL l K=K l:=by cases l<;>simp only [frcL,frcN_eq]
theorem frcA_eq {α:Sort _} (l:AV) (K:AV->α):frcA l K=K l:=by cases l<;>simp only [frcA,frcN_eq]
theorem frcC_eq {α:Sort _} (l:Ct) (K:Ct->α):frcC l K=K l:=by
 cases l with
 | av a=>simp only [frcC,frcA_eq]
 | n g=>rfl
 | kd k=>cases k<;>simp only [frcC,frcM_eq,yae]
abbrev Mk:=Nat×Nat
def p2 (n:Nat):Nat:=Nat.mul (Nat.pow 340282366920938463463374607431768211456 (Nat.div n 128)) (Nat.pow 2 (Nat.mod n 128))
theorem p2_eq (n:Nat):p2 n=2^n:=by
 show (340282366920938463463374607431768211456^(n / 128))*2^(n%128)=2^n;rw [show (340282366920938463463374607431768211456:Nat)=2^128 from by decide,<- Nat.pow_mul,<- Nat.pow_add,yeb]
def bit1 (m:Nat) (l:Loc):Nat:=Nat.lor m (p2 l.code)
def mskR:List Loc->Nat->Nat
 | [],m=>m
 | l::r,m=>mskR r (bit1 m l)
def mskW:List (Loc×Ct)->Nat->Nat
 | [],m=>m
 | p::r,m=>mskW r (bit1 m p.1)
def fxm (f:Fx):Mk:=(mskR f.rd 0,mskW f.wr 0)
def frcR {α:Sort _}:List Loc->Nat->(Nat->α)->α
 | [],m,K=>K m
 | l::r,m,K=>frcL l fun l=>frcN (bit1 m l) fun m=>frcR r m K
def frcW {α:Sort _}:List (Loc×Ct)->Nat->St->(Nat->St->α)->α
 | [],m,σ,K=>K m σ
 | p::r,m,σ,K=>frcL p.1 fun l=>frcC p.2 fun c=>frcN (bit1 m l) fun m=>frcW r m (upd σ l c) K
theorem frcR_eq {α:Sort _} (l:List Loc):∀ (m:Nat) (K:Nat->α),frcR l m K=K (mskR l m):=by
 induction l with
 | nil=>intro m K;rfl
 | cons l r ih=>intro m K;simp only [frcR,frcL_eq,frcN_eq,ih,mskR]
theorem zrc {α:Sort _} (l:List (Loc×Ct)):∀ (m:Nat) (σ:St) (K:Nat->St->α),frcW l m σ K=K (mskW l m) (app σ l):=by
 induction l with
 | nil=>intro m σ K;rfl
 | cons p r ih=>intro m σ K;simp only [frcW,frcL_eq,frcC_eq,frcN_eq,ih,mskW];rfl
def frcF {α:Sort _} (fx:Fx) (σ:St) (K:Mk->St->α):α:=frcR fx.rd 0 fun r=>frcW fx.wr 0 σ fun m σ'=>K (r,m) σ'
theorem frcF_eq {α:Sort _} (fx:Fx) (σ:St) (K:Mk->St->α):frcF fx σ K=K (fxm fx) (app σ fx.wr):=by
 unfold frcF fxm;rw [frcR_eq,zrc]
def aOps (P:Program) (C:FuncId->List Arg->Rs->Prop) (n:Nat) (own:List Nat) (ops:List Oper):List Oper->List Mk->St->(List Mk->St->Prop)->Prop
 | [],fs,σ,K=>K fs σ
 | o::l,fs,σ,K=>aGuard P C n own ops o σ fun fx=>frcF fx σ fun m σ'=>aOps P C n own ops l (fs++[m]) σ' K
def indepM (f g:Mk):Bool:=Nat.beq (Nat.lor (Nat.lor (Nat.land f.2 g.1) (Nat.land f.2 g.2)) (Nat.land g.2 f.1)) 0
def indep (f g:Fx):Bool:=indepM (fxm f) (fxm g)
def zpy (acc:List Nat) (o:Oper):Nat:=o.after.toList.foldl (fun s e=>if Region.binds .any e=true then s ||| 2^e.on ||| acc.getD e.on 0 else s) 0
def befs (ops:List Oper):List Nat:=ops.foldl (fun acc o=>acc++[zpy acc o]) []
def drawRow (bs:List Nat) (f:Mk) (i:Nat):Nat->List Mk->Bool
 | _,[]=>true
 | j,g::gs=>(indepM f g||(bs.getD j 0).testBit i)&&drawRow bs f i (j+1) gs
def zue (bs:List Nat):Nat->List Mk->Bool
 | _,[]=>true
 | i,f::fs=>drawRow bs f i (i+1) fs&&zue bs (i+1) fs
def edgeOk:Nat->List Oper->Bool
 | _,[]=>true
 | i,o::l=>(o.after.toList.all fun e=>!Region.binds .any e||Nat.blt e.on i)&&edgeOk (i+1) l
def drawOk (ops:List Oper) (fs:List Mk):Bool:=edgeOk 0 ops&&zue (befs ops) 0 fs
section
variable (P:Program) (C:FuncId->List Arg->Rs->Prop) (n:Nat) (own:List Nat)
attribute [irreducible] Side Both zto Nf Cut zav
def anyGuard:List Oper->Bool
 | []=>false
 | o::l=>match o.guard with | some _=>true | none=>match o.op with | .pick _ _ _=>true | _=>anyGuard l
def cntE (id:Nat):List Nat->Nat
 | []=>0
 | j::l=>match Nat.beq j id with | true=>cntE id l+1 | false=>cntE id l
def remE (id:Nat):List Nat->List Nat
 | []=>[]
 | j::l=>match Nat.beq j id with | true=>remE id l | false=>j::remE id l
def paths:Code->Nat×List Nat
 | .skip=>(1,[])
 | .region _ ops _=>(match anyGuard ops.toList with | true=>2 | false=>1,[])
 | .seq a b=>match paths a with
  | (0,e)=>(0,e)
  | (_,e)=>match paths b with | (m,f)=>(m,e++f)
 | .cond _ a b=>match paths a,paths b with | (n,e),(m,f)=>(n+m,e++f)
 | .block id body=>match paths body with
  | (n,e)=>(match n+cntE id e with | 0=>0 | _=>1,remE id e)
 | .loop body=>(0,(paths body).2)
 | .scope body=>paths body
 | .label _=>(1,[])
 | .exit id=>(0,[id])
 | _=>(0,[])
def one (a:Code):Bool:=Nat.ble (paths a).1 1
def oneB (id:Nat) (a:Code):Bool:=Nat.beq (cntE id (paths a).2) 0
def zkk:Code->(Exit->St->Prop)->St->Prop
 | .skip,K,σ=>K .normal σ
 | .region _ ops draw,K,σ=>aOps P C n own ops.toList ops.toList [] σ fun fs σ'=>Chk (!draw||drawOk ops.toList fs) (K .normal σ')
 | .seq a b,K,σ=>match one a with
  | true=>zkk a (fun e σ'=>match e with | .normal=>zkk b K σ' | e=>K e σ') σ
  | false=>Cut (fun J=>zkk a (fun e σ'=>match e with | .normal=>J σ' | e=>K e σ') σ) fun σ'=>zkk b K σ'
 | .cond c a b,K,σ=>match asBool (evA σ c) with
  | some t=>Both t (zkk a K σ) (zkk b K σ)
  | none=>False
 | .block id body,K,σ=>match oneB id body with
  | true=>zkk body (fun e σ'=>match e with | .exit j=>if j=id then K .normal σ' else K (.exit j) σ' | e=>K e σ') σ
  | false=>Cut (fun J=>zkk body (fun e σ'=>match e with | .normal=>J σ' | .exit j=>if j=id then J σ' else K (.exit j) σ' | e=>K e σ') σ) fun σ'=>K .normal σ'
 | .loop body,K,σ=>zto (fun K' σ'=>zkk body K' σ') K σ
 | .exit id,K,σ=>K (.exit id) σ
 | .ret,K,σ=>K .ret σ
 | .scope body,K,σ=>zkk body (fun e σ'=>match e with | .goto _=>False | e=>K e σ') σ
 | .label _,K,σ=>K .normal σ
 | _,_,_=>False
end
end
section
theorem RepI.mono {w w':World} {S S':Nat->Prop} (hS:∀ b,S b->S' b) (hc:∀ p u,S p.block->w.cell? p=some u->w'.cell? p=some u) {v:Value} {x:IV} (h:RepI w S v x):RepI w' S' v x:=by
 induction h with
 | val v=>exact .val v
 | any v=>exact .any v
 | ex v h1=>exact .ex v h1
 | emp A c=>exact .emp A c
 | sl b o c k n es us hn hk hcap hs hb hl h1 hu hr ih=>exact .sl b o c k n es us hn hk hcap hs (hS b hb) hl h1 (fun i u hi=>hc _ _ hb (hu i u hi)) ih
 | agg us cs hl h1 hr ih=>exact .agg us cs hl h1 ih
 | ref b o us cs hb hl h1 hu hr ih=>exact .ref b o us cs (hS b hb) hl h1 (fun i u hi=>hc _ _ hb (hu i u hi)) ih
 | fn f us cs hl hr ih=>exact .fn f us cs hl ih
 | nsl a n c es h ih=>exact .nsl a n c es ih
theorem RepA.mono {w w':World} {S S':Nat->Prop} {ρ ρ':Ly} {γ γ':Nat->Nat} (hI:∀ v x,RepI w S v x->RepI w' S' v x) (hγ:∀ o,γ o<=γ' o) (hρ:∀ o,γ' o=γ o->ρ' o=ρ o)
  (hi:∀ o,ρ.ig o<=ρ'.ig o∧(ρ'.ig o=ρ.ig o->ρ'.inn o=ρ.inn o)) {v:Value} {x:AV} (h:RepA w S ρ γ v x):RepA w' S' ρ' γ' v x:=by
 have key:∀ o g,g<=γ o->γ' o=g->γ o=g∧ρ' o=ρ o:=fun o g h1 h2=>by
  have:=hγ o;exact ⟨by omega,hρ o (by omega)⟩
 have a0:∀ o g,g<=ρ.ig o->ρ'.ig o=g->ρ.ig o=g∧ρ'.inn o=ρ.inn o:=fun o g h1 h2=>by
  have:=(hi o).1;exact ⟨by omega,(hi o).2 (by omega)⟩
 induction h with
 | im v x h=>exact .im v x (hI v x h)
 | own v o g i h1 hg h =>
  refine .own v o g i h1 (yce hg (hγ o)) fun e=>?_;obtain ⟨e1,e2⟩:=key o g hg e;rw [e2];exact h e1
 | osl v o g h1 hg h =>
  refine .osl v o g h1 (yce hg (hγ o)) fun e=>?_;obtain ⟨e1,e2⟩:=key o g hg e;rw [e2];exact h e1
 | elt v o g k i j h1 hg h =>
  refine .elt v o g k i j h1 (yce hg (hγ o)) fun e=>?_;obtain ⟨e1,e2⟩:=key o g hg e;rw [e2];exact h e1
 | sub v o g i h1 hg h =>
  refine .sub v o g i h1 (yce hg (hi o).1) fun e=>?_;obtain ⟨e1,e2⟩:=a0 o g hg e;rw [e2];exact h e1
 | osv v o g k m h1 hg h =>
  refine .osv v o g k m h1 (yce hg (hγ o)) fun e=>?_;obtain ⟨e1,e2⟩:=key o g hg e;rw [e2];exact h e1
 | elt2 v o g i k j c h1 hg h =>
  refine .elt2 v o g i k j c h1 (yce hg (hi o).1) fun e=>?_;obtain ⟨e1,e2⟩:=a0 o g hg e;rw [e2];exact h e1
 | full A n es h=>exact .full A n es (hI _ _ h)
 | fn f us cs hl hr ih=>exact .fn f us cs hl ih
 | agg us cs hl h1 hr ih=>exact .agg us cs hl h1 ih
 | tup us cs hl hr ih=>exact .tup us cs hl ih
def noInn:Kd->Bool
 | .grid _ _ _ _ _=>false
 | .bag _ _ _ _ _=>false
 | .mapI _ _=>false
 | _=>true
theorem fpk_flat {v:Value} {inn:List Value} {k:Kd} (h:noInn k=true) {b:Nat} (hb:b∈fpk v inn k):zbm v=some b:=by
 cases k with
 | dead=>simp [fpk] at hb
 | grid e e' m gs q=>cases h
 | box t m=>simpa [fpk] using hb
 | row e m es=>simpa [fpk] using hb
 | map l=>simpa [fpk] using hb
 | bag t e m l q=>cases h
 | mapI l c=>cases h
 | que e m es=>simpa [fpk] using hb
theorem fpk_root {v:Value} {inn:List Value} {k:Kd} (h:k≠.dead) {b:Nat} (hb:zbm v=some b):b∈fpk v inn k:=by
 cases k with
 | dead=>exact absurd rfl h
 | grid e e' m gs q=>simp [fpk,fpv,hb]
 | box t m=>simp [fpk,hb]
 | row e m es=>simp [fpk,hb]
 | map l=>simp [fpk,hb]
 | bag t e m l q=>simp [fpk,fpv,hb]
 | mapI l c=>simp [fpk,fpv,hb]
 | que e m es=>simp [fpk,hb]
theorem fpk_inn {v u:Value} {inn:List Value} {e e':TypeId} {m:Nat} {gs:List (List IV)} {q:Option Nat} {i b:Nat} (hu:inn[i]?=some u) (hb:zbm u=some b):b∈fpk v inn (.grid e e' m gs q):=by
 unfold fpk fpv;exact ybo.2 ⟨u,yay _ (zkH hu),hb⟩
theorem Owns.root {σ:St} {ρ:Ly} {o b:Nat} (hl:live σ o) (hb:zbm (ρ o)=some b):Owns σ ρ o b:=fpk_root hl hb
theorem Owns.lv {σ:St} {ρ:Ly} {o b:Nat} (h:Owns σ ρ o b):live σ o:=fun e=>by
 unfold Owns at h;rw [e] at h;simp [fpk] at h
theorem zit {w:World} {base:Nat} {e:TypeId} {k n:Nat} {v:Value} {us:List Value} (h:w.ownsRow base e k v n us):v.ownBlock=zbm v:=by
 rcases h.2 with ⟨rfl,_⟩ | ⟨_,_,_,rfl,_⟩<;>rfl
theorem zjy {w w':World} {base:Nat} {e:TypeId} {k n:Nat} {v:Value} {us:List Value} (h:w.ownsRow base e k v n us) (hb:∀ b,zbm v=some b->w'.heap[b]?=w.heap[b]?):w'.ownsRow base e k v n us:=by
 refine ⟨h.1,?_⟩;rcases h.2 with h1 | ⟨g,cap,cur,e1,e2,e3,e4⟩
 ·exact .inl h1
 ·exact .inr ⟨g,cap,cur,e1,e2,(hb g (by rw [e1];rfl)).trans e3,e4⟩
theorem zjs.mono {w w':World} {S S':Nat->Prop} {v:Value} {e:TypeId} {k:Nat} {es:List (List IV)} (h:zjs w S v e k es) (hb:∀ b,zbm v=some b->w'.heap[b]?=w.heap[b]?) (hI:∀ u x,RepI w S u x->RepI w' S' u x):zjs w' S' v e k es:=by
 obtain ⟨us,h1,h2,h3,h4,h5,h6,h7⟩:=h;exact ⟨us,h1,h2,h3,zjy h4 hb,h5,h6,fun i u x hu hx=>hI _ _ (h7 i u x hu hx)⟩
theorem zmu.mono {w w':World} {S S':Nat->Prop} {v:Value} {e:TypeId} {k:Nat} {es:List (List IV)} (h:zmu w S v e k es) (hb:∀ b,zbm v=some b->w'.heap[b]?=w.heap[b]?) (hI:∀ u x,RepI w S u x->RepI w' S' u x):zmu w' S' v e k es:=by
 obtain ⟨us,h1,h2,h3,h4,h5,h6,h7⟩:=h;refine ⟨us,h1,h2,h3,h4,h5,fun i u x hu hx=>hI _ _ (h6 i u x hu hx),?_⟩;rcases h7 with h7 | ⟨q,off,cap,cur,e1,e2,e3⟩
 ·exact .inl h7
 ·exact .inr ⟨q,off,cap,cur,e1,(hb q (by rw [e1];rfl)).trans e2,e3⟩
theorem zmu.lt {w:World} {S:Nat->Prop} {v:Value} {e:TypeId} {k:Nat} {es:List (List IV)} (h:zmu w S v e k es) {b:Nat} (hb:zbm v=some b):b<w.heap.size:=by
 obtain ⟨us,h1,h2,h3,h4,h5,h6,h7⟩:=h;rcases h7 with ⟨h7,_⟩ | ⟨q,off,a0,cur,e1,e2,e3⟩
 ·rw [h7] at hb;cases hb
 ·rw [e1] at hb;simp only [zbm,zkF] at hb;subst hb;exact (ybm.1 e2).1
theorem zjs.que {w:World} {S:Nat->Prop} {v:Value} {e:TypeId} {k:Nat} {es:List (List IV)} (h:zjs w S v e k es):zmu w S v e k es:=by
 obtain ⟨us,h1,h2,h3,h4,h5,h6,h7⟩:=h;refine ⟨us,h1,h2,h3,h5,h6,h7,?_⟩;rcases h4.2 with ⟨e1,e2⟩ | ⟨q,a0,cur,e1,_,e3,e4,e5,e6,e7⟩
 ·exact .inl ⟨e1,yav e2⟩
 ·refine .inr ⟨q,0,a0,cur,e1,e3,e4,e5,by omega,fun j u hu=>?_⟩;rw [<- e7,yax] at hu;split at hu
  ·rw [yae,<- yao];exact hu
  ·cases hu
theorem zlj.mono {w w':World} {S S':Nat->Prop} {v:Value} {inn:List Value} {e e':TypeId} {k:Nat} {gs:List (List IV)} {q:Option Nat} (h:zlj w S v inn e e' k gs q) (hb:∀ b,b∈fpv v inn->w'.heap[b]?=w.heap[b]?) (hI:∀ u x,RepI w S u x->RepI w' S' u x):zlj w' S' v inn e e' k gs q:=by
 obtain ⟨h0,h1,us,h2,h3,h4,h5⟩:=h;refine ⟨h0,h1,us,h2,zjy h3 fun b a0=>hb b (by simp [fpv,a0]),h4,fun i u hu=>?_⟩;rcases h5 i u hu with h6 | ⟨h6,es,h7,h8⟩
 ·exact .inl h6
 ·exact .inr ⟨h6,es,h7,h8.mono (fun b a0=>hb b (ybo.2 ⟨u,yay _ (zkH hu),a0⟩)) hI⟩
theorem zd9.mono {w w':World} {S S':Nat->Prop} {v:Value} {inn:List Value}:∀ {k:Kd},zd9 w S v inn k->(∀ b,b∈fpk v inn k->w'.heap[b]?=w.heap[b]?)->(∀ u x,RepI w S u x->RepI w' S' u x)->zd9 w' S' v inn k
 | .dead,h,_,_=>h
 | .box _ _,h,_,_=>h
 | .row _ _ _,h,hb,hI=>zjs.mono h (fun b hb'=>hb b (by simp [fpk,hb'])) hI
 | .grid _ _ _ _ _,h,hb,hI=>zlj.mono h hb hI
 | .map _,⟨b,clock,es,h1,h2,h3⟩,hb,_=>⟨b,clock,es,h1,(hb b (by rw [h1];simp [fpk,zbm])).trans h2,h3⟩
 | .bag _ _ _ _ _,h,_,_=>h
 | .mapI _ _,h,_,_=>h
 | .que _ _ _,h,hb,hI=>zmu.mono h (fun b hb'=>hb b (by simp [fpk,hb'])) hI
theorem born_modify (es:Array MapEntry) (j:Nat) (f:MapEntry->MapEntry) (hf:∀ e,(f e).born=e.born):(es.modify j f).toList.map (·.born)=es.toList.map (·.born):=by
 apply yb7;intro n;rw [yat,yat,yao,ycv,yao];by_cases hn:j=n
 ·rw [if_pos hn,Option.map_map];congr 1;funext e;exact hf e
 ·rw [if_neg hn]
theorem zrd.nil (c:Nat):zrd #[] c:=⟨by simp,by simp⟩
theorem zrd.push {es:Array MapEntry} {c:Nat} (h:zrd es c) (k v:Value):zrd (es.push { key:=k,val:=v,born:=c }) (c+1):=by
 refine ⟨fun x hx=>?_,?_⟩
 ·rw [Array.toList_push] at hx;rcases yal.1 hx with hx | hx
  ·exact Nat.lt_succ_of_lt (h.1 x hx)
  ·rw [yaw.1 hx];exact Nat.lt_succ_self _
 ·rw [Array.toList_push,ya9,ybc];refine ⟨h.2,by simp,fun a ha b hb=>?_⟩;obtain ⟨x,hx,rfl⟩:=yap.1 ha;have:=h.1 x hx;simp at hb;omega
theorem zrd.modify {es:Array MapEntry} {c:Nat} (h:zrd es c) (j:Nat) (f:MapEntry->MapEntry) (hf:∀ e,(f e).born=e.born):zrd (es.modify j f) c:=by
 have e:=born_modify es j f hf;refine ⟨fun x hx=>?_,by rw [e];exact h.2⟩;have:x.born∈es.toList.map (·.born):=by rw [<- e];exact yap.2 ⟨x,hx,rfl⟩
 obtain ⟨y,hy,h2⟩:=yap.1 this;rw [<- h2];exact h.1 y hy
theorem EntOk.mono {w w':World} {S S':Nat->Prop} {t e:TypeId} {k:Nat} {g:Nat×List IV×List (List IV)} {row:Value} (h:EntOk w S t e k g row) (hb:∀ b,(g.1=b∨zbm row=some b)->w'.heap[b]?=w.heap[b]?) (hI:∀ u x,RepI w S u x->RepI w' S' u x):EntOk w' S' t e k g row:=by
 obtain ⟨us,h2,h3,h4,h5,h6⟩:=h;exact ⟨us,(hb g.1 (.inl rfl)).trans h2,h3,h4,fun i u x hu hx=>hI _ _ (h5 i u x hu hx),h6.mono (fun b a0=>hb b (.inr a0)) hI⟩
theorem zsq.mono {w w':World} {S S':Nat->Prop} {v:Value} {inn:List Value} {t e:TypeId} {k:Nat} {l:List (Nat×List IV×List (List IV))} (h:zsq w S v inn t e k l) (hb:∀ b,b∈fpv v inn->w'.heap[b]?=w.heap[b]?) (hI:∀ u x,RepI w S u x->RepI w' S' u x):zsq w' S' v inn t e k l:=by
 obtain ⟨h0,h1,rows,h2,h3,h4⟩:=h;refine ⟨h0,h1,rows,h2,h3,fun i g row hg hr=>(h4 i g row hg hr).mono (fun b a0=>hb b ?_) hI⟩;rcases a0 with a0 | a0
 ·exact ybo.2 ⟨pv g.1,yay _ (by rw [h3];exact yai _ (yap.2 ⟨g,zkH hg,rfl⟩)),by rw [<- a0];rfl⟩
 ·exact ybo.2 ⟨row,yay _ (by rw [h3];exact yaf _ (zkH hr)),a0⟩
theorem GoOk.mono {w w':World} {S S':Nat->Prop} {v:Value} {inn:List Value} {left:List IV} {cur:Option IV} (h:GoOk w S v inn left cur) (hb:∀ b,b∈fpv v inn->w'.heap[b]?=w.heap[b]?) (hI:∀ u x,RepI w S u x->RepI w' S' u x):GoOk w' S' v inn left cur:=by
 obtain ⟨b,r,a3,a0,c0,es,a4,rd,h1,h2,h3,h4,h5,h6,h7,h8,h9,a2,a6⟩:=h;exact ⟨b,r,a3,a0,c0,es,a4,rd,h1,h2,h3,(hb b (by rw [h1];simp [fpv,zbm])).trans h4,(hb r (by rw [h2];simp [fpv,zbm])).trans h5,h6,h7,h8,h9,fun x hx=>hI _ _ (a2 x hx),a6⟩
theorem zjs.lt {w:World} {S:Nat->Prop} {v:Value} {e:TypeId} {k:Nat} {es:List (List IV)} (h:zjs w S v e k es) {b:Nat} (hb:zbm v=some b):b<w.heap.size:=by
 obtain ⟨us,h1,h2,h3,h4,_⟩:=h;exact (h4.lt b ((zit h4).trans hb)).2
theorem zd9.lt {w:World} {S:Nat->Prop} {v:Value} {inn:List Value}:∀ {k:Kd},zd9 w S v inn k->∀ {b},b∈fpk v inn k->b<w.heap.size
 | .dead,h,_,_=>h.elim
 | .box _ _,h,_,_=>h.elim
 | .row _ _ _,h,b,hb=>zjs.lt h (by simpa [fpk] using hb)
 | .map _,⟨q,clock,es,h1,h2,h3⟩,b,hb=>by
  rw [h1] at hb;simp [fpk,zbm] at hb;subst hb;exact (ybm.1 h2).1
 | .bag _ _ _ _ _,h,_,_=>h.elim
 | .mapI _ _,h,_,_=>h.elim
 | .que _ _ _,h,b,hb=>zmu.lt h (by simpa [fpk] using hb)
 | .grid e e' k gs q,⟨h0,h1,us,h2,h3,h4,h5⟩,b,hb=>by
  obtain ⟨u,hu,hub⟩:=ybo.1 (show b∈fpv v inn from hb);rcases yau.1 hu with rfl | hu
  ·exact (h3.lt b ((zit h3).trans hub)).2
  ·obtain ⟨i,hi⟩:=ycd hu;rcases h5 i u hi with h6 | ⟨h6,es,h7,h8⟩
   ·rw [h6.2] at hub;cases hub
   ·exact h8.lt hub
theorem zsq.lt {w:World} {S:Nat->Prop} {v:Value} {inn:List Value} {t e:TypeId} {k:Nat} {l:List (Nat×List IV×List (List IV))} (h:zsq w S v inn t e k l) {b:Nat} (hb:b∈fpv v inn):b<w.heap.size:=by
 obtain ⟨h0,h1,rows,h2,h3,h4⟩:=h;obtain ⟨u,hu,a0⟩:=ybo.1 hb;rcases yau.1 hu with rfl | hu
 ·rw [h0] at a0;cases a0
 ·rw [h3] at hu;rcases yal.1 hu with hu | hu
  ·obtain ⟨g,hg,rfl⟩:=yap.1 hu;obtain ⟨i,hi⟩:=ycd hg;have a2:i<rows.length:=by rw [h2];exact (zkI.1 hi).1
   obtain ⟨us,e2,_⟩:=h4 i g _ hi (zkM a2);simp only [zbm,zkF] at a0;subst a0;exact (ybm.1 e2).1
  ·obtain ⟨i,hi⟩:=ycd hu;have a2:i<l.length:=by rw [<- h2];exact (zkI.1 hi).1
   obtain ⟨us,e2,e3,e4,e5,e6⟩:=h4 i _ _ (zkM a2) hi;exact e6.lt a0
theorem GoOk.lt {w:World} {S:Nat->Prop} {v:Value} {inn:List Value} {left:List IV} {cur:Option IV} (h:GoOk w S v inn left cur) {b:Nat} (hb:b∈fpv v inn):b<w.heap.size:=by
 obtain ⟨q,r,a2,a0,c0,es,a3,rd,h1,h2,h3,h4,h5,_⟩:=h;rw [h1,h2] at hb;simp only [fpv,zbm,ybk,List.filterMap_nil,yau,List.not_mem_nil,or_false] at hb;rcases hb with rfl | rfl
 ·exact (ybm.1 h4).1
 ·exact (ybm.1 h5).1
structure zio (σ σ':St):Prop where
 gn:σ'.gn=σ.gn
 ig:σ'.ig=σ.ig
 kd:σ'.kd=σ.kd
 ce:σ'.ce=σ.ce
theorem zio.tmp (σ:St) (d:Nat) (c:Ct):zio σ (upd σ (.tmp d) c):=⟨funext fun _=>gn_tmp σ d _ c,funext fun _=>ig_tmp σ d _ c,funext fun _=>kd_tmp σ d _ c,funext fun _=>funext fun _=>ce_tmp σ d _ _ c⟩
theorem Imm.same {B:Base} {σ σ':St} (h:σ'.kd=σ.kd) (ρ:Ly) (w:World):Imm B σ' ρ w=Imm B σ ρ w:=by
 unfold Imm Owns;rw [h]
theorem zne.of_hold {B:Base} {σ:St} {ρ:Ly} {w:World} {o:Nat} {k:Kd} (hb:∀ t m,k≠.box t m) (h:zd9 w (Imm B σ ρ w) (ρ o) (ρ.inn o) k):zne B σ ρ w o k:=by
 cases k with
 | dead=>trivial
 | box t m=>exact absurd rfl (hb t m)
 | row e m es=>exact h
 | grid e e' m gs q=>exact h
 | map l=>exact h
 | bag t e m l q=>exact h.elim
 | mapI l c=>exact h.elim
 | que e m es=>exact h
theorem zne.mono {B B':Base} {σ σ':St} {ρ ρ':Ly} {w w':World} {o:Nat} {k:Kd} (hk:zne B σ ρ w o k) (hρ:ρ' o=ρ o) (hinn:ρ'.inn o=ρ.inn o) (hce:∀ i,σ'.ce o i=σ.ce o i) (hb:∀ b,b∈fpk (ρ o) (ρ.inn o) k->w'.heap[b]?=w.heap[b]?)
  (hI:∀ v x,RepI w (Imm B σ ρ w) v x->RepI w' (Imm B' σ' ρ' w') v x) (hA:∀ v x,RepA w (Imm B σ ρ w) ρ σ.gn v x->RepA w' (Imm B' σ' ρ' w') ρ' σ'.gn v x):zne B' σ' ρ' w' o k:=by
 cases k with
 | dead=>trivial
 | box t m =>
  obtain ⟨b,us,h1,h3,h4,h5,h6⟩:=hk;refine ⟨b,us,hρ.trans h1,(hb b (by rw [h1];simp [fpk,zbm])).trans h3,h4,h5,fun i u hu=>?_⟩;rw [hce];exact hA _ _ (h6 i u hu)
 | row e m es=>show zd9 w' (Imm B' σ' ρ' w') (ρ' o) (ρ'.inn o) (.row e m es);rw [hρ,hinn];exact zd9.mono (k:=.row e m es) hk hb hI
 | grid e e' m gs q=>show zd9 w' (Imm B' σ' ρ' w') (ρ' o) (ρ'.inn o) (.grid e e' m gs q);rw [hρ,hinn];exact zd9.mono (k:=.grid e e' m gs q) hk hb hI
 | map l=>show zd9 w' (Imm B' σ' ρ' w') (ρ' o) (ρ'.inn o) (.map l);rw [hρ,hinn];exact zd9.mono (k:=.map l) hk hb hI
 | bag t e m l q =>
  show zsq w' (Imm B' σ' ρ' w') (ρ' o) (ρ'.inn o) t e m l∧_;rw [hρ,hinn,hce];exact ⟨zsq.mono hk.1 hb hI,fun p hp=>hA _ _ (hk.2 p hp)⟩
 | mapI l c =>
  show GoOk w' (Imm B' σ' ρ' w') (ρ' o) (ρ'.inn o) l c;rw [hρ,hinn];exact GoOk.mono hk hb hI
 | que e m es=>show zd9 w' (Imm B' σ' ρ' w') (ρ' o) (ρ'.inn o) (.que e m es);rw [hρ,hinn];exact zd9.mono (k:=.que e m es) hk hb hI
theorem zne.lt {B:Base} {σ:St} {ρ:Ly} {w:World} {o:Nat} {k:Kd} (hk:zne B σ ρ w o k) {b:Nat} (hb:b∈fpk (ρ o) (ρ.inn o) k):b<w.heap.size:=by
 cases k with
 | dead=>simp [fpk] at hb
 | box t m =>
  obtain ⟨q,us,h1,h3,_⟩:=hk;rw [h1] at hb;simp [fpk,zbm] at hb;subst hb;exact (ybm.1 h3).1
 | row e m es=>exact zd9.lt (S:=Imm B σ ρ w) (k:=.row e m es) hk hb
 | grid e e' m gs q=>exact zd9.lt (S:=Imm B σ ρ w) (k:=.grid e e' m gs q) hk hb
 | map l=>exact zd9.lt (S:=Imm B σ ρ w) (k:=.map l) hk hb
 | bag t e m l q=>exact zsq.lt hk.1 hb
 | mapI l c=>exact GoOk.lt hk hb
 | que e m es=>exact zd9.lt (S:=Imm B σ ρ w) (k:=.que e m es) hk hb
theorem put_getD (a:Act) (d:Tmp) (u:Value) (t:Nat) (hd:d<a.tmps.size):(a.put (some d) u).tmps.getD t undef=if t=d then u else a.tmps.getD t undef:=by
 simp only [Act.put,yck,Array.getElem?_setIfInBounds];by_cases h:t=d
 ·subst h;simp [hd]
 ·rw [if_neg (fun e=>h e.symm),if_neg h]
theorem SatR.stepZ {B:Base} {σ σ':St} {a:Act} {w w':World} {ρ ρ':Ly} (h:SatR B σ a w ρ) (D Z':Nat->Prop) (hav:∀ t,σ'.av t=σ.av t)
  (hout:∀ o,¬ D o->σ'.kd o=σ.kd o∧σ'.gn o=σ.gn o∧(∀ i,σ'.ce o i=σ.ce o i)∧ρ' o=ρ o∧ρ'.inn o=ρ.inn o∧ρ'.ig o=ρ.ig o)
  (hin:∀ o,D o->(σ.gn o<=σ'.gn o∧(σ'.gn o=σ.gn o->ρ' o=ρ o))∧ρ.ig o<=ρ'.ig o∧(ρ'.ig o=ρ.ig o->ρ'.inn o=ρ.inn o))
  (hig:∀ o,ρ'.ig o=σ'.ig o) (hw:Belo (fun b=>B.Z b∨∃ o,D o∧Owns σ ρ o b) w.heap.size w w') (hfp:∀ o b,D o->Owns σ' ρ' o b->w.heap.size<=b∨B.Z b∨∃ p,D p∧Owns σ ρ p b)
  (hdis:∀ o p b,D o->D p->Owns σ' ρ' o b->Owns σ' ρ' p b->o=p) (hz:∀ b,Z' b->b<w'.heap.size∧(w.heap.size<=b∨B.Z b∨∃ p,D p∧Owns σ ρ p b)∧∀ o,D o->¬ Owns σ' ρ' o b)
  (hob:(∀ v x,RepI w (Imm B σ ρ w) v x->RepI w' (Imm { B with Z:=Z' } σ' ρ' w') v x)->(∀ v x,RepA w (Imm B σ ρ w) ρ σ.gn v x->RepA w' (Imm { B with Z:=Z' } σ' ρ' w') ρ' σ'.gn v x)->∀ o,D o->zne { B with Z:=Z' } σ' ρ' w' o (σ'.kd o)) :
  SatR { B with Z:=Z' } σ' a w' ρ'∧(∀ v x,RepI w (Imm B σ ρ w) v x->RepI w' (Imm { B with Z:=Z' } σ' ρ' w') v x)∧(∀ v x,RepA w (Imm B σ ρ w) ρ σ.gn v x->RepA w' (Imm { B with Z:=Z' } σ' ρ' w') ρ' σ'.gn v x)∧∀ b,Imm B σ ρ w b->Imm { B with Z:=Z' } σ' ρ' w' b:=by
 have a0:∀ o b,¬ D o->(Owns σ' ρ' o b↔Owns σ ρ o b):=fun o b hd=>by
  obtain ⟨h1,_,_,h2,h3,_⟩:=hout o hd;unfold Owns;rw [h1,h2,h3]
 have a4:∀ b,(w.heap.size<=b∨B.Z b∨∃ p,D p∧Owns σ ρ p b)->Mine B b:=fun b hb=>by
  rcases hb with h1 | h1 | ⟨p,_,h1⟩
  ·exact .inl (yce h.bel.size h1)
  ·exact (h.res b h1).1.1
  ·exact (h.own p b h1).1
 have a6:∀ b,Imm B σ ρ w b->¬ (w.heap.size<=b∨B.Z b∨∃ p,D p∧Owns σ ρ p b):=fun b hi hb=>by
  rcases hb with h1 | h1 | ⟨p,_,h1⟩
  ·have:=hi.2.1;omega
  ·exact hi.2.2.2 h1
  ·exact hi.2.2.1 p h1
 have a3:∀ b,Imm B σ ρ w b->Imm { B with Z:=Z' } σ' ρ' w' b:=fun b hi=>⟨hi.1,yb2 hi.2.1 hw.size,fun o ho=>by
  by_cases hd:D o
  ·exact a6 b hi (hfp o b hd ho)
  ·exact hi.2.2.1 o ((a0 o b hd).1 ho),fun hb=>a6 b hi (hz b hb).2.1⟩
 have a9:∀ b,Imm B σ ρ w b->w'.heap[b]?=w.heap[b]?:=fun b hi=>hw.block b hi.2.1 fun hb=>by
  rcases hb with h1 | ⟨o,_,ho⟩
  ·exact hi.2.2.2 h1
  ·exact hi.2.2.1 o ho
 have hI:∀ v x,RepI w (Imm B σ ρ w) v x->RepI w' (Imm { B with Z:=Z' } σ' ρ' w') v x:=fun v x hr =>
  hr.mono a3 fun p u hi hu=>(World.cell?_of_block (w:=w) (a9 p.block hi)).trans hu
 have hA:∀ v x,RepA w (Imm B σ ρ w) ρ σ.gn v x->RepA w' (Imm { B with Z:=Z' } σ' ρ' w') ρ' σ'.gn v x:=fun v x hr=>by
  refine hr.mono hI (fun o=>?_) (fun o e=>?_) fun o=>?_
  ·by_cases hd:D o
   ·exact (hin o hd).1.1
   ·rw [(hout o hd).2.1];exact yam _
  ·by_cases hd:D o
   ·exact (hin o hd).1.2 e
   ·exact (hout o hd).2.2.2.1
  ·by_cases hd:D o
   ·exact (hin o hd).2
   ·obtain ⟨_,_,_,_,h3,h4⟩:=hout o hd;exact ⟨by rw [h4];exact yam _,fun _=>h3⟩
 have hob:=hob hI hA
 have a5:∀ o,zne { B with Z:=Z' } σ' ρ' w' o (σ'.kd o):=fun o=>by
  by_cases hd:D o
  ·exact hob o hd
  ·obtain ⟨h1,h2,h3,h4,h5,h6⟩:=hout o hd;rw [h1];refine (h.obs o).mono h4 h5 h3 (fun b hb=>hw.block b (h.own o b hb).2 fun hn=>?_) hI hA;rcases hn with hn | ⟨p,hp,hpb⟩
   ·exact (h.res b hn).2 o hb
   ·have:=h.dis o p b hb hpb;subst this;exact hd hp
 have a2:∀ o b,¬ D o->Owns σ ρ o b->¬ (w.heap.size<=b∨B.Z b∨∃ p,D p∧Owns σ ρ p b):=fun o b hd ho hb=>by
  rcases hb with h1 | h1 | ⟨p,hp,h1⟩
  ·have:=(h.own o b ho).2;omega
  ·exact (h.res b h1).2 o ho
  ·have:=h.dis o p b ho h1;subst this;exact hd hp
 refine ⟨⟨h.bel.trans ⟨hw.os,hw.tape,hw.output,hw.size,fun k hk b0=>hw.block k (yb2 hk h.bel.size) fun hn=>?_⟩,a5,fun o b ho=>⟨?_,(a5 o).lt ho⟩,fun o p b ho hp=>?_,fun t=>?_,hig,fun b hb=>?_,fun o v hl a8=>?_,h.siz,h.dfr⟩,hI,hA,a3⟩
 ·have h3:Mine B k:=by
   rcases hn with hn | ⟨o,_,ho⟩
   ·exact (h.res k hn).1.1
   ·exact (h.own o k ho).1
  rcases h3 with h3 | h3
  ·omega
  ·exact b0 h3
 ·by_cases hd:D o
  ·exact a4 b (hfp o b hd ho)
  ·exact (h.own o b ((a0 o b hd).1 ho)).1
 ·by_cases h1:D o
  ·by_cases h2:D p
   ·exact hdis o p b h1 h2 ho hp
   ·exact absurd (hfp o b h1 ho) (a2 p b h2 ((a0 p b h2).1 hp))
  ·have a7:=(a0 o b h1).1 ho;by_cases h2:D p
   ·exact absurd (hfp p b h2 hp) (a2 o b h1 a7)
   ·exact h.dis o p b a7 ((a0 p b h2).1 hp)
 ·rw [hav];exact hA _ _ (h.tms t)
 ·obtain ⟨h1,h2,h3⟩:=hz b hb;refine ⟨⟨a4 b h2,h1⟩,fun o ho=>?_⟩;by_cases hd:D o
  ·exact h3 o hd ho
  ·exact a2 o b hd ((a0 o b hd).1 ho) h2
 ·by_cases hd:D o
  ·obtain ⟨h1,h2⟩:=(hin o hd).1;rw [h2 (by omega)];exact h.rt o v hl (by omega)
  ·obtain ⟨_,h1,_,h2,_⟩:=hout o hd;rw [h2];exact h.rt o v hl (by rw [<- h1];exact a8)
theorem SatR.step {B:Base} {σ σ':St} {a:Act} {w w':World} {ρ ρ':Ly} (h:SatR B σ a w ρ) (D:Nat->Prop) (hav:∀ t,σ'.av t=σ.av t)
  (hout:∀ o,¬ D o->σ'.kd o=σ.kd o∧σ'.gn o=σ.gn o∧(∀ i,σ'.ce o i=σ.ce o i)∧ρ' o=ρ o∧ρ'.inn o=ρ.inn o∧ρ'.ig o=ρ.ig o)
  (hin:∀ o,D o->(σ.gn o<=σ'.gn o∧(σ'.gn o=σ.gn o->ρ' o=ρ o))∧ρ.ig o<=ρ'.ig o∧(ρ'.ig o=ρ.ig o->ρ'.inn o=ρ.inn o))
  (hig:∀ o,ρ'.ig o=σ'.ig o) (hw:Belo (fun b=>∃ o,D o∧Owns σ ρ o b) w.heap.size w w') (hfp:∀ o b,D o->Owns σ' ρ' o b->w.heap.size<=b∨∃ p,D p∧Owns σ ρ p b)
  (hdis:∀ o p b,D o->D p->Owns σ' ρ' o b->Owns σ' ρ' p b->o=p)
  (hob:(∀ v x,RepI w (Imm B σ ρ w) v x->RepI w' (Imm B σ' ρ' w') v x)->(∀ v x,RepA w (Imm B σ ρ w) ρ σ.gn v x->RepA w' (Imm B σ' ρ' w') ρ' σ'.gn v x)->∀ o,D o->zne B σ' ρ' w' o (σ'.kd o)) :
  SatR B σ' a w' ρ'∧(∀ v x,RepI w (Imm B σ ρ w) v x->RepI w' (Imm B σ' ρ' w') v x)∧∀ v x,RepA w (Imm B σ ρ w) ρ σ.gn v x->RepA w' (Imm B σ' ρ' w') ρ' σ'.gn v x:=by
 obtain ⟨h1,h2,h3,_⟩:=h.stepZ D B.Z hav hout hin hig ⟨hw.os,hw.tape,hw.output,hw.size,fun k hk hn=>hw.block k hk fun hh=>hn (.inr hh)⟩ (fun o b hd ho=>(hfp o b hd ho).elim .inl fun h=>.inr (.inr h)) hdis
  (fun b hb=>⟨yb2 (h.res b hb).1.2 hw.size,.inr (.inl hb),fun o hd ho=>by
   rcases hfp o b hd ho with h1 | ⟨p,_,h1⟩
   ·have:=(h.res b hb).1.2;omega
   ·exact (h.res b hb).2 p h1⟩) hob
 exact ⟨h1,h2,h3⟩
theorem SatR.slots {B:Base} {σ σ':St} {a a':Act} {w:World} {ρ:Ly} (h:SatR B σ a w ρ) (hs:zio σ σ') (ht:∀ t,RepA w (Imm B σ ρ w) ρ σ.gn (a'.tmps.getD t undef) (σ'.av t)) (hz:a'.tmps.size=B.n) (hd:a'.defers=B.ds):SatR B σ' a' w ρ:=by
 have a0:∀ o b,Owns σ' ρ o b↔Owns σ ρ o b:=fun o b=>by unfold Owns;rw [hs.kd]
 refine ⟨h.bel,fun o=>?_,fun o b ho=>h.own o b ((a0 o b).1 ho),fun o p b ho hp=>h.dis o p b ((a0 o b).1 ho) ((a0 p b).1 hp),fun t=>?_,fun o=>by rw [hs.ig];exact h.igs o,fun b hb=>⟨(h.res b hb).1,fun o ho=>(h.res b hb).2 o ((a0 o b).1 ho)⟩,fun o v hl hg=>h.rt o v hl (by rw [<- hs.gn];exact hg),hz,hd⟩
 ·rw [hs.kd];refine (h.obs o).mono rfl rfl (fun i=>by rw [hs.ce]) (fun _ _=>rfl) (fun v x hr=>by rw [Imm.same hs.kd];exact hr) fun v x hr=>by rw [Imm.same hs.kd,hs.gn];exact hr
 ·rw [Imm.same hs.kd,hs.gn];exact ht t
theorem SatR.put {B:Base} {σ:St} {a:Act} {w:World} {ρ:Ly} (h:SatR B σ a w ρ) {d:Option Tmp} (hd:∀ t,d=some t->t<B.n) {u:Value} {v:AV} (hv:RepA w (Imm B σ ρ w) ρ σ.gn u v) :
  SatR B (app σ (wrT d v)) (a.put d u) w ρ:=by
 cases d with
 | none=>exact h
 | some d =>
  have a0:d<a.tmps.size:=by rw [h.siz];exact hd d rfl
  refine h.slots (zio.tmp σ d (.av v)) (fun t=>?_) (by simp [Act.put,h.siz]) h.dfr;show RepA _ _ _ _ _ ((upd σ (.tmp d) (.av v)).av t);rw [put_getD a d u t a0,zsc];by_cases e:t=d
  ·rw [if_pos e,if_pos e];exact hv
  ·rw [if_neg e,if_neg e];exact h.tms t
theorem SatR.world {B:Base} {σ:St} {a:Act} {w w':World} {ρ:Ly} (h:SatR B σ a w ρ) (hb:Below w.heap.size w w'):SatR B σ a w' ρ∧∀ v x,RepI w (Imm B σ ρ w) v x->RepI w' (Imm B σ ρ w') v x:=by
 obtain ⟨h1,h2,_⟩:=h.step (σ':=σ) (ρ':=ρ) (w':=w') (fun _=>False) (fun _=>rfl) (fun o _=>⟨rfl,rfl,fun _=>rfl,rfl,rfl,rfl⟩) (fun o hd=>hd.elim) h.igs (.of hb) (fun o b hd=>hd.elim) (fun o p b hd=>hd.elim) fun _ _ o hd=>hd.elim;exact ⟨h1,h2⟩
theorem SatR.kill {B:Base} {σ:St} {a:Act} {w:World} {ρ:Ly} (h:SatR B σ a w ρ) (d:Nat):SatR B (upd σ (.knd d) (.kd .dead)) a w ρ∧∀ v x,RepI w (Imm B σ ρ w) v x->RepI w (Imm B (upd σ (.knd d) (.kd .dead)) ρ w) v x:=by
 obtain ⟨h1,h2,_⟩:=h.step (σ':=upd σ (.knd d) (.kd .dead)) (ρ':=ρ) (w':=w) (fun o=>o=d) (fun t=>ziz σ d t _) (fun o hd=>⟨by rw [zfm,if_neg hd],zgi σ d o _,fun i=>zj3 σ d o i _,rfl,rfl,rfl⟩)
  (fun o _=>⟨⟨by rw [zgi];exact yam _,fun _=>rfl⟩,yam _,fun _=>rfl⟩) (fun o=>by rw [zj2];exact h.igs o) (Belo.refl _ _ _) (fun o b hd ho=>by
   subst hd
   exact absurd (by rw [zfm,if_pos rfl]) ho.lv) (fun o p b hd hp _ _=>hd.trans hp.symm) fun _ _ o hd=>by subst hd;rw [zfm,if_pos rfl];trivial
 exact ⟨h1,h2⟩
theorem SatR.kills {B:Base} {a:Act} {w:World} {ρ:Ly}:∀ (bs:yad) {σ:St},SatR B σ a w ρ->SatR B (app σ (fwr bs)) a w ρ∧∀ v x,RepI w (Imm B σ ρ w) v x->RepI w (Imm B (app σ (fwr bs)) ρ w) v x
 | [],σ,h=>⟨h,fun _ _ hr=>hr⟩
 | b::bs,σ,h=>by
  obtain ⟨h1,h2⟩:=h.kill b.1;obtain ⟨h3,h4⟩:=SatR.kills bs h1;exact ⟨h3,fun v x hr=>h4 v x (h2 v x hr)⟩
theorem zs4 (b:Nat) (cs:List AV):∀ (i:Nat) (σ:St),(app σ (zg6 b i cs)).gn=σ.gn:=by
 induction cs with
 | nil=>intro i σ;rfl
 | cons c cs ih=>intro i σ;rw [zg6,zb2,ih];exact funext fun t=>gn_cel σ b i t _
theorem celWr_ig (b:Nat) (cs:List AV):∀ (i:Nat) (σ:St),(app σ (zg6 b i cs)).ig=σ.ig:=by
 induction cs with
 | nil=>intro i σ;rfl
 | cons c cs ih=>intro i σ;rw [zg6,zb2,ih];exact funext fun t=>ig_cel σ b i t _
theorem zqm (b:Nat) (cs:List AV):∀ (i:Nat) (σ:St),(app σ (zg6 b i cs)).kd=σ.kd:=by
 induction cs with
 | nil=>intro i σ;rfl
 | cons c cs ih=>intro i σ;rw [zg6,zb2,ih];exact funext fun t=>kd_cel σ b i t _
theorem zsz (b:Nat) (cs:List AV):∀ (i:Nat) (σ:St),(app σ (zg6 b i cs)).av=σ.av:=by
 induction cs with
 | nil=>intro i σ;rfl
 | cons c cs ih=>intro i σ;rw [zg6,zb2,ih];exact funext fun t=>av_cel σ b i t _
theorem zor (b:Nat) (cs:List AV):∀ (i:Nat) (σ:St) (p j:Nat),(app σ (zg6 b i cs)).ce p j=if p=b∧i<=j∧j<i+cs.length then cs.getD (j-i) (.im .any) else σ.ce p j:=by
 induction cs with
 | nil =>
  intro i σ p j;rw [if_neg (fun e=>by have:=e.2;simp only [yah] at this;omega)];rfl
 | cons c cs ih =>
  intro i σ p j;rw [zg6,zb2,ih,ce_cel];simp only [zkL];by_cases hp:p=b
  ·by_cases hj:j=i
   ·subst hj;rw [if_neg (by omega),if_pos ⟨hp,rfl⟩,if_pos ⟨hp,by omega,by omega⟩];simp
   ·by_cases h:i+1<=j∧j<i+1+cs.length
    ·rw [if_pos ⟨hp,h⟩,if_pos ⟨hp,by omega,by omega⟩];obtain ⟨m,hm⟩:∃ m,j-i=m+1:=⟨j-i-1,by omega⟩;rw [hm,show j-(i+1)=m from by omega];simp
    ·rw [if_neg (fun e=>h e.2),if_neg (fun e=>hj e.2),if_neg (fun e=>h (by omega))]
  ·rw [if_neg (fun e=>hp e.1),if_neg (fun e=>hp e.1),if_neg (fun e=>hp e.1)]
theorem zau (σ:St) (u v:List (Loc×Ct)):app σ (u++v)=app (app σ u) v:=by
 induction u generalizing σ with
 | nil=>rfl
 | cons p u ih=>exact ih _
def zf4 (σ:St) (used:Option Nat) (d:Nat) (k:Kd) (cs:List AV):St :=
 app (app (match used with | some b=>upd σ (.knd b) (.kd .dead) | none=>σ) [(.gen d,.n (σ.gn d+1)),(.knd d,.kd k)]) (zg6 d 0 cs)
def setρ (ρ:Ly) (d:Nat) (v:Value):Ly:={ ρ with root:=fun o=>if o=d then v else ρ o }
theorem setρ_eq (ρ:Ly) (d:Nat) (v:Value) (o:Nat):(setρ ρ d v) o=if o=d then v else ρ o:=rfl
theorem zmr (σ:St) (used:Option Nat) (d:Nat) (k:Kd) (cs:List AV) (o:Nat):(zf4 σ used d k cs).gn o=if o=d then σ.gn d+1 else σ.gn o:=by
 unfold zf4;rw [zs4];simp only [zb2,zex];rw [zgi,zui];cases used with
 | none=>rfl
 | some b=>simp only [zgi]
theorem zok (σ:St) (used:Option Nat) (d:Nat) (k:Kd) (cs:List AV) (o:Nat):(zf4 σ used d k cs).kd o=if o=d then k else if used=some o then .dead else σ.kd o:=by
 unfold zf4;rw [zqm];simp only [zb2,zex];rw [zfm,kd_gen];cases used with
 | none=>simp
 | some b =>
  simp only [zfm,zkF];by_cases e:o=d
  ·simp [e]
  ·by_cases e2:o=b
   ·subst e2;simp
   ·rw [if_neg e,if_neg e,if_neg e2,if_neg (fun h=>e2 h.symm)]
theorem newSt_av (σ:St) (used:Option Nat) (d:Nat) (k:Kd) (cs:List AV) (t:Nat):(zf4 σ used d k cs).av t=σ.av t:=by
 unfold zf4;rw [zsz];simp only [zb2,zex];rw [ziz,av_gen];cases used with
 | none=>rfl
 | some b=>simp only [ziz]
theorem newSt_ce (σ:St) (used:Option Nat) (d:Nat) (k:Kd) (cs:List AV) (o i:Nat) (h:o≠d):(zf4 σ used d k cs).ce o i=σ.ce o i:=by
 unfold zf4;rw [zor,if_neg (fun e=>h e.1)];simp only [zb2,zex];rw [zj3,ce_gen];cases used with
 | none=>rfl
 | some b=>simp only [zj3]
theorem newSt_new (σ:St) (used:Option Nat) (d:Nat) (k:Kd) (cs:List AV) (i:Nat) (h:i<cs.length):(zf4 σ used d k cs).ce d i=cs.getD i (.im .any):=by
 unfold zf4;rw [zor,if_pos ⟨rfl,by omega,by omega⟩];rfl
theorem newSt_ig (σ:St) (used:Option Nat) (d:Nat) (k:Kd) (cs:List AV) (o:Nat):(zf4 σ used d k cs).ig o=σ.ig o:=by
 unfold zf4;rw [celWr_ig];simp only [zb2,zex];rw [zj2,ig_gen];cases used with
 | none=>rfl
 | some b=>simp only [zj2]
section
variable {B:Base} {σ:St} {a:Act} {w w':World} {ρ:Ly} {used:Option Nat} {d:Nat} {k:Kd} {cs:List AV} {hv:Value} {row:Option Nat}
structure zsj (σ:St) (w w':World) (ρ:Ly) (used:Option Nat) (hv:Value) (row:Option Nat):Prop where
 grown:w.grownBy w' row
 used_:∀ b,row=some b->∃ o,used=some o∧Owns σ ρ o b
 lies:∀ b,zbm hv=some b->row=some b∨w.heap.size<=b
theorem SatR.new (h:SatR B σ a w ρ) (m:zsj σ w w' ρ used hv row) (hk:noInn k=true) (hobj:(∀ v x,RepI w (Imm B σ ρ w) v x->RepI w' (Imm B (zf4 σ used d k cs) (setρ ρ d hv) w') v x) ->
  (∀ v x,RepA w (Imm B σ ρ w) ρ σ.gn v x->RepA w' (Imm B (zf4 σ used d k cs) (setρ ρ d hv) w') (setρ ρ d hv) (zf4 σ used d k cs).gn v x)->zne B (zf4 σ used d k cs) (setρ ρ d hv) w' d k) :
  SatR B (zf4 σ used d k cs) a w' (setρ ρ d hv):=by
 have hD:∀ o,¬ (o=d∨used=some o)->o≠d∧used≠some o:=fun o hd=>⟨fun e=>hd (.inl e),fun e=>hd (.inr e)⟩;refine (h.step (fun o=>o=d∨used=some o) (fun t=>newSt_av ..) (fun o hd=>?_) (fun o hd=>?_) (fun o=>by rw [newSt_ig];exact h.igs o) ?_ (fun o b hd ho=>?_) (fun o p b hd hp ho a3=>?_) fun hI hA o hd=>?_).1
 ·obtain ⟨h1,h2⟩:=hD o hd;exact ⟨by rw [zok,if_neg h1,if_neg h2],by rw [zmr,if_neg h1],fun i=>newSt_ce _ _ _ _ _ _ _ h1,by rw [setρ_eq,if_neg h1],rfl,rfl⟩
 ·refine ⟨⟨by rw [zmr];split<;>(try subst_vars)<;>omega,fun e=>?_⟩,yam _,fun _=>rfl⟩;rw [zmr] at e;by_cases e2:o=d
  ·rw [if_pos e2,e2] at e;omega
  ·rw [setρ_eq,if_neg e2]
 ·refine ⟨m.grown.os,m.grown.tape,m.grown.output,m.grown.size,fun b hb hn=>m.grown.block b hb fun e=>?_⟩;obtain ⟨o,ho,a4⟩:=m.used_ b e.symm;exact hn ⟨o,.inr ho,a4⟩
 ·by_cases e:o=d
  ·subst e;unfold Owns at ho;rw [zok,if_pos rfl,setρ_eq,if_pos rfl] at ho;rcases m.lies b (fpk_flat hk ho) with h1 | h1
   ·obtain ⟨p,hp,a2⟩:=m.used_ b h1;exact .inr ⟨p,.inr hp,a2⟩
   ·exact .inl h1
  ·have hu:=hd.resolve_left e;exact absurd (by rw [zok,if_neg e,if_pos hu]) ho.lv
 ·have a0:∀ o,(o=d∨used=some o)->Owns (zf4 σ used d k cs) (setρ ρ d hv) o b->o=d:=fun o hd ho=>by
   by_cases e:o=d
   ·exact e
   ·exact absurd (by rw [zok,if_neg e,if_pos (hd.resolve_left e)]) ho.lv
  rw [a0 o hd ho,a0 p hp a3]
 ·by_cases e:o=d
  ·subst e;rw [zok,if_pos rfl];exact hobj hI hA
  ·rw [zok,if_neg e,if_pos (hd.resolve_left e)];trivial
end
end
section
def Eff (P:Program) (B:Base) (o:Oper) (rd:List Loc) (σ:St) (wr:List (Loc×Ct)):Prop :=
 ∀ σ',(∀ l∈rd,σ' l=σ l)->∀ a w,Sat B σ' a w->∀ (K:Act->World->Prop) (Q:Exit->Act->World->Prop),(∀ a' w',Sat B (app σ' wr) a' w'->K a' w')->o.wp P a w K Q
section
variable {P:Program} {B:Base} {o:Oper} {σ:St} {K:Fx->Prop}
theorem za0 {a:Act} {w:World} {ρ:Ly} (h:SatR B σ a w ρ) (x:Operand):RepA w (Imm B σ ρ w) ρ σ.gn (a.eval x) (evA σ x):=by
 cases x with
 | tmp t=>exact h.tms t
 | const v=>exact .im _ _ (.val v)
 | global g=>exact .im _ _ (.any _)
 | func f=>exact .im _ _ (.fn f [] [] rfl (by simp))
theorem zai {σ':St} {x:Operand} (h:∀ l∈opd x,σ' l=σ l):evA σ' x=evA σ x:=by
 cases x with
 | tmp t =>
  have e:=h (.tmp t) (by simp [opd]);show σ'.av t=σ.av t;unfold St.av;rw [e]
 | const v=>rfl
 | global g=>rfl
 | func f=>rfl
theorem RepA.im_inv {w:World} {S:Nat->Prop} {ρ:Ly} {γ:Nat->Nat} {v:Value} {x:IV} (h:RepA w S ρ γ v (.im x)):RepI w S v x:=by
 cases h with
 | im _ _ h=>exact h
theorem zcy {w:World} {S:Nat->Prop} {ρ:Ly} {γ:Nat->Nat} {v:Value} {x:AV} {k:IntKind} {n:Int} (e:asInt x=some (k,n)) (h:RepA w S ρ γ v x):v=.int k n:=by
 unfold asInt at e;split at e
 ·injection e with e
  injection e with e1 e2
  subst e1 e2;cases h.im_inv;rfl
 ·cases e
theorem zki {w:World} {S:Nat->Prop} {ρ:Ly} {γ:Nat->Nat} {v:Value} {x:AV} {b:Bool} (e:asBool x=some b) (h:RepA w S ρ γ v x):v=.bool b:=by
 unfold asBool at e;split at e
 ·injection e with e
  subst e;cases h.im_inv;rfl
 ·cases e
theorem ztm {w:World} {S:Nat->Prop} {ρ:Ly} {γ:Nat->Nat} {v:Value} {x:AV} {b:ByteArray} (e:asStr x=some b) (h:RepA w S ρ γ v x):v=.string b:=by
 unfold asStr at e;split at e
 ·injection e with e
  subst e;cases h.im_inv;rfl
 ·cases e
theorem zle (hd:zdh B.n o=true):∀ t,o.dst=some t->t<B.n:=fun t e=>by
 unfold zdh at hd;rw [e] at hd;exact of_decide_eq_true hd
theorem Eff.pure (hd:zdh B.n o=true) {rd:List Loc} {v:AV}
  (h:∀ σ',(∀ l∈rd,σ' l=σ l)->∀ a w ρ,SatR B σ' a w ρ->∃ u,(execOp a.eval o).run P w=.ok (.value u) w∧RepA w (Imm B σ' ρ w) ρ σ'.gn u v):Eff P B o rd σ (wrT o.dst v):=by
 intro σ' hag a w ⟨ρ,hs⟩ K Q hK;obtain ⟨u,hr,hv⟩:=h σ' hag a w ρ hs;unfold Oper.wp;rw [hr,Oper.upon_value];exact hK _ _ ⟨ρ,hs.put (zle hd) hv⟩
theorem aMove_ok {x:Operand} (hop:o.op=.move x∨o.op=.assign x) (hd:zdh B.n o=true):Eff P B o (opd x) σ (wrT o.dst (evA σ x)) :=
 Eff.pure hd fun σ' hag a w ρ hs=>⟨a.eval x,by rcases hop with e | e<;>simp [execOp,e],by rw [<- zai hag];exact za0 hs x⟩
theorem vB_rep {w:World} {S:Nat->Prop} {ρ:Ly} {γ:Nat->Nat} (b:Bool):RepA w S ρ γ (.bool b) (vB b):=.im _ _ (.val _)
theorem zdt {w:World} {S:Nat->Prop} {ρ:Ly} {γ:Nat->Nat} (v:Value):RepA w S ρ γ v (.im (.val v)):=.im _ _ (.val _)
theorem zao {σ':St} {l m:List Loc} (h:∀ x∈l++m,σ' x=σ x):∀ x∈l,σ' x=σ x:=fun x hx=>h x (yai _ hx)
theorem za3 {σ':St} {l m:List Loc} (h:∀ x∈l++m,σ' x=σ x):∀ x∈m,σ' x=σ x:=fun x hx=>h x (yaf _ hx)
theorem Both.out {b:Bool} {A C:Prop} (h:Both b A C):(b=true->A)∧(b=false->C):=by unfold Both at h;exact h
theorem Nf.out {α:Type} {a:α} {F:α->Prop} (h:Nf a F):F a:=by unfold Nf at h;obtain ⟨b,rfl,h⟩:=h;exact h
theorem Cut.out {body:(St->Prop)->Prop} {rest:St->Prop} (h:Cut body rest):∃ Post:St->Prop,body (fun σ'=>∃ σ1,Ent σ' σ1∧Post σ1)∧∀ σ,Post σ->∃ φ,Holds σ φ∧(φ->rest σ):=by unfold Cut at h;exact h
theorem Side.out {A C:Prop} (h:Side A C):A∧C:=by unfold Side at h;exact h
theorem aPick_ok {c x y:Operand} (hop:o.op=.pick c x y) (hd:zdh B.n o=true) (h:aPick o σ K c x y):∃ fx,K fx∧Eff P B o fx.rd σ fx.wr:=by
 unfold aPick at h;split at h
 ·rename_i t ht
  have run:∀ σ',(∀ l∈opd c++opd x++opd y,σ' l=σ l)->∀ a w ρ,SatR B σ' a w ρ->(execOp a.eval o).run P w=.ok (.value (if t=true then a.eval x else a.eval y)) w:=fun σ' hag a w ρ hs=>by
   have h1:=za0 hs c;rw [zai (zao (zao hag))] at h1;simp [execOp,hop,zki ht h1,Go.asBool]
  have h:=h.out;cases ht2:t with
  | true =>
   refine ⟨_,h.1 ht2,Eff.pure hd fun σ' hag a w ρ hs=>⟨_,run σ' hag a w ρ hs,?_⟩⟩;have h1:=za0 hs x;rw [zai (za3 (zao hag))] at h1;rw [ht2];exact h1
  | false =>
   refine ⟨_,h.2 ht2,Eff.pure hd fun σ' hag a w ρ hs=>⟨_,run σ' hag a w ρ hs,?_⟩⟩;have h1:=za0 hs y;rw [zai (za3 hag)] at h1;rw [ht2];exact h1
 ·exact h.elim
theorem rng_wrap {k:IntKind} {n:Int} (h:rng k n):k.wrap n=n:=by
 unfold rng at h;split at h
 ·exact IntWalk.i64_in n (by unfold inR at h;exact h)
 ·simp [IntKind.wrap,IntKind.bits,IntKind.signed];omega
 ·simp [IntKind.wrap,IntKind.bits,IntKind.signed];omega
 ·exact h.elim
theorem zav.out {k:IntKind} {n:Int} {F:Int->Prop} (h:zav k n F):F (k.wrap n):=by
 unfold zav at h;rcases h with ⟨h1,h2⟩ | h
 ·rw [rng_wrap h1];exact h2
 ·exact h
theorem aUn_ok {op:UnOp} {x:Operand} {t:TypeId} (hop:o.op=.unOp op t x) (hd:zdh B.n o=true) (h:aUn o σ K op x):∃ fx,K fx∧Eff P B o fx.rd σ fx.wr:=by
 unfold aUn at h;split at h
 ·rename_i b hb;refine ⟨_,h,Eff.pure hd fun σ' hag a w ρ hs=>⟨.bool !b,?_,vB_rep _⟩⟩;have h1:=za0 hs x;rw [zai hag] at h1;simp [execOp,hop,zki hb h1,Op.unary]
 ·split at h
  ·rename_i k n hx;refine ⟨_,h.out,Eff.pure hd fun σ' hag a w ρ hs=>⟨.int k (k.wrap (0-n)),?_,zdt _⟩⟩;have h1:=za0 hs x;rw [zai hag] at h1;simp [execOp,hop,zcy hx h1,Op.unary,Op.intArith]
  ·exact h.elim
 ·exact h.elim
theorem aBin_ok {op:BinOp} {x y:Operand} {t t':TypeId} (hop:o.op=.binOp op t x y t') (hd:zdh B.n o=true) (h:aBin P o σ K op t x y):∃ fx,K fx∧Eff P B o fx.rd σ fx.wr:=by
 unfold aBin at h;split at h
 ·rename_i a7;have a2:op=.shr:=by cases op<;>first | rfl | cases a7
  subst a2;split at h
  ·rename_i k a kb b k' hx hy hu;obtain ⟨hk,h⟩:=h.ok;simp only [yar,decide_eq_true_eq] at hk;obtain ⟨rfl,rfl⟩:=hk;obtain ⟨⟨h1,h2,h3,h4⟩,h⟩:=h.out;refine ⟨_,h,Eff.pure hd fun σ' hag c w ρ hs=>⟨_,?_,zdt _⟩⟩;have g1:=za0 hs x;have g2:=za0 hs y;rw [zai (zao hag)] at g1;rw [zai (za3 hag)] at g2;have a5:min b.toNat IntKind.u64.bits=b.toNat:=by simp [IntKind.bits];omega
   have hb:¬ b<0:=by omega
   have a4:binOp .shr t (.int .u64 a) (.int kb b)=Pure.pure (.int .u64 (a / 2^b.toNat)):=by
    simp only [binOp,Op.shift,if_neg hb,a5];rw [Int.fdiv_eq_ediv_of_nonneg a (by exact Int.le_of_lt (Int.pow_pos (by decide)))]
   simp only [execOp,hop,zcy hx g1,zcy hy g2,Sem.run_bind,eqGuard,Result.andThen_ok,a4,Sem.run_pure];rfl
  ·exact h.elim
 split at h
 ·rename_i a b hx hy;obtain ⟨hk,h2⟩:=h.ok;clear h;rw [yar] at hk;have a2:op=.add:=by cases op<;>first | rfl | cases hk.2
  subst a2;obtain ⟨h1,h⟩:=h2.out;refine ⟨_,h,Eff.pure hd fun σ' hag c w ρ hs=>⟨_,?_,zdt _⟩⟩;have g1:=za0 hs x;have g2:=za0 hs y;rw [zai (zao hag)] at g1;rw [zai (za3 hag)] at g2
  have a6:¬ (((a.size+b.size:Nat):Int) > IntKind.i64.max):=by
   have:IntKind.i64.max=9223372036854775807:=by rfl
   rw [this];omega
  simp only [execOp,hop,ztm hx g1,ztm hy g2,Sem.run_bind,eqGuard,Result.andThen_ok,binOp,Op.stringOp,if_neg a6,Sem.run_pure];rfl
 ·split at h
  ·rename_i k b k' d hx hy;obtain ⟨hk,h⟩:=h.ok;have hk:=of_decide_eq_true hk;subst hk
   have a0:∀ v:Value,(binOp op t (.int k b) (.int k d)=Pure.pure v)->Eff P B o (opd x++opd y) σ (wrT o.dst (.im (.val v))):=fun v hv =>
    Eff.pure hd fun σ' hag a w ρ hs=>by
     have h1:=za0 hs x;have h2:=za0 hs y;rw [zai (zao hag)] at h1;rw [zai (za3 hag)] at h2;refine ⟨v,?_,zdt _⟩
     have hg:∀ W,(eqGuard op t x y (.int k b) (.int k d)).run P W=.ok () W:=fun W=>by
      unfold eqGuard;cases op<;>rfl
     simp only [execOp,hop,zcy hx h1,zcy hy h2,Sem.run_bind,hg,Result.andThen_ok,hv,Sem.run_pure]
   cases op<;>simp only at h
   case add=>exact ⟨_,h.out,a0 _ (by simp [binOp,Op.intArith])⟩
   case sub=>exact ⟨_,h.out,a0 _ (by simp [binOp,Op.intArith])⟩
   case mul=>exact ⟨_,h.out,a0 _ (by simp [binOp,Op.intArith])⟩
   case quo =>
    obtain ⟨⟨h1,h2,h3⟩,h⟩:=h.out;exact ⟨_,h,a0 _ (by simp [binOp,Op.intDiv,Int.tdiv_eq_ediv_of_nonneg h2,rng_wrap h1];omega)⟩
   case rem =>
    obtain ⟨⟨h1,h2,h3⟩,h⟩:=h.out;exact ⟨_,h,a0 _ (by simp [binOp,Op.intDiv,Int.tmod_eq_emod_of_nonneg h2];omega)⟩
   case xor=>exact ⟨_,h,a0 _ (by simp [binOp,Op.intBits,xorK])⟩
   case eql=>exact ⟨_,h,a0 _ (by simp [binOp,Op.intCmp];rfl)⟩
   case neq=>exact ⟨_,h,a0 _ (by simp [binOp,Op.intCmp,bne];rfl)⟩
   case lss=>exact ⟨_,h,a0 _ (by simp [binOp,Op.intCmp])⟩
   case leq=>exact ⟨_,h,a0 _ (by simp [binOp,Op.intCmp])⟩
   case gtr=>exact ⟨_,h,a0 _ (by simp [binOp,Op.intCmp])⟩
   case geq=>exact ⟨_,h,a0 _ (by simp [binOp,Op.intCmp])⟩
   all_goals exact h.elim
  ·split at h
   ·rename_i b d hx hy
    have a0:∀ v:Value,(∀ W,(binOp op t (.bool b) (.bool d)).run P W=.ok v W)->Eff P B o (opd x++opd y) σ (wrT o.dst (.im (.val v))):=fun v hv =>
     Eff.pure hd fun σ' hag a w ρ hs=>by
      have h1:=za0 hs x;have h2:=za0 hs y;rw [zai (zao hag)] at h1;rw [zai (za3 hag)] at h2;refine ⟨v,?_,zdt _⟩
      have hg:∀ W,(eqGuard op t x y (.bool b) (.bool d)).run P W=.ok () W:=fun W=>by
       unfold eqGuard;cases op<;>rfl
      simp only [execOp,hop,zki hx h1,zki hy h2,Sem.run_bind,hg,Result.andThen_ok,hv,Sem.run_pure]
    have a3:isBl P t=true->P.underlying t=some .bool:=fun e=>by
     unfold isBl at e;split at e
     ·assumption
     ·cases e
    cases op<;>simp only at h
    case eql=>obtain ⟨h1,h⟩:=h.ok;exact ⟨_,h,a0 _ (fun W=>run_eql_bool W t b d (a3 h1))⟩
    case neq=>obtain ⟨h1,h⟩:=h.ok;exact ⟨_,h,a0 _ (fun W=>run_neq_bool W t b d (a3 h1))⟩
    all_goals exact h.elim
   ·exact h.elim
theorem nilP_inv {w:World} {S:Nat->Prop} {ρ:Ly} {γ:Nat->Nat} {v:Value} {x:AV} {b:Bool} (e:nilP x=some b) (h:RepA w S ρ γ v x):∃ q:Option Addr,v=.pointer q∧q.isNone=b:=by
 unfold nilP at e;split at e
 ·injection e with e
  have h:=h.im_inv;cases h;exact ⟨none,rfl,e⟩
 ·injection e with e
  have h:=h.im_inv;cases h;exact ⟨_,rfl,e⟩
 ·injection e with e
  have h:=h.im_inv;cases h;exact ⟨_,rfl,e⟩
 ·cases e
theorem zv4 {t:TypeId} (hp:isPt P t=true) (q:Option Addr) (W:World):(Op.equal t (.pointer q) (.pointer none)).run P W=.ok q.isNone W:=by
 unfold isPt at hp;split at hp
 ·rename_i e hu;unfold Op.equal Op.maxDepth Op.equalIn;rw [Sem.run_bind,run_underlying hu];cases q<;>simp
 ·cases hp
theorem aBinN_ok {op:BinOp} {t z:TypeId} {x y:Operand} (hop:o.op=.binOp op t x y z) (hp:isPt P t=true) (hd:zdh B.n o=true) (h:aBinN o σ K op x y):∃ fx,K fx∧Eff P B o fx.rd σ fx.wr:=by
 unfold aBinN at h;split at h
 ·rename_i b hx hy
  have a0:∀ v:Value,(∀ q W,q.isNone=b->(binOp op t (.pointer q) (.pointer none)).run P W=.ok v W)->Eff P B o (opd x++opd y) σ (wrT o.dst (.im (.val v))):=fun v hv =>
   Eff.pure hd fun σ' hag a w ρ hs=>by
    have h1:=za0 hs x;have h2:=za0 hs y;rw [zai (zao hag)] at h1;rw [zai (za3 hag)] at h2;obtain ⟨q,e1,e2⟩:=nilP_inv hx h1;obtain ⟨q',e3,e4⟩:=nilP_inv hy h2;cases q' with
    | some _=>cases e4
    | none =>
     refine ⟨v,?_,zdt _⟩
     have hg:∀ W,(eqGuard op t x y (.pointer q) (.pointer none)).run P W=.ok () W:=fun W=>by
      unfold eqGuard;cases op<;>rfl
     simp only [execOp,hop,e1,e3,Sem.run_bind,hg,Result.andThen_ok,hv q _ e2,Sem.run_pure]
  cases op<;>simp only at h
  case eql=>exact ⟨_,h,a0 _ fun q W e=>by simp only [binOp,Sem.run_bind,zv4 hp,Result.andThen_ok,Sem.run_pure,e]⟩
  case neq=>exact ⟨_,h,a0 _ fun q W e=>by simp only [binOp,Sem.run_bind,zv4 hp,Result.andThen_ok,Sem.run_pure,e]⟩
  all_goals exact h.elim
 ·exact h.elim
theorem isNilC_inv {w:World} {S:Nat->Prop} {ρ:Ly} {γ:Nat->Nat} {v:Value} {x:AV} (e:isNilC x=true) (h:RepA w S ρ γ v x):v=.slice none 0 0:=by
 unfold isNilC at e;split at e
 ·have h:=h.im_inv;cases h;rfl
 ·cases e
theorem nilS_inv {w:World} {S:Nat->Prop} {ρ:Ly} {γ:Nat->Nat} {v:Value} {x:AV} {b:Bool} (e:nilS x b) (h:RepA w S ρ γ v x):∃ (q:Option Addr) (n c:Nat),v=.slice q n c∧q.isNone=b:=by
 unfold nilS at e;split at e
 ·have h:=h.im_inv;rcases e with ⟨rfl,rfl⟩ | ⟨rfl,es,rfl⟩
  ·cases h;exact ⟨none,0,0,rfl,rfl⟩
  ·cases h;exact ⟨_,_,_,rfl,rfl⟩
 ·exact e.elim
theorem zty {t:TypeId} (hp:isSl P t=true) (q:Option Addr) (n c:Nat) (W:World):(Op.equal t (.slice q n c) (.slice none 0 0)).run P W=.ok q.isNone W:=by
 unfold isSl at hp;split at hp
 ·rename_i e hu;unfold Op.equal Op.maxDepth Op.equalIn;rw [Sem.run_bind,run_underlying hu];cases q<;>simp
 ·cases hp
theorem aBinZ_ok {op:BinOp} {t z:TypeId} {x y:Operand} (hop:o.op=.binOp op t x y z) (hp:isSl P t=true) (hd:zdh B.n o=true) (h:aBinZ o σ K op x y):∃ fx,K fx∧Eff P B o fx.rd σ fx.wr:=by
 unfold aBinZ at h;split at h
 ·rename_i hy;obtain ⟨b,hx,h⟩:=h
  have a0:∀ v:Value,(∀ q n c W,q.isNone=b->(binOp op t (.slice q n c) (.slice none 0 0)).run P W=.ok v W)->Eff P B o (opd x++opd y) σ (wrT o.dst (.im (.val v))):=fun v hv =>
   Eff.pure hd fun σ' hag a w ρ hs=>by
    have h1:=za0 hs x;have h2:=za0 hs y;rw [zai (zao hag)] at h1;rw [zai (za3 hag)] at h2;obtain ⟨q,n,c,e1,e2⟩:=nilS_inv hx h1;have e3:=isNilC_inv hy h2;refine ⟨v,?_,zdt _⟩
    have hg:∀ W,(eqGuard op t x y (.slice q n c) (.slice none 0 0)).run P W=.ok () W:=fun W=>by
     unfold eqGuard;cases op<;>rfl
    simp only [execOp,hop,e1,e3,Sem.run_bind,hg,Result.andThen_ok,hv q n c _ e2,Sem.run_pure]
  cases op<;>simp only at h
  case eql=>exact ⟨_,h,a0 _ fun q n c W e=>by simp only [binOp,Sem.run_bind,zty hp,Result.andThen_ok,Sem.run_pure,e]⟩
  case neq=>exact ⟨_,h,a0 _ fun q n c W e=>by simp only [binOp,Sem.run_bind,zty hp,Result.andThen_ok,Sem.run_pure,e]⟩
  all_goals exact h.elim
 ·exact h.elim
theorem aConvert_ok {s d:TypeId} {x:Operand} (hop:o.op=.convert s d x) (hd:zdh B.n o=true) (hsrc:∃ u,P.underlying s=some u) (h:aConvert P o σ K d x):∃ fx,K fx∧Eff P B o fx.rd σ fx.wr:=by
 unfold aConvert at h;split at h
 ·rename_i k0 n k hx hu;obtain ⟨h1,h⟩:=h.out;obtain ⟨u,a0⟩:=hsrc;refine ⟨_,h,Eff.pure hd fun σ' hag a w ρ hs=>⟨.int k n,?_,zdt _⟩⟩;have h2:=za0 hs x;rw [zai hag] at h2;simp [execOp,hop,zcy hx h2,convert,run_underlying hu,run_underlying a0,Conv.intToInt,rng_wrap h1]
 ·exact h.elim
end
end
section
section
variable {P:Program} {B:Base} {o:Oper} {σ:St} {K:Fx->Prop}
theorem zrh {t:TypeId} {b:Bool} (h:zp2 P t=some b) (w:World):(isAgg t).run P w=.ok b w:=by
 unfold zp2 at h;cases hu:P.underlying t with
 | none=>rw [hu] at h;cases h
 | some d =>
  rw [hu] at h;simp only [yaj,zkF] at h;cases d<;>simp_all [isAgg,run_underlying hu]
theorem zie {t:TypeId} {m:Nat} (h:szOf P t=some m) (w:World):(Go.sizeOf t).run P w=.ok m w:=by
 unfold szOf at h;cases hi:P.info? t with
 | none=>rw [hi] at h;cases h
 | some i =>
  rw [hi] at h;simp only [yaj,zkF] at h;simp [Go.sizeOf,typeInfo,hi,h]
theorem fld_spec {t:TypeId} {f off ft:Nat} (h:fldOf P t f=some (off,ft)):∃ fs x,P.underlying t=some (.struct fs)∧fs[f]?=some x∧x.offset=off∧x.type=ft:=by
 unfold fldOf at h;split at h
 ·rename_i fs hu;cases hx:fs[f]? with
  | none=>rw [hx] at h;cases h
  | some x =>
   rw [hx] at h;simp only [yaj,zkF,zkG] at h;exact ⟨fs,x,hu,hx,h.1,h.2⟩
 ·cases h
theorem zeg {t e:TypeId} (h:zhs P t=some e):P.underlying t=some (.slice e):=by
 unfold zhs at h;split at h
 ·rename_i e' hu;injection h with h
  rw [<- h];exact hu
 ·cases h
theorem zd6 {σ':St} {b:Nat} (h:σ' (.gen b)=σ (.gen b)):σ'.gn b=σ.gn b:=by unfold St.gn;rw [h]
theorem zpf {σ':St} {b:Nat} (h:σ' (.knd b)=σ (.knd b)):σ'.kd b=σ.kd b:=by unfold St.kd;rw [h]
theorem ce_same {σ':St} {b i:Nat} (h:σ' (.cel b i)=σ (.cel b i)):σ'.ce b i=σ.ce b i:=by unfold St.ce;rw [h]
theorem boxLen_same {σ':St} {b:Nat} (h:σ'.kd b=σ.kd b):zln σ' b=zln σ b:=by unfold zln;rw [h]
theorem zwp:∀ {cs:List AV} {l:List IV},toIVs cs=some l->cs=l.map .im
 | [],l,h=>by simp only [toIVs,zkF] at h;subst h;rfl
 | .im x::cs,l,h=>by
  simp only [toIVs] at h;cases hc:toIVs cs with
  | none=>rw [hc] at h;cases h
  | some l' =>
   rw [hc] at h;simp only [yaj,zkF] at h;subst h;rw [zwp hc];rfl
 | .own ..::_,_,h=>by cases h
 | .osl ..::_,_,h=>by cases h
 | .elt ..::_,_,h=>by cases h
 | .fn ..::_,_,h=>by cases h
 | .agg ..::_,_,h=>by cases h
 | .tup ..::_,_,h=>by cases h
def Reps (w:World) (S:Nat->Prop) (ρ:Ly) (γ:Nat->Nat) (us:List Value) (cs:List AV):Prop :=
 us.length=cs.length∧∀ (i:Nat) u x,us[i]?=some u->cs[i]?=some x->RepA w S ρ γ u x
def zk2 (w:World) (S:Nat->Prop) (us:List Value) (cs:List IV):Prop :=
 us.length=cs.length∧∀ (i:Nat) u x,us[i]?=some u->cs[i]?=some x->RepI w S u x
theorem Reps.ims {w:World} {S:Nat->Prop} {ρ:Ly} {γ:Nat->Nat} {us:List Value} {l:List IV} (h:Reps w S ρ γ us (l.map .im)):zk2 w S us l :=
 ⟨by simpa using h.1,fun i u x hu hx=>(h.2 i u (.im x) hu (by simp [hx])).im_inv⟩
theorem zot {w:World} {S:Nat->Prop} {ρ:Ly} {γ:Nat->Nat} {us:List Value} {cs:List AV} (h:Reps w S ρ γ us cs) (h1:∀ u∈us,u.oneCell'=true):RepA w S ρ γ (.agg us.toArray) (aggA cs):=by
 unfold aggA;split
 ·rename_i l hl;have e:=zwp hl;rw [e] at h;have h:=h.ims;exact .im _ _ (.agg us l h.1 h1 h.2)
 ·exact .agg us cs h.1 h1 h.2
theorem zj9 {a:Act} {w:World} {ρ:Ly} (h:SatR B σ a w ρ) {v:Value} {b g i m:Nat} {t:TypeId} (hv:RepA w (Imm B σ ρ w) ρ σ.gn v (.own b g i)) (hg:σ.gn b=g) (hk:σ.kd b=.box t m) :
  ∃ (q:Nat) (us:List Value),v=.pointer (some ⟨q,i,none⟩)∧ρ b=.pointer (some ⟨q,0,none⟩)∧w.heap[q]?=some (.cells us.toArray t (0,0))∧us.length=m∧(∀ u∈us,u.oneCell'=true) ∧
   (∀ (j:Nat) u,us[j]?=some u->w.cell? ⟨q,j,none⟩=some u)∧∀ (j:Nat) u,us[j]?=some u->RepA w (Imm B σ ρ w) ρ σ.gn u (σ.ce b j):=by
 cases hv with
 | own _ _ _ _ h1 hgg hh =>
  obtain ⟨q,e1,e2⟩:=hh hg;have ho:=h.obs b;rw [hk] at ho;obtain ⟨q',us,e3,h3,h4,h5,h6⟩:=ho;rw [e1] at e3;injection e3 with e3
  injection e3 with e3
  injection e3 with e3
  subst e3;refine ⟨q,us,e2,e1,h3,h4,h5,fun j u hu=>?_,h6⟩;unfold World.cell?;simp only [h3];simpa using hu
theorem zk0 {b i:Nat} (h:i<zln σ b):∃ t m,σ.kd b=.box t m∧i<m:=by
 unfold zln at h;split at h
 ·rename_i t m hk;exact ⟨t,m,hk,h⟩
 ·omega
theorem zqb {b:Nat} {t:TypeId} {m:Nat} (h:σ.kd b=.box t m):zln σ b=m:=by unfold zln;rw [h]
theorem flat_get {α:Type} {k:Nat}:∀ {es:List (List α)} {i j:Nat} {e:List α},(∀ x∈es,x.length=k)->es[i]?=some e->j<k->es.flatten[i*k+j]?=e[j]?
 | [],i,j,e,_,h,_=>by simp at h
 | x::es,0,j,e,hk,h,hj=>by
  simp only [yc5,zkF] at h;subst h;have:=hk x (by simp);rw [ya4,ydv,yae,yaq,if_pos (by omega)]
 | x::es,i+1,j,e,hk,h,hj=>by
  have hx:=hk x (by simp);rw [ya4,yaq,if_neg (by rw [hx,Nat.add_mul];omega),hx];have e1:(i+1)*k+j-k=i*k+j:=by rw [Nat.add_mul];omega
  rw [e1];exact flat_get (fun y hy=>hk y (by simp [hy])) (by simpa using h) hj
theorem zby {α:Type} {k:Nat}:∀ {es:List (List α)},(∀ x∈es,x.length=k)->es.flatten.length=es.length*k
 | [],_=>by simp
 | x::es,h=>by
  rw [ya4,zkJ,zby fun y hy=>h y (by simp [hy]),h x (by simp),zkL,Nat.add_mul];omega
theorem esOf_cases {k:Kd} {es:List (List IV)} (h:esOf k=some es):∃ t n,k=.row t n es∨k=.que t n es:=by
 cases k with
 | row t n es'=>injection h with h;subst h;exact ⟨t,n,.inl rfl⟩
 | que t n es'=>injection h with h;subst h;exact ⟨t,n,.inr rfl⟩
 | _=>cases h
theorem es_form {a:Act} {w:World} {ρ:Ly} (h:SatR B σ a w ρ) {b:Nat} {es:List (List IV)} (hk:esOf (σ.kd b)=some es):∃ (k:Nat) (us:List Value),(∀ x∈es,x.length=k)∧us.length=es.flatten.length∧(∀ u∈us,u.oneCell'=true)∧(∀ (p:Nat) u x,us[p]?=some u->es.flatten[p]?=some x->RepI w (Imm B σ ρ w) u x) ∧
  ((ρ b=.slice none 0 0∧es.length=0)∨∃ q off cap,ρ b=.slice (some ⟨q,off,none⟩) es.length cap∧∀ (p:Nat) u,us[p]?=some u->w.cell? ⟨q,off+p,none⟩=some u):=by
 obtain ⟨t,n,hk | hk⟩:=esOf_cases hk
 ·have ho:=h.obs b;rw [hk] at ho;obtain ⟨us,h2,h3,h4,h5,h6,h7,h8⟩:=ho;refine ⟨n,us,h3,h6,h7,h8,?_⟩;rcases h5.2 with ⟨e,e0⟩ | ⟨q,cap,cur,e,e4⟩
  ·exact .inl ⟨e,e0⟩
  ·refine .inr ⟨q,0,cap,e,fun p u hu=>?_⟩;have:=h5.cells (g:=q) (by rw [e];rfl) p u hu
   rwa [addr_add] at this
 ·have ho:=h.obs b;rw [hk] at ho;obtain ⟨us,h2,h3,h4,h5,h6,h7,h8⟩:=ho;refine ⟨n,us,h3,h5,h6,h7,?_⟩;rcases h8 with ⟨e,e0⟩ | ⟨q,off,cap,cur,e,e1,e2,e3,e4,e5⟩
  ·exact .inl ⟨e,by rw [e0];rfl⟩
  ·exact .inr ⟨q,off,cap,e,fun p u hu=>by unfold World.cell?;simp only [e1];simpa using e5 p u hu⟩
theorem elt_read {a:Act} {w:World} {ρ:Ly} (h:SatR B σ a w ρ) {v:Value} {b g k i j:Nat} {es:List (List IV)} {e:List IV} (hv:RepA w (Imm B σ ρ w) ρ σ.gn v (.elt b g k i j)) (hg:σ.gn b=g) (hk:esOf (σ.kd b)=some es)
  (he:es[i]?=some e) (hek:e.length=k):∃ (q off:Nat) (us:List Value),v=.pointer (some ⟨q,off+(i*k+j),none⟩)∧us.length=es.flatten.length∧(∀ x∈es,x.length=k)∧(∀ u∈us,u.oneCell'=true) ∧
   (∀ (p:Nat) u,us[p]?=some u->w.cell? ⟨q,off+p,none⟩=some u)∧∀ (p:Nat) u x,us[p]?=some u->es.flatten[p]?=some x->RepI w (Imm B σ ρ w) u x:=by
 cases hv with
 | elt _ _ _ _ _ _ h1 hgg hh =>
  obtain ⟨q,off,n,c,e1,e2⟩:=hh hg;obtain ⟨kk,us,h3,h6,h7,h8,h9⟩:=es_form h hk;have a2:kk=k:=by rw [<- hek];exact (h3 e (zkH he)).symm
  subst a2;rcases h9 with ⟨f1,f2⟩ | ⟨q',a0,a3,f1,f2⟩
  ·rw [f1] at e1;cases e1
  ·rw [f1] at e1;injection e1 with e1 _ _
   injection e1 with e1
   injection e1 with e1 e3
   subst e1 e3;exact ⟨q',a0,us,e2,h6,h3,h7,f2,h8⟩
theorem ze7 {a b:Nat} (h:Nat.blt a b=true):a<b:=by simp [Nat.blt] at h;omega
theorem zhz {a b:Nat} (h:Nat.ble a b=true):a<=b:=by simpa using h
theorem zop {t:TypeId} (h:zp2 P t=some false) {ad:Addr} {w:World} {u:Value} (hu:w.cell? ad=some u):(Instr.loadAt t (.pointer (some ad))).run P w=.ok u w:=by
 simp [Instr.loadAt,Instr.sureAddr,loadVar,zrh h,hu]
theorem znq {t:TypeId} {us:List Value} (h:zp2 P t=some true) (hs:szOf P t=some us.length) {b q:Nat} {w:World} (hu:∀ (j:Nat) u,us[j]?=some u->w.cell? ⟨b,q+j,none⟩=some u):(Instr.loadAt t (.pointer (some ⟨b,q,none⟩))).run P w=.ok (.agg us.toArray) w:=by
 have:=run_loadCells_list (P:=P) (w:=w) ⟨b,q,none⟩ us (fun j u hj=>by rw [addr_add];exact hu j u hj);simp [Instr.loadAt,Instr.sureAddr,loadVar,zrh h,zie hs,this]
theorem zds {α:Type} {l:List α} {i m j:Nat} {x:α} (h:((l.drop i).take m)[j]?=some x):l[i+j]?=some x∧j<m:=by
 rw [yax] at h;split at h
 ·rename_i hj;rw [ya6] at h;exact ⟨h,hj⟩
 ·cases h
theorem zdx {σ':St} {l:List Loc} {b:Nat} {r:List Loc} (h:∀ x∈l++(.gen b::.knd b::r),σ' x=σ x):(∀ x∈l,σ' x=σ x)∧σ'.gn b=σ.gn b∧σ'.kd b=σ.kd b∧∀ x∈r,σ' x=σ x :=
 ⟨zao h,zd6 (za3 h _ (by simp)),zpf (za3 h _ (by simp)),fun x hx=>za3 h x (by simp [hx])⟩
theorem aLoad_ok {t:TypeId} {p:Operand} (hop:o.op=.load t p) (hd:zdh B.n o=true) (h:aLoad P o σ K t p):∃ fx,K fx∧Eff P B o fx.rd σ fx.wr:=by
 have run:∀ (a:Act) w v,(Instr.loadAt t (a.eval p)).run P w=.ok v w->(execOp a.eval o).run P w=.ok (.value v) w:=fun a w v hv=>by simp [execOp,hop,hv]
 unfold aLoad at h;split at h
 ·rename_i a0;split at h
  ·rename_i c cs hp;refine ⟨_,h,Eff.pure hd fun σ' hag a w ρ hs=>?_⟩;have h1:=za0 hs p;rw [zai hag,hp] at h1;have h1:=h1.im_inv;generalize hv:a.eval p=v at h1;cases h1 with
   | ref b q us _ hS hl a2 hu hr =>
    have b3:0<us.length:=by rw [hl];simp
    obtain ⟨u,b0⟩:∃ u,us[0]?=some u:=⟨_,zkM b3⟩;exact ⟨u,run a w u (by rw [hv];exact zop a0 (hu 0 u b0)),.im _ _ (hr 0 u c b0 rfl)⟩
  ·rename_i b g i hp;obtain ⟨hi,h⟩:=h.ok;obtain ⟨hg,h⟩:=h.out;obtain ⟨t',m,hk,b4⟩:=zk0 (ze7 hi);refine ⟨_,h,Eff.pure hd fun σ' hag a w ρ hs=>?_⟩;obtain ⟨ha,hg',a4,a9⟩:=zdx hag;have h1:=za0 hs p;rw [zai ha,hp] at h1;obtain ⟨q,us,e,_,_,hl,a2,hc,hr⟩:=zj9 hs h1 (hg'.trans hg) (a4.trans hk);obtain ⟨u,hu⟩:∃ u,us[i]?=some u:=⟨_,zkM (by omega)⟩;refine ⟨u,run a w u (by rw [e];exact zop a0 (hc i u hu)),?_⟩;rw [<- ce_same (a9 (.cel b i) (by simp))];exact hr i u hu
  ·rename_i b g k i j hp;split at h
   ·rename_i es hk;obtain ⟨e,c,⟨hg,he,hc,a5⟩,h⟩:=h;refine ⟨_,h,Eff.pure hd fun σ' hag a w ρ hs=>?_⟩;obtain ⟨ha,hg',a4,_⟩:=zdx hag;have h1:=za0 hs p;rw [zai ha,hp] at h1;obtain ⟨q,off,us,ev,hl,a6,a2,a8,hr⟩:=elt_read hs h1 (hg'.trans hg) (by rw [a4];exact hk) he a5;have hj:j<k:=by rw [<- a5];exact (zkI.1 hc).1
    have hf:=flat_get a6 he hj;rw [hc] at hf;obtain ⟨u,hu⟩:∃ u,us[i*k+j]?=some u:=⟨_,zkM (by rw [hl];exact (zkI.1 hf).1)⟩;exact ⟨u,run a w u (by rw [ev];exact zop a0 (a8 _ u hu)),.im _ _ (hr _ u c hu hf)⟩
   ·exact h.elim
  ·exact h.elim
 ·rename_i a0;split at h
  ·rename_i m hm;split at h
   ·rename_i cs hp;obtain ⟨hi,h⟩:=h.ok;have hi:=zhz hi;refine ⟨_,h,Eff.pure hd fun σ' hag a w ρ hs=>?_⟩;have h1:=za0 hs p;rw [zai hag,hp] at h1;have h1:=h1.im_inv;generalize hv:a.eval p=v at h1;cases h1 with
    | ref b q us _ hS hl a2 hu hr =>
     have a3:(us.take m).length=m:=by rw [yak];omega
     refine ⟨.agg (us.take m).toArray,run a w _ (by
      rw [hv]
      exact znq a0 (by rw [a3];exact hm) fun j u hj=>hu j u (by rw [yax] at hj;split at hj;exact hj;cases hj)),.im _ _ (.agg _ _ (by rw [a3,yak];omega) (fun u b6=>a2 u (yaz b6)) fun j u x hj hx=>?_)⟩
     rw [yax] at hj hx;split at hj
     ·rename_i a7;rw [if_pos a7] at hx;exact hr j u x hj hx
     ·cases hj
   ·rename_i b g i hp;obtain ⟨hi,h⟩:=h.ok;obtain ⟨hg,h⟩:=h.out;rw [yar] at hi;have c0:=ze7 hi.1;have hi:=zhz hi.2;refine ⟨_,h,Eff.pure hd fun σ' hag a w ρ hs=>?_⟩;have b2:∀ x∈opd p++(.gen b::.knd b::(List.range m).map (fun j=>Loc.cel b (i+j))),σ' x=σ x:=fun x hx=>hag x (by simpa using hx);obtain ⟨ha,hg',a4,a9⟩:=zdx b2;have h1:=za0 hs p;rw [zai ha,hp] at h1;obtain ⟨t',m',hk,b4⟩:=zk0 (σ:=σ) (b:=b) (i:=i) (by omega);obtain ⟨q,us,e,_,_,hl,a2,hc,hr⟩:=zj9 hs h1 (hg'.trans hg) (a4.trans hk);have b9:=zqb hk;have a3:((us.drop i).take m).length=m:=by rw [yak,ya0];omega
    refine ⟨.agg ((us.drop i).take m).toArray,run a w _ (by
     rw [e]
     exact znq a0 (by rw [a3];exact hm) fun j u hj=>hc (i+j) u (zds hj).1),zot ⟨by rw [a3];simp,fun j u x hj hx=>?_⟩ fun u hu=>a2 u (ya1 (yaz hu))⟩
    obtain ⟨h3,a7⟩:=zds hj;simp only [yat,yb6 a7,yaj,zkF] at hx;rw [<- hx,<- ce_same (a9 (.cel b (i+j)) (by simp;exact a7))];exact hr _ u h3
   ·rename_i b g k i j hp;split at h
    ·rename_i es hk;obtain ⟨e,⟨hg,he,c6,a5⟩,h⟩:=h;refine ⟨_,h,Eff.pure hd fun σ' hag a w ρ hs=>?_⟩;obtain ⟨ha,hg',a4,_⟩:=zdx hag;have h1:=za0 hs p;rw [zai ha,hp] at h1;obtain ⟨q,off,us,ev,hl,a6,a2,a8,hr⟩:=elt_read hs h1 (hg'.trans hg) (by rw [a4];exact hk) he a5;have b7:i<es.length:=(zkI.1 he).1;have b5:=zby a6
     have b8:i*k+k<=es.length*k:=by
      have:=ybd k (show i+1<=es.length from b7);rw [Nat.add_mul] at this;omega
     have a3:((us.drop (i*k+j)).take m).length=m:=by rw [yak,ya0,hl,b5];omega
     refine ⟨.agg ((us.drop (i*k+j)).take m).toArray,run a w _ (by
      rw [ev]
      exact znq a0 (by rw [a3];exact hm) fun p u hj=>by rw [ybb];exact a8 _ u (zds hj).1),.im _ _ (.agg _ _ (by rw [a3,yak,ya0];omega) (fun u hu=>a2 u (ya1 (yaz hu))) fun p u x hj hx=>?_)⟩
     obtain ⟨h3,c7⟩:=zds hj;obtain ⟨h4,_⟩:=zds hx;have hf:=flat_get a6 he (j:=j+p) (by omega);rw [h4,<- ybb] at hf;exact hr _ u x h3 hf
    ·exact h.elim
   ·exact h.elim
  ·exact h.elim
 ·exact h.elim
theorem aFieldAddr_ok {t:TypeId} {p:Operand} {f:Nat} (hop:o.op=.fieldAddr t p f) (hd:zdh B.n o=true) (h:zq6 P o σ K t p f):∃ fx,K fx∧Eff P B o fx.rd σ fx.wr:=by
 unfold zq6 at h;split at h
 ·rename_i off ft hf;split at h
  ·rename_i m hm;obtain ⟨h0,h⟩:=h.ok;have h0:=ze7 h0;obtain ⟨fs,x,hu,hx,a4,a3⟩:=fld_spec hf
   have run:∀ (a:Act) w q i,a.eval p=.pointer (some ⟨q,i,none⟩)->(execOp a.eval o).run P w=.ok (.value (.pointer (some ⟨q,i+off,none⟩))) w:=fun a w q i hv=>by
    have a6:=zie hm w;have a5:¬ m=0:=by omega
    simp [execOp,hop,hv,Instr.fieldAt,run_underlying hu,hx,Instr.sureAddr,fieldPlace,a3,a6,a5,addr_add,a4]
   split at h
   ·rename_i cs hp;refine ⟨_,h,Eff.pure hd fun σ' hag a w ρ hs=>?_⟩;have h1:=za0 hs p;rw [zai hag,hp] at h1;have h1:=h1.im_inv;generalize hv:a.eval p=v at h1;cases h1 with
    | ref b q us _ hS hl a2 hu hr =>
     refine ⟨_,run a w b q hv,.im _ _ (.ref b (q+off) (us.drop off) (cs.drop off) hS (by simp [hl]) (fun u a0=>a2 u (ya1 a0)) (fun j u hj=>?_) fun j u y hj hy=>?_)⟩
     ·rw [ya6] at hj;have:=hu _ u hj
      rwa [<- ybb] at this
     ·rw [ya6] at hj hy;exact hr _ u y hj hy
   ·rename_i b g i hp;obtain ⟨hg,h⟩:=h.out;refine ⟨_,h,Eff.pure hd fun σ' hag a w ρ hs=>?_⟩;have h1:=za0 hs p;rw [zai (zao hag),hp] at h1;have hg':=(zd6 (za3 hag (.gen b) (by simp))).trans hg;generalize hv:a.eval p=v at h1;cases h1 with
    | own _ _ _ _ a2 hgg hh =>
     obtain ⟨q,e1,e2⟩:=hh hg';exact ⟨_,run a w q i (hv.trans e2),.own _ b g (i+off) rfl hgg fun _=>⟨q,e1,rfl⟩⟩
   ·rename_i b g k i j hp;obtain ⟨hg,h⟩:=h.out;refine ⟨_,h,Eff.pure hd fun σ' hag a w ρ hs=>?_⟩;have h1:=za0 hs p;rw [zai (zao hag),hp] at h1;have hg':=(zd6 (za3 hag (.gen b) (by simp))).trans hg;generalize hv:a.eval p=v at h1;cases h1 with
    | elt _ _ _ _ _ _ a2 hgg hh =>
     obtain ⟨q,z,n,c,e1,e2⟩:=hh hg';exact ⟨_,run a w q (z+(i*k+j)) (hv.trans e2),.elt _ b g k i (j+off) rfl hgg fun _=>⟨q,z,n,c,e1,by rw [ybb,ybb]⟩⟩
   ·exact h.elim
  ·exact h.elim
 ·exact h.elim
theorem zja {w:World} {S:Nat->Prop} {ρ:Ly} {γ:Nat->Nat} {v:Value} {x:AV} {cs:List AV} (e:zpb x=some cs) (h:RepA w S ρ γ v x):Reps w S ρ γ v.cells.toList cs:=by
 unfold zpb at e;split at e
 ·rename_i l;injection e with e
  subst e;cases h.im_inv with
  | agg us _ hl a2 hr =>
   refine ⟨by simpa [Value.cells] using hl,fun i u y hu hy=>?_⟩;simp only [yat] at hy;cases hc:l[i]? with
   | none=>rw [hc] at hy;cases hy
   | some c =>
    rw [hc] at hy;simp only [yaj,zkF] at hy;rw [<- hy];exact .im _ _ (hr i u c (by simpa [Value.cells] using hu) hc)
 ·rename_i z;split at e
  case isFalse=>cases e
  injection e with e
  subst e;cases h.im_inv with
  | val _ =>
   refine ⟨by simp,fun i u y hu hy=>?_⟩;simp only [yat,hu,yaj,zkF] at hy;rw [<- hy];exact .im _ _ (.val _)
 ·rename_i l;injection e with e
  subst e;cases h with
  | agg us _ hl a2 hr=>exact ⟨by simpa [Value.cells] using hl,fun i u y hu hy=>hr i u y (by simpa [Value.cells] using hu) hy⟩
 ·cases e
 ·cases e
 ·rename_i a6 a3 a4 a5 a0;injection e with e
  subst e
  have hv:v.cells=#[v]:=by
   cases h with
   | im _ y hy =>
    cases hy with
    | val _=>exact absurd rfl (a3 _)
    | any _=>exact absurd rfl a5
    | ex _ h1=>revert h1;cases v<;>simp [Value.oneCell',Value.cells]
    | emp _ _=>rfl
    | sl _ _ _ _ _ _ _ _ _ _ _ _ _ _ _ _=>rfl
    | agg _ _ _ _ _=>exact absurd rfl (a6 _)
    | ref _ _ _ _ _ _ _ _ _=>rfl
    | fn _ _ _ _ _=>rfl
    | nsl _ _ _ _ _=>rfl
   | own _ _ _ _ a2 _ _=>revert a2;cases v<;>simp [Value.oneCell',Value.cells]
   | osl _ _ _ a2 _ _=>revert a2;cases v<;>simp [Value.oneCell',Value.cells]
   | elt _ _ _ _ _ _ a2 _ _=>revert a2;cases v<;>simp [Value.oneCell',Value.cells]
   | sub _ _ _ _ a2 _ _=>revert a2;cases v<;>simp [Value.oneCell',Value.cells]
   | osv _ _ _ _ _ a2 _ _=>revert a2;cases v<;>simp [Value.oneCell',Value.cells]
   | full _ _ _ _=>rfl
   | elt2 _ _ _ _ _ _ _ a2 _ _=>revert a2;cases v<;>simp [Value.oneCell',Value.cells]
   | fn _ _ _ _ _=>rfl
   | agg _ _ _ _ _=>exact absurd rfl (a4 _)
   | tup _ _ _ _=>exact absurd rfl (a0 _)
  rw [hv];refine ⟨rfl,fun i u y hu hy=>?_⟩;cases i with
  | zero =>
   simp at hu hy;rw [<- hu,<- hy];exact h
  | succ i=>simp at hy
end
end
section
section
variable {P:Program} {B:Base} {o:Oper} {σ:St} {K:Fx->Prop}
theorem zjc {w:World} {S:Nat->Prop} {ρ:Ly} {γ:Nat->Nat} {v:Value} {x:AV} {cs:List AV} (e:zpb x=some cs) (h:RepA w S ρ γ v x):∀ u∈v.cells.toList,u.oneCell'=true:=by
 have one:v.oneCell'=true->∀ u∈v.cells.toList,u.oneCell'=true:=fun h1 u hu=>by
  have:v.cells=#[v]:=by revert h1;cases v<;>simp [Value.oneCell',Value.cells]
  rw [this] at hu;simp at hu;rw [hu];exact h1
 cases h with
 | im _ y hy =>
  cases hy with
  | val _ =>
   simp only [zpb] at e;split at e
   ·rename_i hh;intro u hu;exact ybf.1 hh u hu
   ·cases e
  | any _=>cases e
  | ex _ h1=>exact one h1
  | emp _ _=>exact one rfl
  | sl _ _ _ _ _ _ _ _ _ _ _ _ _ _ _ _=>exact one rfl
  | agg us _ _ h1 _=>intro u hu;exact h1 u (by simpa [Value.cells] using hu)
  | ref _ _ _ _ _ _ _ _ _=>exact one rfl
  | fn _ _ _ _ _=>exact one rfl
  | nsl _ _ _ _ _=>exact one rfl
 | own _ _ _ _ a2 _ _=>exact one a2
 | osl _ _ _ a2 _ _=>exact one a2
 | elt _ _ _ _ _ _ a2 _ _=>exact one a2
 | sub _ _ _ _ a2 _ _=>exact one a2
 | osv _ _ _ _ _ a2 _ _=>exact one a2
 | full _ _ _ _=>exact one rfl
 | elt2 _ _ _ _ _ _ _ a2 _ _=>exact one a2
 | fn _ _ _ _ _=>exact one rfl
 | agg us _ _ h1 _=>intro u hu;exact h1 u (by simpa [Value.cells] using hu)
 | tup _ _ _ _=>cases e
theorem znv {w:World} {S:Nat->Prop} {ρ:Ly} {γ:Nat->Nat} {v:Value} {x:AV} {cs:List AV} (e:aggCs x=some cs) (h:RepA w S ρ γ v x):∃ us:List Value,v=.agg us.toArray∧Reps w S ρ γ us cs∧∀ u∈us,u.oneCell'=true:=by
 unfold aggCs at e;split at e
 ·rename_i l;injection e with e
  subst e;cases h.im_inv with
  | agg us _ hl a2 hr =>
   refine ⟨us,rfl,⟨by simpa using hl,fun i u y hu hy=>?_⟩,a2⟩;simp only [yat] at hy;cases hc:l[i]? with
   | none=>rw [hc] at hy;cases hy
   | some c =>
    rw [hc] at hy;simp only [yaj,zkF] at hy;rw [<- hy];exact .im _ _ (hr i u c hu hc)
 ·rename_i vs;split at e
  case isFalse=>cases e
  rename_i hh;injection e with e
  subst e;cases h.im_inv with
  | val _ =>
   refine ⟨vs.toList,by simp,⟨by simp,fun i u y hu hy=>?_⟩,fun u hu=>ybf.1 hh u hu⟩;simp only [yat,hu,yaj,zkF] at hy;rw [<- hy];exact .im _ _ (.val _)
 ·rename_i l;injection e with e
  subst e;cases h with
  | agg us _ hl a2 hr=>exact ⟨us,rfl,⟨hl,hr⟩,a2⟩
 ·cases e
theorem aField_ok {t:TypeId} {x:Operand} {f:Nat} (hop:o.op=.field t x f) (hd:zdh B.n o=true) (h:aField P o σ K t x f):∃ fx,K fx∧Eff P B o fx.rd σ fx.wr:=by
 unfold aField at h;split at h
 ·rename_i off ft hf;obtain ⟨fs,y,hu,hy,a5,a4⟩:=fld_spec hf;split at h
  ·rename_i cs a6;split at h
   ·rename_i a0;split at h
    ·rename_i c hc;refine ⟨_,h,Eff.pure hd fun σ' hag a w ρ hs=>?_⟩;have h1:=za0 hs x;rw [zai hag] at h1;obtain ⟨us,hv,hr,a2⟩:=znv a6 h1;have a7:off<us.length:=by rw [hr.1];exact (zkI.1 hc).1
     obtain ⟨u,a3⟩:∃ u,us[off]?=some u:=⟨_,zkM a7⟩;refine ⟨u,?_,hr.2 off u c a3 hc⟩;have ha:=zrh a0 w;simp [execOp,hop,hv,Instr.field,run_underlying hu,hy,asAgg,part,a4,ha,a5,a3]
    ·exact h.elim
   ·rename_i a0;split at h
    ·rename_i m hm;obtain ⟨hi,h⟩:=h.ok;have hi:=zhz hi;refine ⟨_,h,Eff.pure hd fun σ' hag a w ρ hs=>?_⟩;have h1:=za0 hs x;rw [zai hag] at h1;obtain ⟨us,hv,hr,a2⟩:=znv a6 h1;have ha:=zrh a0 w;have hz:=zie hm w;refine ⟨.agg ((us.drop off).take m).toArray,?_,zot ⟨by simp [hr.1],fun j u y hj a8=>?_⟩ fun u a3=>a2 u (ya1 (yaz a3))⟩
     ·simp [execOp,hop,hv,Instr.field,run_underlying hu,hy,asAgg,part,a4,ha,a5,hz,List.drop_take]
     ·exact hr.2 _ u y (zds hj).1 (zds a8).1
    ·exact h.elim
   ·exact h.elim
  ·exact h.elim
 ·exact h.elim
theorem aExtract_ok {x:Operand} {i:Nat} (hop:o.op=.extract x i) (hd:zdh B.n o=true) (h:aExtract o σ K x i):∃ fx,K fx∧Eff P B o fx.rd σ fx.wr:=by
 unfold aExtract at h;split at h
 ·rename_i l hx;split at h
  ·rename_i v hv;refine ⟨_,h,Eff.pure hd fun σ' hag a w ρ hs=>?_⟩;have h1:=za0 hs x;rw [zai hag,hx] at h1;generalize he:a.eval x=z at h1;cases h1 with
   | tup us _ hl hr =>
    have a0:i<us.length:=by rw [hl];exact (zkI.1 hv).1
    obtain ⟨u,hu⟩:∃ u,us[i]?=some u:=⟨_,zkM a0⟩;exact ⟨u,by simp [execOp,hop,he,Instr.extract,hu],hr i u v hu hv⟩
  ·exact h.elim
 ·exact h.elim
theorem aMax_ok {c:Call} {x y:Operand} (hop:o.op=.call c) (hc:c.callee=.builtin .max) (ha:c.args.toList=[x,y]) (hd:zdh B.n o=true) (h:aMax o σ K x y):∃ fx,K fx∧Eff P B o fx.rd σ fx.wr:=by
 unfold aMax at h;split at h
 ·rename_i k b k' d hx hy;obtain ⟨hk,h9⟩:=h.ok;have hk:=of_decide_eq_true hk;subst hk;refine ⟨_,h9,Eff.pure hd fun σ' hag a w ρ hs=>⟨_,?_,zdt _⟩⟩;have h1:=za0 hs x;have h2:=za0 hs y;rw [zai (zao hag)] at h1;rw [zai (za3 hag)] at h2;have e:(max b d:Int)=if d > b then d else b:=by split<;>omega
  have hm:c.args.toList.map a.eval=[.int k b,.int k d]:=by rw [ha];simp [zcy hx h1,zcy hy h2]
  simp [execOp,hop,resolve,hc,invoke,builtin,Builtin.max_,hm,Builtin.max2,e]
 ·exact h.elim
theorem aMin_ok {c:Call} {x y:Operand} (hop:o.op=.call c) (hc:c.callee=.builtin .min) (ha:c.args.toList=[x,y]) (hd:zdh B.n o=true) (h:aMin o σ K x y):∃ fx,K fx∧Eff P B o fx.rd σ fx.wr:=by
 unfold aMin at h;split at h
 ·rename_i k b k' d hx hy;obtain ⟨hk,h9⟩:=h.ok;have hk:=of_decide_eq_true hk;subst hk;refine ⟨_,h9,Eff.pure hd fun σ' hag a w ρ hs=>⟨_,?_,zdt _⟩⟩;have h1:=za0 hs x;have h2:=za0 hs y;rw [zai (zao hag)] at h1;rw [zai (za3 hag)] at h2;have e:(min b d:Int)=if d<b then d else b:=by split<;>omega
  have hm:c.args.toList.map a.eval=[.int k b,.int k d]:=by rw [ha];simp [zcy hx h1,zcy hy h2]
  simp [execOp,hop,resolve,hc,invoke,builtin,Builtin.min_,hm,Builtin.min2,e]
 ·exact h.elim
theorem aMin3_ok {c:Call} {x y z:Operand} (hop:o.op=.call c) (hc:c.callee=.builtin .min) (ha:c.args.toList=[x,y,z]) (hd:zdh B.n o=true) (h:aMin3 o σ K x y z):∃ fx,K fx∧Eff P B o fx.rd σ fx.wr:=by
 unfold aMin3 at h;split at h
 ·rename_i k b k' d a3 f hx hy hz;obtain ⟨hk,h9⟩:=h.ok;simp only [yar,decide_eq_true_eq] at hk;obtain ⟨a2,a0⟩:=hk;subst a2 a0;refine ⟨_,h9,Eff.pure hd fun σ' hag a w ρ hs=>⟨_,?_,zdt _⟩⟩;have h1:=za0 hs x;have h2:=za0 hs y;have h3:=za0 hs z;rw [zai (zao (zao hag))] at h1;rw [zai (za3 (zao hag))] at h2;rw [zai (za3 hag)] at h3;have e:(min (min b d) f:Int)=if f<(if d<b then d else b) then f else (if d<b then d else b):=by split<;>split<;>omega
  have hm:c.args.toList.map a.eval=[.int k b,.int k d,.int k f]:=by rw [ha];simp [zcy hx h1,zcy hy h2,zcy hz h3]
  simp [execOp,hop,resolve,hc,invoke,builtin,Builtin.min_,hm,Builtin.min2,e]
 ·exact h.elim
theorem zv3 {a:Act} {w:World} {ρ:Ly} (h:SatR B σ a w ρ) {b kk:Nat} {t:TypeId} {es:List (List IV)} (hk:σ.kd b=.row t kk es):∃ A c,ρ b=.slice A es.length c:=by
 have ho:=h.obs b;rw [hk] at ho;obtain ⟨us,_,_,_,h4,_⟩:=ho;rcases h4.2 with ⟨e,h0⟩ | ⟨g,a0,cur,e,_⟩
 ·exact ⟨none,0,by rw [e,h0]⟩
 ·exact ⟨_,a0,e⟩
theorem aLen_ok {c:Call} {t:TypeId} {ts:List TypeId} {x:Operand} (hop:o.op=.call c) (hc:c.callee=.builtin .len) (ha:c.args.toList=[x]) (ht:c.argTypes.toList=t::ts) (hd:zdh B.n o=true) (h:aLen P o σ K t x):∃ fx,K fx∧Eff P B o fx.rd σ fx.wr:=by
 have a3:c.argTypes[0]?=some t:=by rw [<- yao,ht];rfl
 have a4:∀ a:Act,(c.args.map a.eval)[0]?=some (a.eval x):=fun a=>by rw [<- yao,ybx,ha];rfl
 unfold aLen at h;split at h
 ·rename_i e he;have hu:=zeg he
  have run:∀ (a:Act) w A n cp,a.eval x=.slice A n cp->(execOp a.eval o).run P w=.ok (.value (.int .i64 n)) w:=fun a w A n cp hv=>by
   simp only [execOp,hop,resolve,hc,invoke,builtin,Builtin.len_,a3,a4,Sem.run_bind,Sem.run_pure,Result.andThen_ok,run_underlying hu,hv,goInt]
  split at h
  ·rename_i es hx;have h:=h.out;refine ⟨_,h,Eff.pure hd fun σ' hag a w ρ hs=>?_⟩;have h1:=za0 hs x;rw [zai hag,hx] at h1;have h1:=h1.im_inv;generalize hv:a.eval x=v at h1;cases h1 with
   | emp A cp=>exact ⟨_,run a w _ _ _ hv,zdt _⟩
   | sl b q cp k n _ us hn=>exact ⟨_,run a w _ _ _ hv,by rw [hn];exact zdt _⟩
  ·rename_i A n cp hx;refine ⟨_,h,Eff.pure hd fun σ' hag a w ρ hs=>?_⟩;have h1:=za0 hs x;rw [zai hag,hx] at h1;have h1:=h1.im_inv;generalize hv:a.eval x=v at h1;cases h1 with
   | val _=>exact ⟨_,run a w _ _ _ hv,zdt _⟩
  ·rename_i b g hx;split at h
   ·rename_i es hk;obtain ⟨hg,h⟩:=h.out;have h:=h.out;refine ⟨_,h,Eff.pure hd fun σ' hag a w ρ hs=>?_⟩;obtain ⟨a6,hg',a5,_⟩:=zdx hag;have h1:=za0 hs x;rw [zai a6,hx] at h1
    obtain ⟨A,cp,hρ⟩:∃ A cp,ρ b=.slice A es.length cp:=by
     obtain ⟨_,_,_,_,_,_,h9⟩:=es_form hs (show esOf (σ'.kd b)=some es by rw [a5];exact hk);rcases h9 with ⟨f1,f2⟩ | ⟨_,_,_,f1,_⟩
     ·exact ⟨_,_,by rw [f1,f2]⟩
     ·exact ⟨_,_,f1⟩
    generalize hv:a.eval x=v at h1;cases h1 with
    | osl _ _ _ a2 hgg hh =>
     rw [hh (hg'.trans hg),hρ] at hv;exact ⟨_,run a w _ _ _ hv,zdt _⟩
   ·exact h.elim
  ·exact h.elim
 ·split at h
  ·rename_i s hx;obtain ⟨a0,h⟩:=h.ok
   have hu:P.underlying t=some .string:=by
    unfold isStr at a0;split at a0
    ·assumption
    ·cases a0
   refine ⟨_,h,Eff.pure hd fun σ' hag a w ρ hs=>⟨_,?_,zdt _⟩⟩;have h1:=za0 hs x;rw [zai hag] at h1;simp only [execOp,hop,resolve,hc,invoke,builtin,Builtin.len_,a3,a4,Sem.run_bind,Sem.run_pure,Result.andThen_ok,run_underlying hu,ztm hx h1,goInt]
  ·exact h.elim
theorem zqw {t:TypeId} {x i:Operand} (hop:o.op=.indexAddr t x i) (hd:zdh B.n o=true) (h:zou P o σ K t x i):∃ fx,K fx∧Eff P B o fx.rd σ fx.wr:=by
 unfold zou at h;split at h
 ·rename_i kk n et hi b3;have hu:=zeg b3
  have run:∀ (a:Act) w q l (cp:Nat×Nat) k,a.eval x=.slice (some ⟨q,0+l,none⟩) cp.1 cp.2->a.eval i=.int kk n->0<=n->n.toNat<cp.1->szOf P et=some k->(execOp a.eval o).run P w=.ok (.value (.pointer (some ⟨q,0+l+n.toNat*k,none⟩))) w:=fun a w q l cp k hv hn h0 a5 hk=>by
   have hz:=zie hk w;have h3:0<=n∧n<cp.1:=⟨h0,by omega⟩;simp only [execOp,hop,hv,hn,Instr.indexAt,asIntOf,Sem.run_bind,Sem.run_pure,Result.andThen_ok,run_underlying hu,if_pos h3,hz,addr_add]
  split at h
  ·rename_i es hx;obtain ⟨e,⟨h0,he,hk⟩,h⟩:=h;refine ⟨_,h,Eff.pure hd fun σ' hag a w ρ hs=>?_⟩;have h1:=za0 hs x;have h2:=za0 hs i;rw [zai (zao hag),hx] at h1;rw [zai (za3 hag)] at h2;have hn:=zcy hi h2;have h1:=h1.im_inv;generalize hv:a.eval x=v at h1;cases h1 with
   | emp A cp=>simp at he
   | sl b q cp k m _ us hm hkk hcap hsm hS hl a2 huc hr =>
    have a6:e.length=k:=hkk e (zkH he);have b2:n.toNat<es.length:=(zkI.1 he).1;have a7:=zby hkk
    have b5:n.toNat*k+k<=es.length*k:=by
     have:=ybd k (show n.toNat+1<=es.length from b2);rw [Nat.add_mul] at this;omega
    have a0:=run a w b q (m,cp) k (by rw [hv,yae]) hn h0 (by omega) (by rw [hk,a6]);rw [yae] at a0;refine ⟨_,a0,.im _ _ (.ref b (q+n.toNat*k) ((us.drop (n.toNat*k)).take k) e hS (by rw [yak,ya0,hl,a7,a6];omega) (fun u a8=>a2 u (ya1 (yaz a8))) (fun j u hj=>?_) fun j u y hj hy=>?_)⟩
    ·have:=huc _ u (zds hj).1
     rwa [<- ybb] at this
    ·obtain ⟨h3,b4⟩:=zds hj;have hf:=flat_get hkk he b4;rw [hy] at hf;exact hr _ u y h3 hf
  ·rename_i b g hx;split at h
   ·rename_i es b0;split at h
    ·rename_i k hk;obtain ⟨⟨h0,hg,a5⟩,h⟩:=h.out;refine ⟨_,h,Eff.pure hd fun σ' hag a w ρ hs=>?_⟩;obtain ⟨a4,hg',a9,_⟩:=zdx hag;have h1:=za0 hs x;have h2:=za0 hs i;rw [zai (zao a4),hx] at h1;rw [zai (za3 a4)] at h2;have hn:=zcy hi h2
     obtain ⟨q,off,cp',a3⟩:∃ q off cp',ρ b=.slice (some ⟨q,off,none⟩) es.length cp':=by
      obtain ⟨_,_,_,_,_,_,h9⟩:=es_form hs (show esOf (σ'.kd b)=some es by rw [a9];exact b0);rcases h9 with ⟨_,f2⟩ | ⟨q,off,cp',f1,_⟩
      ·omega
      ·exact ⟨q,off,cp',f1⟩
     generalize hv:a.eval x=v at h1;cases h1 with
     | osl _ _ _ a2 hgg hh =>
      rw [hh (hg'.trans hg),a3] at hv;have a0:=run a w q off (es.length,cp') k (by rw [hv,yae]) hn h0 a5 hk;rw [yae] at a0;exact ⟨_,a0,.elt _ b g k n.toNat 0 rfl hgg fun _=>⟨q,off,_,cp',a3,by rw [ybl]⟩⟩
    ·exact h.elim
   ·exact h.elim
  ·exact h.elim
 ·exact h.elim
theorem zl5 {α:Type} {k:Nat}:∀ {es:List (List α)} {n:Nat},(∀ x∈es,x.length=k)->(es.take n).flatten=es.flatten.take (n*k)
 | [],n,_=>by simp
 | x::es,0,_=>by simp
 | x::es,n+1,h=>by
  have hx:=h x (by simp);rw [List.take_succ_cons,ya4,zl5 fun y hy=>h y (by simp [hy]),ya4,ydf,hx,Nat.add_mul,yed,yd3,ybh (l:=x) (by omega)]
theorem zq2 {α:Type} {k:Nat}:∀ {es:List (List α)} {n:Nat},(∀ x∈es,x.length=k)->(es.drop n).flatten=es.flatten.drop (n*k)
 | [],n,_=>by simp
 | x::es,0,_=>by simp
 | x::es,n+1,h=>by
  have hx:=h x (by simp);rw [List.drop_succ_cons,zq2 fun y hy=>h y (by simp [hy]),ya4,yd6,hx,Nat.add_mul,yed,yd3,yda (l:=x) (by omega),ycb]
theorem flat_cut {α:Type} {k:Nat} {es:List (List α)} {l r:Nat} (h:∀ x∈es,x.length=k) (_:l<=r):((es.take r).drop l).flatten=(es.flatten.take (r*k)).drop (l*k):=by
 rw [zq2 fun x hx=>h x (yaz hx),zl5 h]
theorem optI_same {σ':St} {d:Int} {x:Option Operand} (h:∀ l∈(x.map opd).getD [],σ' l=σ l):optI σ' d x=optI σ d x:=by
 cases x with
 | none=>rfl
 | some y =>
  show (Sym.asInt (evA σ' y)).map (·.2)=(Sym.asInt (evA σ y)).map (·.2);rw [zai (x:=y) (by simpa using h)]
theorem aSlice_ok {t:TypeId} {x:Operand} {lo hi:Option Operand} (hop:o.op=.slice t x lo hi none) (hd:zdh B.n o=true) (h:aSlice P o σ K t x lo hi):∃ fx,K fx∧Eff P B o fx.rd σ fx.wr:=by
 unfold aSlice at h;split at h
 ·rename_i et b9;have hu:=zeg b9;split at h
  case h_2=>exact h.elim
  rename_i k hz;split at h
  ·rename_i es hx;split at h
   ·rename_i l r hl hr;obtain ⟨⟨h0,c6,a9,hk⟩,h⟩:=h.out;have h:=h.out;refine ⟨_,h,Eff.pure hd fun σ' hag a w ρ hs=>?_⟩;have b4:=zao (zao hag);have a6:=optI_same (d:=0) (za3 (zao hag));have a5:=optI_same (d:=es.length) (za3 hag);rw [hl] at a6;rw [hr] at a5
    have a7:∀ (y:Operand) (n:Int) (m:Nat) (c:BoundsCode),(Sym.asInt (evA σ' y)).map (·.2)=some n->0<=n->n<=m->(Instr.sliceBound (a.eval y) m c).run P w=.ok n.toNat w:=fun y n m c e e0 em=>by
     have h2:=za0 hs y;cases hy:Sym.asInt (evA σ' y) with
     | none=>rw [hy] at e;cases e
     | some p =>
      obtain ⟨k1,n1⟩:=p;rw [hy] at e;simp only [yaj,zkF] at e;subst e;have h3:0<=n1∧n1<=m:=⟨e0,em⟩;simp only [zcy hy h2,Instr.sliceBound,asIntOf,Sem.run_bind,Sem.run_pure,Result.andThen_ok,if_pos h3]
    have b0:∀ n cp:Nat,n=es.length->n<=cp->(Instr.sliceBounds true n cp (lo.map a.eval) (hi.map a.eval) none).run P w=.ok (l.toNat,r.toNat,cp) w:=fun n cp e1 e2=>by
     have bh:∀ y c,hi=some y->(Instr.sliceBound (a.eval y) cp c).run P w=.ok r.toNat w:=fun y c e=>a7 y r cp c (by rw [<- a5,e];rfl) (by omega) (by omega);have bl:∀ y c,lo=some y->(Instr.sliceBound (a.eval y) r.toNat c).run P w=.ok l.toNat w:=fun y c e=>a7 y l r.toNat c (by rw [<- a6,e];rfl) h0 (by omega)
     have nh:hi=none->r.toNat=n:=fun e=>by
      rw [e] at a5;simp only [optI,zkF] at a5;rw [<- a5,e1];rfl
     have nl:lo=none->l.toNat=0:=fun e=>by
      rw [e] at a6;simp only [optI,zkF] at a6;rw [<- a6];rfl
     unfold Instr.sliceBounds;cases hi with
     | none =>
      have e3:=nh rfl;cases lo with
      | none =>
       have e4:=nl rfl;simp [e3,e4]
      | some y =>
       have b1:=fun c=>bl y c rfl;rw [e3] at b1;simp [e3,b1]
     | some z =>
      have b2:=fun c=>bh z c rfl;cases lo with
      | none =>
       have e4:=nl rfl;simp [e4,b2]
      | some y =>
       have b1:=fun c=>bl y c rfl;simp [b1,b2]
    have run:∀ A n cp,a.eval x=.slice A n cp->n=es.length->n<=cp->(execOp a.eval o).run P w=.ok (.value (.slice (if cp=l.toNat then A else A.map (·.add (l.toNat*k))) (r.toNat-l.toNat) (cp-l.toNat))) w:=fun A n cp hv hn b8=>by
     have hz:=zie hz w;have hb:=b0 n cp hn b8;simp only [execOp,hop,hv,Instr.sliceAt,Instr.slice,Sem.run_bind,Sem.run_pure,Result.andThen_ok,run_underlying hu,ycw,hb,hz]
    have h1:=za0 hs x;rw [zai b4] at h1;cases hxx:evA σ x with
    | im y =>
     rw [hxx] at h1 hx;have hx:nz y=.sl es:=hx;have h1:=h1.im_inv
     have a4:∀ A cp,a.eval x=.slice A 0 cp->es=[]->∃ u,(execOp a.eval o).run P w=.ok (.value u) w∧RepA w (Imm B σ' ρ w) ρ σ'.gn u (.im (.sl ((es.take r.toNat).drop l.toNat))):=fun A cp e1 e2=>by
      have hr:=run A 0 cp e1 (by rw [e2];rfl) (yas _);have er:r.toNat=0:=by rw [e2] at a9;simp at a9;omega
      have el:l.toNat=0:=by omega
      rw [er,el] at hr;exact ⟨_,hr,by rw [e2];simp only [List.take_nil,List.drop_nil];exact .im _ _ (.emp _ _)⟩
     have a0:∀ v,a.eval x=v->RepI w (Imm B σ' ρ w) v (.sl es)->∃ u,(execOp a.eval o).run P w=.ok (.value u) w∧RepA w (Imm B σ' ρ w) ρ σ'.gn u (.im (.sl ((es.take r.toNat).drop l.toNat))):=fun v hv h1=>by
      cases h1 with
      | emp A cp=>exact a4 _ _ hv rfl
      | sl b q cp k' m _ us hm hkk hcap hsm hS hll a2 huc hrr =>
       by_cases b3:r.toNat=l.toNat
       ·have a3:=run _ m cp hv hm.symm hcap;have e0:(es.take r.toNat).drop l.toNat=[]:=yct (by rw [yak];omega);rw [e0];rw [b3,ycf] at a3;exact ⟨_,a3,.im _ _ (.emp _ _)⟩
       ·have a3:=run _ m cp hv hm.symm hcap;have c0:¬ cp=l.toNat:=by omega
        rw [if_neg c0,yaj,addr_add] at a3;have b5:∀ e∈(es.take r.toNat).drop l.toNat,e∈es:=fun e he=>yaz (ya1 he);have a8:((es.take r.toNat).drop l.toNat).flatten=(es.flatten.take (r.toNat*k)).drop (l.toNat*k):=flat_cut hk (by omega);have c7:=zby hk;refine ⟨_,a3,.im _ _ (.sl b (q+l.toNat*k) (cp-l.toNat) k (r.toNat-l.toNat) _ ((us.take (r.toNat*k)).drop (l.toNat*k)) ?_ (fun e he=>hk e (b5 e he)) (by omega) (by omega) hS ?_ (fun u b6=>a2 u (yaz (ya1 b6))) (fun j u hj=>?_) fun j u y hj hy=>?_)⟩
        ·rw [ya0,yak];omega
        ·rw [a8,ya0,yak,ya0,yak,hll]
        ·rw [ya6,yax] at hj;split at hj
         ·have:=huc _ u hj
          rwa [<- ybb] at this
         ·cases hj
        ·rw [a8,ya6,yax] at hy;rw [ya6,yax] at hj;split at hj
         ·rename_i b7;rw [if_pos b7] at hy;exact hrr _ u y hj hy
         ·cases hj
     generalize hv:a.eval x=v at h1;cases h1 with
     | val _ =>
      obtain ⟨rfl,rfl⟩:v=.slice none 0 0∧es=[]:=by
       unfold nz nz1 at hx;split at hx
       ·cases hx
       ·split at hx
        ·cases hx
        ·cases hx
       ·split at hx
        ·rename_i e;injection e with e
         injection hx with hx
         exact ⟨e,hx.symm⟩
        ·cases hx
        ·rename_i e;cases e
        ·cases hx
      exact a4 _ _ hv rfl
     | emp A cp =>
      injection hx with hx
      exact a0 _ hv (hx ▸ .emp A cp)
     | sl b q cp k' m ees us hm hkk hcap hsm hS hll a2 huc hrr =>
      injection hx with hx
      exact a0 _ hv (hx ▸ .sl b q cp k' m ees us hm hkk hcap hsm hS hll a2 huc hrr)
     | nsl _ _ _ ees hh =>
      injection hx with hx
      exact a0 _ hv (hx ▸ hh)
     | _=>cases hx
    | _=>rw [hxx] at hx;cases hx
   ·exact h.elim
  ·exact h.elim
 ·exact h.elim
end
end
section
section
variable {P:Program} {B:Base} {o:Oper} {σ:St} {K:Fx->Prop}
theorem zdf {d:Tmp} (hd:zdh B.n o=true) (e:o.dst=some d):d<B.n:=zle hd d e
theorem making_alloc (σ:St) (w:World) (ρ:Ly) (ob:Obj):zsj σ w (w.alloc ob) ρ none (.pointer (some ⟨w.heap.size,0,none⟩)) none :=
 ⟨World.grownBy_alloc w ob none,(fun b e=>by cases e),fun b e=>.inr (by simp only [zbm,zkF] at e;omega)⟩
theorem SatR.box {a:Act} {w:World} {ρ:Ly} (h:SatR B σ a w ρ) (d:Nat) (t:TypeId) {us:List Value} {cs:List AV} (hr:Reps w (Imm B σ ρ w) ρ σ.gn us cs) (h1:∀ u∈us,u.oneCell'=true) :
  SatR B (zf4 σ none d (.box t cs.length) cs) a (w.alloc (.cells us.toArray t)) (setρ ρ d (.pointer (some ⟨w.heap.size,0,none⟩))):=by
 have m:=making_alloc σ w ρ (.cells us.toArray t);refine h.new m rfl fun hI hA=>⟨w.heap.size,us,by simp [setρ],heap_alloc_new w _,hr.1,h1,fun i u hu=>?_⟩;have hi:i<cs.length:=by rw [<- hr.1];exact (zkI.1 hu).1
 obtain ⟨c,hc⟩:∃ c,cs[i]?=some c:=⟨_,zkM hi⟩;rw [newSt_new σ none d _ cs i hi,zk9 hc];exact hA _ _ (hr.2 i u c hu hc)
theorem zwn {a:Act} {w:World} {ρ:Ly} {used:Option Nat} {d:Nat} {k:Kd} {cs:List AV} {hv:Value} (h:SatR B (zf4 σ used d k cs) a w (setρ ρ d hv)) (q:Nat) (e:hv=.pointer (some ⟨q,0,none⟩)) (hd:d<B.n) :
  SatR B (app (zf4 σ used d k cs) [(.tmp d,.av (.own d (σ.gn d+1) 0))]) (a.put (some d) hv) w (setρ ρ d hv) :=
 h.put (d:=some d) (fun t e=>by injection e with e;subst e;exact hd) (.own _ _ _ _ (by rw [e];rfl) (by rw [zmr,if_pos rfl];omega) fun _=>⟨q,by simp [setρ,e],by rw [e]⟩)
theorem zmi {a:Act} {w:World} {ρ:Ly} {used:Option Nat} {d:Nat} {k:Kd} {cs:List AV} {hv:Value} (h:SatR B (zf4 σ used d k cs) a w (setρ ρ d hv)) (h1:hv.oneCell'=true) (hd:d<B.n) :
  SatR B (app (zf4 σ used d k cs) [(.tmp d,.av (.osl d (σ.gn d+1)))]) (a.put (some d) hv) w (setρ ρ d hv) :=
 h.put (d:=some d) (fun t e=>by injection e with e;subst e;exact hd) (.osl _ _ _ h1 (by rw [zmr,if_pos rfl];omega) fun _=>by simp [setρ])
theorem zi2 {a:Act} {w:World} {ρ:Ly} {used:Option Nat} {d b:Nat} {k:Kd} {cs:List AV} {hv:Value} (h:SatR B (zf4 σ used b k cs) a w (setρ ρ b hv)) (h1:hv.oneCell'=true) (hd:d<B.n) :
  SatR B (app (zf4 σ used b k cs) [(.tmp d,.av (.osl b (σ.gn b+1)))]) (a.put (some d) hv) w (setρ ρ b hv) :=
 h.put (d:=some d) (fun t e=>by injection e with e;subst e;exact hd) (.osl _ _ _ h1 (by rw [zmr,if_pos rfl];omega) fun _=>by simp [setρ])
theorem zn1 {k:Kd} {d:Nat} {cs:List AV} {v:AV} {σ':St} (hg:σ'.gn d=σ.gn d):app σ' (zez σ d k++zg6 d 0 cs++[(.tmp d,.av v)])=app (zf4 σ' none d k cs) [(.tmp d,.av v)]:=by
 rw [zau,zau];unfold zf4 zez;rw [hg]
theorem aAlloc_ok {t:TypeId} (hop:o.op=.alloc t) (hd:zdh B.n o=true) (h:aAlloc P o σ K t):∃ fx,K fx∧Eff P B o fx.rd σ fx.wr:=by
 unfold aAlloc at h;split at h
 ·rename_i d cs a0 hz;obtain ⟨a2,h⟩:=h.ok;refine ⟨_,h,fun σ' hag a w ⟨ρ,hs⟩ K' Q hK=>?_⟩;have hg:=zd6 (hag (.gen d) (by simp))
  obtain ⟨z,a4,a3⟩:∃ z:Value,(∀ w,(zeroValue t).run P w=.ok z w)∧z.cells.toList=cs:=by
   unfold zeroOf at hz;split at hz
   ·rename_i i hi;cases hz0:i.zero with
    | none=>rw [hz0] at hz;cases hz
    | some z =>
     rw [hz0] at hz;simp only [yaj,zkF] at hz;exact ⟨z,fun w=>by simp [zeroValue,typeInfo,hi,hz0],hz⟩
   ·cases hz
  have run:(execOp a.eval o).run P w=.ok (.value (.pointer (some ⟨w.heap.size,0,none⟩))) (w.alloc (.cells cs.toArray t)):=by
   rw [<- a3];simp [execOp,hop,Instr.alloc,a4,newVar,newRow]
  unfold Oper.wp;rw [run,Oper.upon_value,a0];refine hK _ _ ⟨setρ ρ d (.pointer (some ⟨w.heap.size,0,none⟩)),?_⟩
  have hr:Reps w (Imm B σ' ρ w) ρ σ'.gn cs (cs.map fun v=>.im (.val v)):=⟨by simp,fun i u y hu hy=>by
   simp only [yat,hu,yaj,zkF] at hy
   rw [<- hy]
   exact .im _ _ (.val _)⟩
  have hb:=hs.box d t hr (fun u hu=>ybf.1 a2 u hu);rw [zkK] at hb;show SatR B (app σ' (zez σ d (.box t cs.length)++zg6 d 0 (cs.map fun v=>.im (.val v))++[(.tmp d,.av (.own d (σ.gn d+1) 0))])) _ _ _;rw [zn1 hg,<- hg];exact zwn hb _ rfl (zdf hd a0)
 ·exact h.elim
theorem SatR.store {a:Act} {w w':World} {ρ:Ly} (h:SatR B σ a w ρ) {b q i m:Nat} {t:TypeId} {cs:List AV} {us vs:List Value} (hk:σ.kd b=.box t m) (hρ:ρ b=.pointer (some ⟨q,0,none⟩)) (hl:us.length=m)
  (h1:∀ u∈us,u.oneCell'=true) (hus:∀ (j:Nat) u,us[j]?=some u->RepA w (Imm B σ ρ w) ρ σ.gn u (σ.ce b j)) (hg:w.grownBy w' (some q))
  (hw':w'.heap[q]?=some (.cells (us.take i++vs++us.drop (i+vs.length)).toArray t (0,0))) (hfit:i+vs.length<=m) (hv:Reps w (Imm B σ ρ w) ρ σ.gn vs cs) (hv1:∀ u∈vs,u.oneCell'=true):SatR B (app σ (zg6 b i cs)) a w' ρ:=by
 have a4:=zs4 b cs i σ;have a0:=zqm b cs i σ;have a2:live σ b:=by unfold live;rw [hk];exact fun e=>by cases e
 have a6:Owns σ ρ b q:=.root a2 (by rw [hρ];rfl);have a5:∀ o c,Owns (app σ (zg6 b i cs)) ρ o c↔Owns σ ρ o c:=fun o c=>by unfold Owns;rw [a0]
 refine (h.step (fun o=>o=b) (fun t=>by rw [zsz]) (fun o hd=>⟨by rw [a0],by rw [a4],fun j=>by rw [zor,if_neg (fun z=>hd z.1)],rfl,rfl,rfl⟩) (fun o _=>⟨⟨by rw [a4];exact yam _,fun _=>rfl⟩,yam _,fun _=>rfl⟩)
  (fun o=>by rw [celWr_ig];exact h.igs o) ⟨hg.os,hg.tape,hg.output,hg.size,fun c hc hn=>hg.block c hc fun e=>?_⟩ (fun o c hd ho=>.inr ⟨o,hd,(a5 o c).1 ho⟩) (fun o p c hd hp _ _=>hd.trans hp.symm) fun hI hA o hd=>?_).1
 ·injection e with e
  subst e;exact hn ⟨b,rfl,a6⟩
 ·subst hd;rw [a0,hk];refine ⟨q,_,hρ,hw',by simp;omega,fun u hu=>?_,fun j u hu=>?_⟩
  ·rcases yal.1 hu with hu | hu
   ·rcases yal.1 hu with hu | hu
    ·exact h1 u (yaz hu)
    ·exact hv1 u hu
   ·exact h1 u (ya1 hu)
  ·rw [zor];have a7:=hv.1;rw [ybs,yaq,yak] at hu;by_cases hj:j<i
   ·rw [if_pos (by omega),yax,if_pos hj] at hu;rw [if_neg (by omega)];exact hA _ _ (hus j u hu)
   ·rw [if_neg (by omega),yaq,ycl (by omega)] at hu;by_cases a3:j-i<vs.length
    ·rw [if_pos a3] at hu;rw [if_pos ⟨rfl,by omega,by omega⟩];obtain ⟨c,hc⟩:∃ c,cs[j-i]?=some c:=⟨_,zkM (by omega)⟩;rw [zk9 hc];exact hA _ _ (hv.2 _ u c hu hc)
    ·rw [if_neg a3,ya6] at hu;rw [if_neg (by omega)];have e3:i+vs.length+(j-i-vs.length)=j:=by omega
     rw [e3] at hu;exact hA _ _ (hus j u hu)
theorem aStore_ok {t:TypeId} {p x:Operand} (hop:o.op=.store t p x) (hd:zdh B.n o=true) (h:aStore P o σ K t p x):∃ fx,K fx∧Eff P B o fx.rd σ fx.wr:=by
 unfold aStore at h;split at h
 ·rename_i m cs hm a7;obtain ⟨a0,h⟩:=h.ok;have a0:cs.length=m:=by simpa using a0
  split at h
  ·rename_i b g i hp;obtain ⟨hi,h⟩:=h.ok;obtain ⟨hg,h⟩:=h.out;rw [yar] at hi;have b0:=ze7 hi.1;have hi:=zhz hi.2;refine ⟨_,h,fun σ' hag a w ⟨ρ,hs⟩ K' Q hK=>?_⟩;obtain ⟨ha,hg',a6,_⟩:=zdx hag;have h1:=za0 hs p;have h2:=za0 hs x;rw [zai (zao ha),hp] at h1;rw [zai (za3 ha)] at h2;have hr:=zja a7 h2;have a3:=zjc a7 h2;obtain ⟨t',n,a4,b3⟩:=zk0 (σ:=σ) (b:=b) (i:=i) (by omega);have b2:=zqb a4;obtain ⟨q,us,e1,e2,e3,e4,e5,_,e7⟩:=zj9 hs h1 (hg'.trans hg) (a6.trans a4);have a5:(a.eval x).cells.toList.length=m:=by rw [hr.1,a0]
   have a2:=run_storeCells_at (P:=P) q i t' (a.eval x).cells.toList 0 us.toArray w e3 (by simp;simp at a5;omega) a3;simp only [ybl] at a2;have hz:=zie hm w;have a9:(a.eval x).cells.size=m:=by rw [<- a5];simp
   have run:(execOp a.eval o).run P w=.ok .skip (w.setRow q (us.take i++(a.eval x).cells.toList++us.drop (i+(a.eval x).cells.toList.length)).toArray):=by
    simp only [execOp,hop,Instr.storeAt,e1,Instr.sureAddr,storeVar,Sem.run_bind,Sem.run_pure,Result.andThen_ok,hz,a9];rw [if_neg (by simp),a2];simp
   unfold Oper.wp;rw [run,Oper.upon_skip];refine hK _ _ ⟨ρ,?_⟩;have a8:=hs.store (vs:=(a.eval x).cells.toList) (w':=w.setRow q (us.take i++(a.eval x).cells.toList++us.drop (i+(a.eval x).cells.toList.length)).toArray) (a6.trans a4) e2 e4 e5 e7 ⟨rfl,rfl,rfl,by simp,fun k _ hk=>setRow_other w q k _ (fun e=>hk (by rw [e]))⟩ (setRow_heap w q us.toArray _ t' _ e3) (by omega) hr a3;rw [zau];exact a8.put (zle hd) (zdt _)
  ·exact h.elim
 ·exact h.elim
end
end
section
section
variable {P:Program} {B:Base} {o:Oper} {σ:St} {K:Fx->Prop}
theorem zly (bs:yad):∀ (σ:St) (o:Nat),(app σ (fwr bs)).kd o=if o∈bs.map (·.1) then .dead else σ.kd o:=by
 induction bs with
 | nil=>intro σ o;simp [fwr,app]
 | cons b bs ih =>
  intro σ o;show (app (upd σ (.knd b.1) (.kd .dead)) (fwr bs)).kd o=_;rw [ih,zfm,yan];by_cases h:o∈bs.map (·.1)
  ·rw [if_pos h,if_pos (yay _ h)]
  ·rw [if_neg h];by_cases e:o=b.1
   ·rw [if_pos e,if_pos (by rw [e];exact yb3)]
   ·rw [if_neg e,if_neg (fun hm=>by rcases yau.1 hm with h1 | h1;exact e h1;exact h h1)]
theorem fwr_live {bs:yad} {o:Nat} (h:live (app σ (fwr bs)) o):live σ o∧o∉bs.map (·.1):=by
 unfold live at h;rw [zly] at h;by_cases e:o∈bs.map (·.1)
 ·rw [if_pos e] at h;exact absurd rfl h
 ·rw [if_neg e] at h;exact ⟨h,e⟩
theorem zo7 (bs:yad):∀ (σ:St),(app σ (fwr bs)).gn=σ.gn:=by
 induction bs with
 | nil=>intro σ;rfl
 | cons b bs ih =>
  intro σ;show (app (upd σ (.knd b.1) (.kd .dead)) (fwr bs)).gn=_;rw [ih];exact funext fun t=>zgi σ b.1 t _
theorem fwr_av (bs:yad) (t:Nat):∀ (σ:St),(app σ (fwr bs)).av t=σ.av t:=by
 induction bs with
 | nil=>intro σ;rfl
 | cons b bs ih=>intro σ;show (app (upd σ (.knd b.1) (.kd .dead)) (fwr bs)).av t=_;rw [ih,ziz]
theorem gok_mem:∀ {bs:yad},gok σ bs->∀ p∈bs,σ.gn p.1=p.2
 | (b,g)::bs,h,p,hp=>by
  rcases yau.1 hp with rfl | hp
  ·exact h.1
  ·exact gok_mem h.2 p hp
theorem zm1.out {bs:yad} {A:Prop} (h:zm1 σ bs A):(∀ p∈bs,σ.gn p.1=p.2)∧A:=by
 unfold zm1 at h;split at h
 ·exact ⟨fun p hp=>by simp at hp,h⟩
 ·exact ⟨gok_mem h.out.1,h.out.2⟩
theorem zms {w:World} {S:Nat->Prop} {v:Value} {x:IV} (h:RepI w S v x):RepI w S v (nz1 x):=by
 unfold nz1;split
 ·cases h with
  | val _=>exact .emp _ _
 ·exact .any _
 ·cases h with
  | nsl _ _ _ _ h=>exact h
 ·exact h
theorem nz_rep {w:World} {S:Nat->Prop} {v:Value} {x:IV} (h:RepI w S v x):RepI w S v (nz x):=by
 unfold nz;split
 ·rename_i cs;cases h with
  | agg us _ hl h1' hr =>
   refine .agg us _ (by simpa using hl) h1' fun i u x hu hx=>?_;simp only [yat] at hx;cases hc:cs[i]? with
   | none=>rw [hc] at hx;cases hx
   | some c =>
    rw [hc] at hx;simp only [yaj,zkF] at hx;rw [<- hx];exact zms (hr i u c hu hc)
 ·rename_i vs;split
  case isFalse=>exact .any _
  rename_i a0;cases h with
  | val _ =>
   have:=RepI.agg (w:=w) (S:=S) vs.toList (vs.toList.map fun v=>nz1 (.val v)) (by simp) (fun u hu=>ybf.1 a0 u hu) fun i u x hu hx=>by
    simp only [yat,hu,yaj,zkF] at hx;rw [<- hx];exact zms (.val _)
   simpa using this
 ·exact zms h
theorem zs7 {ρ:Ly} {bs:yad} {o q:Nat} (h:Owns (app σ (fwr bs)) ρ o q):Owns σ ρ o q∧o∉bs.map (·.1):=by
 have hl:=(fwr_live h.lv).2;unfold Owns at h ⊢;rw [zly,if_neg hl] at h;exact ⟨h,hl⟩
theorem kill_blk {a:Act} {w:World} {ρ:Ly} (h:SatR B σ a w ρ) {b q:Nat} {bs:yad} (hb:Owns σ ρ b q) (hm:b∈bs.map (·.1)):Imm B (app σ (fwr bs)) ρ w q:=by
 have hq:=h.own b q hb;refine ⟨.inr hq.1,hq.2,fun o ho=>?_,fun hz=>(h.res q hz).2 b hb⟩;obtain ⟨h1,h2⟩:=zs7 ho;have:=h.dis o b q h1 hb;subst this;exact h2 hm
theorem zjs.repI {w w':World} {S S':Nat->Prop} {v:Value} {e:TypeId} {k:Nat} {es:List (List IV)} (h:zjs w S v e k es) (hb:∀ b,zbm v=some b->S' b∧w'.heap[b]?=w.heap[b]?) (hI:∀ u x,RepI w S u x->RepI w' S' u x):RepI w' S' v (.sl es):=by
 obtain ⟨us,a9,a7,a6,a3,a4,a2,hr⟩:=h;have a0:=zjy a3 fun b h=>(hb b h).2;rcases a0.2 with ⟨e1,e2⟩ | ⟨q,a8,cur,e1,_,_,a5,_⟩
 ·have:es=[]:=yav e2;subst this;rw [e1];exact .emp _ _
 ·have hc:=a0.cells (g:=q) (by rw [e1];rfl);have hS:=(hb q (by rw [e1];rfl)).1;rw [e1];refine .sl q 0 a8 k _ es us rfl a7 a5 a6 hS a4 a2 (fun i u hu=>?_) fun i u x hu hx=>hI _ _ (hr i u x hu hx);have:=hc i u hu
  rwa [addr_add] at this
theorem zlj.repI {w w':World} {S S':Nat->Prop} {v:Value} {inn:List Value} {e e':TypeId} {k:Nat} {gs:List (List IV)} (h:zlj w S v inn e e' k gs none) (hb:∀ b,b∈fpv v inn->S' b∧w'.heap[b]?=w.heap[b]?) (hI:∀ u x,RepI w S u x->RepI w' S' u x):RepI w' S' v (.sl gs):=by
 obtain ⟨h0,h1,us,h2,h3,h4,h5⟩:=h;have a7:us.length=gs.length:=by have:=h3.1;omega
 have a0:∀ (i:Nat) x,gs[i]?=some x->∃ u es,us[i]?=some u∧x=[.sl es]∧RepI w' S' u (.sl es):=fun i x hx=>by
  have hi:i<inn.length:=by rw [h1];exact (zkI.1 hx).1
  obtain ⟨u,hu⟩:∃ u,inn[i]?=some u:=⟨_,zkM hi⟩;rcases h5 i u hu with ⟨h6,_⟩ | ⟨h6,es,h7,h8⟩
  ·cases h6
  ·rw [hx] at h7;injection h7 with h7
   exact ⟨u,es,h6,h7,h8.repI (fun b a4=>hb b (ybo.2 ⟨u,yay _ (zkH hu),a4⟩)) hI⟩
 have a5:∀ x∈gs,x.length=1:=fun x hx=>by
  obtain ⟨i,hi⟩:=ycd hx;obtain ⟨u,es,_,rfl,_⟩:=a0 i x hi;rfl
 have a9:=zby a5;have a3:=zjy h3 fun b a4=>(hb b (by simp [fpv,a4])).2;rcases a3.2 with ⟨e1,e2⟩ | ⟨q,a8,cur,e1,_,_,a6,_⟩
 ·have:gs=[]:=yav e2;subst this;rw [e1];exact .emp _ _
 ·have hc:=a3.cells (g:=q) (by rw [e1];rfl);have hS:=(hb q (by simp [fpv,e1,zbm])).1;rw [e1];refine .sl q 0 a8 1 _ gs us rfl a5 a6 h2 hS (by omega) h4 (fun i u hu=>?_) fun i u x hu hx=>?_
  ·have:=hc i u hu
   rwa [addr_add] at this
  ·have hi:i<gs.length:=by rw [<- a7];exact (zkI.1 hu).1
   obtain ⟨y,hy⟩:∃ y,gs[i]?=some y:=⟨_,zkM hi⟩;obtain ⟨u',es,a2,rfl,hr⟩:=a0 i y hy;rw [hu] at a2;injection a2 with a2
   subst a2;have hf:=flat_get a5 hy (j:=0) (by omega);rw [ycj,ybl,hx] at hf;simp at hf;rw [hf];exact hr
theorem fz1_ok {a:Act} {w:World} {ρ:Ly} (h:SatR B σ a w ρ) {v:Value} {c:AV} {x:IV} {bs bs':yad} (hgk:∀ p∈bs',σ.gn p.1=p.2) (hv:RepA w (Imm B σ ρ w) ρ σ.gn v c) (e:fz1 σ c=some (x,bs)) (hs:∀ b∈bs,b∈bs'):RepI w (Imm B (app σ (fwr bs')) ρ w) v x:=by
 have hI:=(h.kills bs').2;unfold fz1 at e;split at e
 ·simp only [zkF,zkG] at e;rw [<- e.1];exact zms (hI _ _ hv.im_inv)
 ·rename_i b g
  have key:∀ {k:Kd},σ.kd b=k->k≠.dead->(b,g)∈bs'->v=ρ b∧∀ q,q∈fpk (ρ b) (ρ.inn b) k->Imm B (app σ (fwr bs')) ρ w q∧w.heap[q]?=w.heap[q]?:=fun hk hd a0=>by
   have hg:=hgk _ a0;have a0:b∈bs'.map (·.1):=yap.2 ⟨_,a0,rfl⟩;refine ⟨?_,fun q hq=>⟨kill_blk h (b:=b) (by unfold Owns;rw [hk];exact hq) a0,rfl⟩⟩;cases hv with
   | osl _ _ _ _ _ hh=>exact hh hg
  have ho:=h.obs b;split at e
  ·rename_i t k es hk;simp only [zkF,zkG] at e;obtain ⟨rfl,rfl⟩:=e;obtain ⟨h1,h2⟩:=key hk (fun z=>by cases z) (hs (b,g) (by simp));rw [hk] at ho;rw [h1];exact zjs.repI ho (fun q hq=>h2 q (by simp [fpk,hq])) hI
  ·rename_i t t' k gs hk;simp only [zkF,zkG] at e;obtain ⟨rfl,rfl⟩:=e;obtain ⟨h1,h2⟩:=key hk (fun z=>by cases z) (hs (b,g) (by simp));rw [hk] at ho;rw [h1];exact zlj.repI ho (fun q hq=>h2 q hq) hI
  ·rename_i l hk;simp only [zkF,zkG] at e;obtain ⟨rfl,rfl⟩:=e;exact .any _
  ·cases e
 ·rename_i b g i;have ho:=h.obs b;split at e
  ·rename_i t t' k gs hk a4;simp only [zkF,zkG] at e;obtain ⟨rfl,rfl⟩:=e;have a0:b∈bs'.map (·.1):=yap.2 ⟨_,hs (b,σ.gn b) (by simp),rfl⟩;have hg:σ.ig b=g:=yag a4
   have a2:(ρ.inn b)[i]?=some v:=by
    cases hv with
    | sub _ _ _ _ _ _ hh=>exact hh ((h.igs b).trans hg)
   have a3:∀ q,q∈fpk (ρ b) (ρ.inn b) (.grid t t' k gs none)->Imm B (app σ (fwr bs')) ρ w q:=fun q hq=>kill_blk h (b:=b) (by unfold Owns;rw [hk];exact hq) a0;rw [hk] at ho;obtain ⟨h0,h1,us,h2,h3,h4,h5⟩:=ho;rcases h5 i v a2 with ⟨h6,_⟩ | ⟨h6,es,h7,h8⟩
   ·cases h6
   ·have er:rowAt gs i=es:=by unfold rowAt;rw [h7]
    rw [er];exact h8.repI (fun q hq=>⟨a3 q (ybo.2 ⟨v,yay _ (zkH a2),hq⟩),rfl⟩) hI
  ·cases e
 ·cases e
theorem zwf {a:Act} {w:World} {ρ:Ly} (h:SatR B σ a w ρ) {bs':yad} (hgk:∀ p∈bs',σ.gn p.1=p.2):∀ {us:List Value} {cs:List AV} {xs:List IV} {bs:yad},Reps w (Imm B σ ρ w) ρ σ.gn us cs->fzL σ cs=some (xs,bs)->(∀ b∈bs,b∈bs')->zk2 w (Imm B (app σ (fwr bs')) ρ w) us xs
 | [],[],xs,bs,_,e,_=>by
  simp only [fzL,zkF,zkG] at e;rw [<- e.1];exact ⟨rfl,fun i u x hu=>by simp at hu⟩
 | u::us,c::cs,xs,bs,hr,e,hs=>by
  simp only [fzL] at e;split at e
  ·rename_i x b1 xs1 bs1 h1 h2;simp only [zkF,zkG] at e;obtain ⟨rfl,rfl⟩:=e;have r1:=fz1_ok h hgk (hr.2 0 u c rfl rfl) h1 fun b hb=>hs b (yai _ hb);have r2:=zwf h hgk (us:=us) (cs:=cs) ⟨by simpa using hr.1,fun i u c hu hc=>hr.2 (i+1) u c (by simpa using hu) (by simpa using hc)⟩ h2 fun b hb=>hs b (yaf _ hb);refine ⟨by simp [r2.1],fun i u' x' hu hx=>?_⟩;cases i with
   | zero=>simp at hu hx;rw [<- hu,<- hx];exact r1
   | succ i=>exact r2.2 i u' x' (by simpa using hu) (by simpa using hx)
  ·cases e
 | [],_::_,_,_,hr,_,_=>by have:=hr.1;simp at this
 | _::_,[],_,_,hr,_,_=>by have:=hr.1;simp at this
theorem zoq {w:World} {ρ:Ly} {us:List Value} {b:Nat} {t:TypeId} (hk:σ.kd b=.box t us.length) (h:∀ (j:Nat) u,us[j]?=some u->RepA w (Imm B σ ρ w) ρ σ.gn u (σ.ce b j)):Reps w (Imm B σ ρ w) ρ σ.gn us (zqa σ b):=by
 have hl:=zqb hk;unfold zqa;rw [hl];refine ⟨by simp,fun i u c hu hc=>?_⟩;have hi:i<us.length:=(zkI.1 hu).1;simp only [yat,yb6 hi,yaj,zkF] at hc;rw [<- hc];exact h i u hu
theorem zk2.drop {w:World} {S:Nat->Prop} {us:List Value} {xs:List IV} (h:zk2 w S us xs) (i:Nat):zk2 w S (us.drop i) (xs.drop i) :=
 ⟨by simp [h.1],fun j u x hu hx=>h.2 (i+j) u x (by rwa [ya6] at hu) (by rwa [ya6] at hx)⟩
theorem fz2_ok {a:Act} {w:World} {ρ:Ly} (h:SatR B σ a w ρ) {v:Value} {c:AV} {x:IV} {bs bs':yad} (hgk:∀ p∈bs',σ.gn p.1=p.2) (hv:RepA w (Imm B σ ρ w) ρ σ.gn v c) (e:fz2 σ c=some (x,bs)) (hs:∀ b∈bs,b∈bs'):RepI w (Imm B (app σ (fwr bs')) ρ w) v x:=by
 have hI:=(h.kills bs').2;unfold fz2 at e;split at e
 ·simp only [zkF,zkG] at e;rw [<- e.1];exact nz_rep (hI _ _ hv.im_inv)
 ·rename_i cs;cases hf:fzL σ cs with
  | none=>rw [hf] at e;cases e
  | some p =>
   rw [hf] at e;simp only [yaj,zkF,zkG] at e;cases hv with
   | agg us _ hl a2 hr =>
    have r:=zwf h (bs':=bs') hgk ⟨hl,hr⟩ (xs:=p.1) (bs:=p.2) hf (by rw [e.2];exact hs);rw [<- e.1];exact .agg us _ r.1 a2 r.2
 ·rename_i b g i;split at e
  ·rename_i t m a3;cases hf:fzL σ (zqa σ b) with
   | none=>rw [hf] at e;cases e
   | some p =>
    rw [hf] at e;simp only [yaj,zkF,zkG] at e;obtain ⟨e1,e2⟩:=e;have a0:=hs (b,g) (by rw [<- e2];simp);have hg:=hgk _ a0;have a0:b∈bs'.map (·.1):=yap.2 ⟨_,a0,rfl⟩;have a4:∀ b∈p.2,b∈bs':=fun c hc=>hs c (by rw [<- e2];simp [hc]);have hl:live σ b:=by unfold live;rw [a3];exact fun z=>by cases z
    obtain ⟨q,us,e3,e4,e5,e6,e7,e8,e9⟩:=zj9 h hv hg a3;have r:=(zwf h (bs':=bs') hgk (zoq (by rw [e6];exact a3) e9) (xs:=p.1) (bs:=p.2) hf a4).drop i;have hb:zbm (ρ b)=some q:=by rw [e4];rfl
    rw [<- e1,e3];exact .ref q i (us.drop i) _ (kill_blk h (.root hl hb) a0) r.1 (fun u hu=>e7 u (ya1 hu)) (fun j u hu=>e8 _ u (by rwa [ya6] at hu)) r.2
  ·cases e
 ·exact fz1_ok h hgk hv e hs
theorem fzM_ok {a:Act} {w:World} {ρ:Ly} (h:SatR B σ a w ρ) {bs':yad} (hgk:∀ p∈bs',σ.gn p.1=p.2):∀ {us:List Value} {cs:List AV} {xs:List IV} {bs:yad},Reps w (Imm B σ ρ w) ρ σ.gn us cs->fzM σ cs=some (xs,bs)->(∀ b∈bs,b∈bs')->zk2 w (Imm B (app σ (fwr bs')) ρ w) us xs
 | [],[],xs,bs,_,e,_=>by
  simp only [fzM,zkF,zkG] at e;rw [<- e.1];exact ⟨rfl,fun i u x hu=>by simp at hu⟩
 | u::us,c::cs,xs,bs,hr,e,hs=>by
  simp only [fzM] at e;split at e
  ·rename_i x b1 xs1 bs1 h1 h2;simp only [zkF,zkG] at e;obtain ⟨rfl,rfl⟩:=e;have r1:=fz2_ok h hgk (hr.2 0 u c rfl rfl) h1 fun b hb=>hs b (yai _ hb);have r2:=fzM_ok h hgk (us:=us) (cs:=cs) ⟨by simpa using hr.1,fun i u c hu hc=>hr.2 (i+1) u c (by simpa using hu) (by simpa using hc)⟩ h2 fun b hb=>hs b (yaf _ hb);refine ⟨by simp [r2.1],fun i u' x' hu hx=>?_⟩;cases i with
   | zero=>simp at hu hx;rw [<- hu,<- hx];exact r1
   | succ i=>exact r2.2 i u' x' (by simpa using hu) (by simpa using hx)
  ·cases e
 | [],_::_,_,_,hr,_,_=>by have:=hr.1;simp at this
 | _::_,[],_,_,hr,_,_=>by have:=hr.1;simp at this
theorem zve {a:Act} {w:World} {ρ:Ly} (h:SatR B σ a w ρ) {v:Value} {c:AV} {x:IV} {bs bs':yad} (hgk:∀ p∈bs',σ.gn p.1=p.2) (hv:RepA w (Imm B σ ρ w) ρ σ.gn v c) (e:fz σ c=some (x,bs)) (hs:∀ b∈bs,b∈bs'):RepI w (Imm B (app σ (fwr bs')) ρ w) v x:=by
 unfold fz at e;split at e
 ·rename_i f caps;cases hf:fzM σ caps with
  | none=>rw [hf] at e;cases e
  | some p =>
   rw [hf] at e;simp only [yaj,zkF,zkG] at e;cases hv with
   | fn _ us _ hl hr =>
    have r:=fzM_ok h (bs':=bs') hgk ⟨hl,hr⟩ (xs:=p.1) (bs:=p.2) hf (by rw [e.2];exact hs);rw [<- e.1];exact .fn f us _ r.1 r.2
 ·exact fz2_ok h hgk hv e hs
def zdy (σ σ':St) (bs:yad):Prop:=∀ l∈frd σ bs,σ' l=σ l
theorem zdy.left {σ':St} {b c:yad} (h:zdy σ σ' (b++c)):zdy σ σ' b:=fun l hl=>h l (by unfold frd at *;rw [yc3];exact yai _ hl)
theorem zdy.right {σ':St} {b c:yad} (h:zdy σ σ' (b++c)):zdy σ σ' c:=fun l hl=>h l (by unfold frd at *;rw [yc3];exact yaf _ hl)
theorem zdy.head {σ':St} {p:Nat×Nat} {c:yad} (h:zdy σ σ' (p::c)):σ'.gn p.1=σ.gn p.1∧σ'.kd p.1=σ.kd p.1∧zqa σ' p.1=zqa σ p.1∧σ'.ig p.1=σ.ig p.1:=by
 have h1:=zd6 (h (.gen p.1) (by simp [frd]));have h2:=zpf (h (.knd p.1) (by simp [frd]))
 have h3:σ'.ig p.1=σ.ig p.1:=by
  have:=h (.ign p.1) (by simp [frd]);unfold St.ig;rw [this]
 refine ⟨h1,h2,?_,h3⟩;unfold zqa;rw [boxLen_same h2];refine List.map_congr_left fun i hi=>ce_same (h (.cel p.1 i) ?_);simp only [frd,ya3,ycq,yau,yal];refine .inr (.inr (.inr (.inl ?_)));unfold boxRd;exact yap.2 ⟨i,hi,rfl⟩
theorem fz1_same {σ':St} {c:AV} {x:IV} {bs:yad} (e:fz1 σ c=some (x,bs)) (h:zdy σ σ' bs):fz1 σ' c=some (x,bs):=by
 unfold fz1 at e ⊢;split at e
 ·exact e
 ·rename_i b g;split at e
  ·rename_i t k es hk;simp only [zkF,zkG] at e;obtain ⟨rfl,rfl⟩:=e;rw [show σ'.kd b=_ from (zdy.head h).2.1.trans hk]
  ·rename_i t t' k gs hk;simp only [zkF,zkG] at e;obtain ⟨rfl,rfl⟩:=e;rw [show σ'.kd b=_ from (zdy.head h).2.1.trans hk]
  ·rename_i l hk;simp only [zkF,zkG] at e;obtain ⟨rfl,rfl⟩:=e;rw [show σ'.kd b=_ from (zdy.head h).2.1.trans hk]
  ·cases e
 ·rename_i b g i;split at e
  ·rename_i t t' k gs hk a0;simp only [zkF,zkG] at e;obtain ⟨rfl,rfl⟩:=e;have hh:=zdy.head h;rw [show σ'.kd b=_ from hh.2.1.trans hk,show Nat.beq (σ'.ig b) g=true by rw [show σ'.ig b=σ.ig b from hh.2.2.2];exact a0,show σ'.gn b=σ.gn b from hh.1]
  ·cases e
 ·cases e
theorem zom {σ':St}:∀ {cs:List AV} {xs:List IV} {bs:yad},fzL σ cs=some (xs,bs)->zdy σ σ' bs->fzL σ' cs=some (xs,bs)
 | [],_,_,e,_=>e
 | c::cs,xs,bs,e,h=>by
  simp only [fzL] at e;split at e
  ·rename_i x b1 xs1 bs1 h1 h2;simp only [zkF,zkG] at e;obtain ⟨rfl,rfl⟩:=e;simp only [fzL,fz1_same h1 h.left,zom h2 h.right]
  ·cases e
theorem fz2_same {σ':St} {c:AV} {x:IV} {bs:yad} (e:fz2 σ c=some (x,bs)) (h:zdy σ σ' bs):fz2 σ' c=some (x,bs):=by
 unfold fz2 at e ⊢;split at e
 ·exact e
 ·rename_i cs;cases hf:fzL σ cs with
  | none=>rw [hf] at e;cases e
  | some p =>
   rw [hf] at e;simp only [yaj,zkF,zkG] at e;obtain ⟨rfl,rfl⟩:=e;rw [zom (xs:=p.1) (bs:=p.2) hf h];rfl
 ·rename_i b g i;split at e
  ·rename_i t m a0;cases hf:fzL σ (zqa σ b) with
   | none=>rw [hf] at e;cases e
   | some p =>
    rw [hf] at e;simp only [yaj,zkF,zkG] at e;obtain ⟨rfl,rfl⟩:=e;have hh:=zdy.head h;rw [show σ'.kd b=_ from hh.2.1.trans a0];simp only;rw [show zqa σ' b=_ from hh.2.2.1,zom (xs:=p.1) (bs:=p.2) hf (zdy.right (b:=[(b,g)]) h)];rfl
  ·cases e
 ·exact fz1_same e h
theorem fzM_same {σ':St}:∀ {cs:List AV} {xs:List IV} {bs:yad},fzM σ cs=some (xs,bs)->zdy σ σ' bs->fzM σ' cs=some (xs,bs)
 | [],_,_,e,_=>e
 | c::cs,xs,bs,e,h=>by
  simp only [fzM] at e;split at e
  ·rename_i x b1 xs1 bs1 h1 h2;simp only [zkF,zkG] at e;obtain ⟨rfl,rfl⟩:=e;simp only [fzM,fz2_same h1 h.left,fzM_same h2 h.right]
  ·cases e
theorem znp {σ':St} {c:AV} {x:IV} {bs:yad} (e:fz σ c=some (x,bs)) (h:zdy σ σ' bs):fz σ' c=some (x,bs):=by
 unfold fz at e ⊢;split at e
 ·rename_i f caps;cases hf:fzM σ caps with
  | none=>rw [hf] at e;cases e
  | some p =>
   rw [hf] at e;simp only [yaj,zkF,zkG] at e;obtain ⟨rfl,rfl⟩:=e;rw [fzM_same (xs:=p.1) (bs:=p.2) hf h];rfl
 ·exact fz2_same e h
theorem SatR.reav {B:Base} {σ:St} {a:Act} {w:World} {ρ:Ly} (h:SatR B σ a w ρ) {t:Nat} {v:AV} (hv:RepA w (Imm B σ ρ w) ρ σ.gn (a.tmps.getD t undef) v):SatR B (upd σ (.tmp t) (.av v)) a w ρ:=by
 refine h.slots (zio.tmp σ t (.av v)) (fun s=>?_) h.siz h.dfr;rw [zsc];by_cases e:s=t
 ·rw [if_pos e,e];exact hv
 ·rw [if_neg e];exact h.tms s
theorem SatR.reavs {B:Base} {a:Act} {w:World} {ρ:Ly}:∀ (ws:List (Nat×IV)) {σ:St},SatR B σ a w ρ->(∀ p∈ws,RepI w (Imm B σ ρ w) (a.tmps.getD p.1 undef) p.2) ->
  SatR B (app σ (wrI ws)) a w ρ∧Imm B (app σ (wrI ws)) ρ w=Imm B σ ρ w∧(app σ (wrI ws)).gn=σ.gn
 | [],_,h,_=>⟨h,rfl,rfl⟩
 | p::ws,σ,h,hp=>by
  have hs:=zio.tmp σ p.1 (.av (.im p.2));have h1:=h.reav (t:=p.1) (.im _ _ (hp p (yb3 ..)));have hi:Imm B (upd σ (.tmp p.1) (.av (.im p.2))) ρ w=Imm B σ ρ w:=Imm.same hs.kd _ _;obtain ⟨h2,h3,h4⟩:=SatR.reavs ws h1 fun q hq=>by rw [hi];exact hp q (yay _ hq)
  exact ⟨h2,h3.trans hi,h4.trans hs.gn⟩
theorem capF_same {own:List Nat} {σ':St}:∀ {l:List Operand} {vs:List AV} {bs:yad} {ws:List (Nat×IV)},capF σ own l=some (vs,bs,ws)->zdy σ σ' bs->(∀ x∈l,evA σ' x=evA σ x)->capF σ' own l=some (vs,bs,ws)
 | [],_,_,_,h,_,_=>h
 | x::l,vs,bs,ws,h,hs,he=>by
  unfold capF at h ⊢;split at h
  ·rename_i vs0 bs0 ws0 h0;have hrec:zdy σ σ' bs0->capF σ' own l=some (vs0,bs0,ws0):=fun hs0=>capF_same h0 hs0 fun y hy=>he y (yay _ hy);have hx:=he x (yb3 ..);split at h
   ·rename_i t;have hx:σ'.av t=σ.av t:=hx;split at h
    ·rename_i hown;split at h
     ·rename_i y b hy;simp only [zkF,zkG] at h;obtain ⟨rfl,rfl,rfl⟩:=h;rw [hrec fun l' hl'=>hs l' (by unfold frd at hl' ⊢;rw [yc3];exact yaf _ hl')];simp only [hown];rw [hx,fz2_same hy fun l' hl'=>hs l' (by unfold frd at hl' ⊢;rw [yc3];exact yai _ hl')]
     ·cases h
    ·rename_i hown;simp only [zkF,zkG] at h;obtain ⟨rfl,rfl,rfl⟩:=h;rw [hrec hs];simp only [hown];rw [hx]
   ·rename_i hne;simp only [zkF,zkG] at h;obtain ⟨rfl,rfl,rfl⟩:=h;rw [hrec hs];cases x with
    | tmp t=>exact absurd rfl (hne _)
    | _=>rfl
  ·cases h
theorem capF_ok {own:List Nat} {a:Act} {w:World} {ρ:Ly} (h:SatR B σ a w ρ) {bs':yad} (hgk:∀ p∈bs',σ.gn p.1=p.2):∀ {l:List Operand} {vs:List AV} {bs:yad} {ws:List (Nat×IV)},capF σ own l=some (vs,bs,ws)->(∀ b∈bs,b∈bs') ->
  Reps w (Imm B (app σ (fwr bs')) ρ w) ρ (app σ (fwr bs')).gn (l.map a.eval) vs∧∀ p∈ws,RepI w (Imm B (app σ (fwr bs')) ρ w) (a.tmps.getD p.1 undef) p.2
 | [],_,_,_,e,_=>by
  simp only [capF,zkF,zkG] at e;obtain ⟨rfl,rfl,rfl⟩:=e;exact ⟨⟨rfl,fun i u y hu=>by simp at hu⟩,fun p hp=>by simp at hp⟩
 | x::l,vs,bs,ws,e,hb=>by
  unfold capF at e;obtain ⟨hk,_⟩:=h.kills bs';have hgn:(app σ (fwr bs')).gn=σ.gn:=zo7 bs' σ
  have cons:∀ {u:Value} {y:AV} {us:List Value} {ys:List AV},RepA w (Imm B (app σ (fwr bs')) ρ w) ρ (app σ (fwr bs')).gn u y->Reps w (Imm B (app σ (fwr bs')) ρ w) ρ (app σ (fwr bs')).gn us ys->Reps w (Imm B (app σ (fwr bs')) ρ w) ρ (app σ (fwr bs')).gn (u::us) (y::ys):=fun h1 h2 =>
   ⟨by simp [h2.1],fun i u' y' hu hy=>by
    cases i with
    | zero=>simp at hu hy;rw [<- hu,<- hy];exact h1
    | succ i=>exact h2.2 i u' y' (by simpa using hu) (by simpa using hy)⟩
  split at e
  ·rename_i vs0 bs0 ws0 h0;split at e
   ·rename_i t;split at e
    ·split at e
     ·rename_i y b hy;simp only [zkF,zkG] at e;obtain ⟨rfl,rfl,rfl⟩:=e;obtain ⟨r1,r2⟩:=capF_ok h hgk h0 fun p hp=>hb p (yaf _ hp);have h1:=fz2_ok h (bs':=bs') hgk (h.tms t) hy fun p hp=>hb p (yai _ hp)
      exact ⟨cons (.im _ _ h1) r1,fun p hp=>by
       rcases yau.1 hp with rfl | hp
       ·exact h1
       ·exact r2 p hp⟩
     ·cases e
    ·simp only [zkF,zkG] at e;obtain ⟨rfl,rfl,rfl⟩:=e;obtain ⟨r1,r2⟩:=capF_ok h hgk h0 hb;have:=hk.tms t;rw [fwr_av] at this;exact ⟨cons this r1,r2⟩
   ·rename_i hne;simp only [zkF,zkG] at e;obtain ⟨rfl,rfl,rfl⟩:=e;obtain ⟨r1,r2⟩:=capF_ok h hgk h0 hb;have:=za0 hk x;cases x with
    | tmp t=>exact absurd rfl (hne _)
    | _=>exact ⟨cons this r1,r2⟩
  ·cases e
theorem aMakeFunc_ok {own:List Nat} {fn:Fn} {first captured:Array Operand} (hop:o.op=.makeFunc fn first captured) (hd:zdh B.n o=true) (h:ztj own o σ K fn first captured):∃ fx,K fx∧Eff P B o fx.rd σ fx.wr:=by
 unfold ztj at h;split at h
 ·rename_i g;split at h
  ·rename_i vs bs ws a4;obtain ⟨h0,h⟩:=h.ok;obtain ⟨a3,h⟩:=h.out;refine ⟨_,h,fun σ' hag a w ⟨ρ,hs⟩ K' Q hK=>?_⟩;have hf:first=#[]:=by simpa using h0
   subst hf;have a0:zdy σ σ' bs:=za3 hag
   have a5:∀ p∈bs,σ'.gn p.1=p.2:=fun p hp=>by
    rw [<- a3 p hp];exact zd6 (a0 (.gen p.1) (by unfold frd;exact yci.2 ⟨p,hp,by simp⟩))
   have a2:=capF_same a4 a0 fun x hx=>zai fun l hl=>zao hag l (by unfold opdL;exact yci.2 ⟨x,hx,hl⟩);obtain ⟨a6,_⟩:=hs.kills bs;obtain ⟨r1,r2⟩:=capF_ok hs (bs':=bs) a5 a2 fun _ h=>h;obtain ⟨h5,h6,h7⟩:=a6.reavs ws r2
   have run:(execOp a.eval o).run P w=.ok (.value (.func (.func g) #[] (captured.toList.map a.eval).toArray)) w:=by
    simp [execOp,hop,Instr.makeFunc];rw [<- ybx]
   unfold Oper.wp;rw [run,Oper.upon_value];refine hK _ _ ⟨ρ,?_⟩;rw [zau,zau];exact h5.put (fun t e=>zdf hd e) (.fn g _ _ (by simpa using r1.1) fun i u y hu hy=>by rw [h6,h7];exact r1.2 i u y hu hy)
  ·exact h.elim
 ·exact h.elim
theorem aBox_ok {own:List Nat} {t:TypeId} {x:Operand} (hop:o.op=.box t x) (hd:zdh B.n o=true) (h:aBox own o σ K t x):∃ fx,K fx∧Eff P B o fx.rd σ fx.wr:=by
 unfold aBox at h;split at h
 ·rename_i d cs a0 a4
  have run:∀ (a:Act) w,(execOp a.eval o).run P w=.ok (.value (.pointer (some ⟨w.heap.size,0,none⟩))) (w.alloc (.cells (a.eval x).cells.toList.toArray t)):=fun a w=>by
   simp [execOp,hop,Instr.box,newVar,newRow]
  split at h
  ·split at h
   ·rename_i xs bs b2;obtain ⟨a6,h⟩:=h.out;refine ⟨_,h,fun σ' hag a w ⟨ρ,hs⟩ K' Q hK=>?_⟩;have a3:zdy σ σ' bs:=za3 hag
    have a9:∀ p∈bs,σ'.gn p.1=p.2:=fun p hp=>by
     rw [<- a6 p hp];exact zd6 (a3 (.gen p.1) (by unfold frd;exact yci.2 ⟨p,hp,by simp⟩))
    have h1:=za0 hs x;rw [zai (zao hag)] at h1;have hr:=zja a4 h1;have a2:=zjc a4 h1;have hf:=zwf hs (bs':=bs) a9 hr (zom b2 a3) fun _ h=>h;obtain ⟨a5,_⟩:=hs.kills bs;have a7:Below w.heap.size w (w.alloc (.cells (a.eval x).cells.toList.toArray t)):=(Below.refl _ _).alloc (yam _) _;obtain ⟨b0,hI⟩:=a5.world a7;unfold Oper.wp;rw [run,Oper.upon_value,a0];refine hK _ _ ⟨ρ,?_⟩;rw [zau];refine b0.put (d:=some d) (fun t e=>by injection e with e;subst e;exact zdf hd a0) (.im _ _ (.ref _ _ _ _ ⟨.inr (.inl hs.bel.size),by simp,fun p a8=>?_,fun hz=>?_⟩ hf.1 a2 (fun i u hu=>?_) fun i u y hu hy=>hI _ _ (hf.2 i u y hu hy)))
    ·have:=(a5.own p _ a8).2;omega
    ·have:=(a5.res _ hz).1.2;omega
    ·rw [yae];unfold World.cell?;simp only [heap_alloc_new];simpa using hu
   ·exact h.elim
  refine ⟨_,h,fun σ' hag a w ⟨ρ,hs⟩ K' Q hK=>?_⟩;have h1:=za0 hs x;rw [zai (zao hag)] at h1;have hg:=zd6 (za3 hag (.gen d) (by simp));have hr:=zja a4 h1;have a2:=zjc a4 h1;unfold Oper.wp;rw [run,Oper.upon_value,a0];refine hK _ _ ⟨setρ ρ d (.pointer (some ⟨w.heap.size,0,none⟩)),?_⟩;show SatR B (app σ' (zez σ d (.box t cs.length)++zg6 d 0 cs++[(.tmp d,.av (.own d (σ.gn d+1) 0))])) _ _ _;rw [zn1 hg,<- hg];exact zwn (hs.box d t hr a2) _ rfl (zdf hd a0)
 ·exact h.elim
end
end
section
section
variable {P:Program} {B:Base} {o:Oper} {σ:St} {K:Fx->Prop}
theorem zkg {t:TypeId} {k by_:Nat} (hz:zOk P t k=true) (hk:szOf P t=some k) (hb:byteOf P t=some by_):∃ i z,P.info? t=some i∧i.zero=some z∧i.size=k∧i.bytes=by_∧z.cells.size=k:=by
 unfold szOf at hk;unfold byteOf at hb;cases hi:P.info? t with
 | none=>rw [hi] at hk;cases hk
 | some i =>
  rw [hi] at hk hb;simp only [yaj,zkF] at hk hb;unfold zOk at hz;split at hz
  ·rename_i zs a0;unfold zeroOf at a0;simp only [hi] at a0;cases hz0:i.zero with
   | none=>rw [hz0] at a0;cases a0
   | some z =>
    rw [hz0] at a0;simp only [yaj,zkF] at a0;refine ⟨i,z,rfl,hz0,hk,hb,?_⟩;rw [<- a0] at hz;simpa using hz
  ·cases hz
theorem zu8 {w:World} {S:Nat->Prop} {v:Value} {es:List (List IV)} {k:Nat} (h:RepI w S v (.sl es)) (hk:∀ e∈es,e.length=k) :
  ∃ (A:Option Addr) (c:Nat) (us:List Value),v=.slice A es.length c∧us.length=es.flatten.length∧(∀ u∈us,u.oneCell'=true)∧es.length<=17592186044416 ∧
   (0<es.length->∃ b q,A=some ⟨b,q,none⟩∧∀ (j:Nat) u,us[j]?=some u->w.cell? ⟨b,q+j,none⟩=some u)∧∀ (i:Nat) u x,us[i]?=some u->es.flatten[i]?=some x->RepI w S u x:=by
 cases h with
 | emp A c=>exact ⟨A,c,[],rfl,rfl,by simp,by simp,fun h=>by simp at h,by simp⟩
 | sl b q c k' n _ us hn hkk hcap hs hS hl h1 hu hr=>exact ⟨_,c,us,by rw [hn],hl,h1,by omega,fun _=>⟨b,q,rfl,hu⟩,hr⟩
theorem zgz {w:World} (base:Nat) (t ty e:TypeId) (i:TypeInfo) (z:Value) (size bytes:Nat) (ht:P.underlying t=some (.slice e)) (hi:P.info? e=some i) (hz:i.zero=some z)
  (hsize:i.size=size) (hby:i.bytes=bytes) (hzs:z.cells.size=size) (hsz:0<size) (v:Value) (n:Nat) (xs:List Value) (hown:w.ownsRow base e size v n xs)
  (A:Option Addr) (m c:Nat) (news:List Value) (hl:news.length=m*size) (hs:0<m->∃ b q,A=some ⟨b,q,none⟩∧∀ (j:Nat) u,news[j]?=some u->w.cell? ⟨b,q+j,none⟩=some u) (h1:∀ u∈news,u.oneCell'=true)
  (a2:n+m<=maxLen) (hbytes:(n+m)*bytes<=140737488355328) (hbase:base<=w.heap.size) :
  ∃ v' w',(Builtin.append_ #[t,t] ty #[v,.slice A m c]).run P w=.ok v' w'∧w'.ownsRow base e size v' (n+m) (xs++news)∧w.grownBy w' v.ownBlock ∧
   (v'.ownBlock=v.ownBlock∨v'.ownBlock=some w.heap.size):=by
 cases A with
 | none =>
  have hm:m=0:=by
   rcases yb4 m with h0 | h0
   ·exact h0
   ·obtain ⟨b,q,h,_⟩:=hs h0;cases h
  subst hm;have hn:news=[]:=yav (by simpa using hl);subst hn;refine ⟨v,w,?_,by simpa using hown,World.grownBy.refl w _,.inl rfl⟩;rcases hown.2 with ⟨rfl,rfl⟩ | ⟨g,a6,cur,rfl,_,_,a5,_⟩
  ·simp [Builtin.append_,run_underlying ht,sizeOf,typeInfo,hi,Builtin.lenOf,Builtin.firstCells]
  ·simp [Builtin.append_,run_underlying ht,sizeOf,typeInfo,hi,Builtin.lenOf,Builtin.firstCells,a5,storeCells]
 | some ad =>
  have a0:∀ (j:Nat) u,news[j]?=some u->w.cell? (ad.add j)=some u:=by
   intro j u hu;rcases yb4 m with h0 | h0
   ·subst h0;have hn:news=[]:=yav (by simpa using hl);subst hn;simp at hu
   ·obtain ⟨b,q,h,a4⟩:=hs h0;injection h with h
    subst h;rw [addr_add];exact a4 j u hu
  obtain ⟨v',w',a3,h2,h3,_,h5⟩:=run_append_own_at (P:=P) w base t ty e i z size bytes ht hi hz hsize hby hzs hsz v n xs hown ad m c news hl a0 h1 a2 hbytes hbase;exact ⟨v',w',a3,h2,h3,h5⟩
theorem row_one {w:World} {base:Nat} {e:TypeId} {k n:Nat} {v:Value} {us:List Value} (h:w.ownsRow base e k v n us):v.oneCell'=true:=by
 rcases h.2 with ⟨rfl,_⟩ | ⟨_,_,_,rfl,_⟩<;>rfl
theorem zt2 {w:World} (t ty e:TypeId) (i:TypeInfo) (z:Value) (size bytes:Nat) (ht:P.underlying t=some (.slice e)) (hi:P.info? e=some i) (hz:i.zero=some z)
  (hsize:i.size=size) (hby:i.bytes=bytes) (hzs:z.cells.size=size) (A:Option Addr) (n:Nat) (olds:List Value) (hlo:olds.length=n*size)
  (ho:0<n->∃ b q,A=some ⟨b,q,none⟩∧∀ (j:Nat) u,olds[j]?=some u->w.cell? ⟨b,q+j,none⟩=some u)
  (A':Option Addr) (m c:Nat) (news:List Value) (hl:news.length=m*size) (hs:0<m->∃ b q,A'=some ⟨b,q,none⟩∧∀ (j:Nat) u,news[j]?=some u->w.cell? ⟨b,q+j,none⟩=some u) (hm:0<m)
  (a2:n+m<=maxLen) (hbytes:(n+m)*bytes<=140737488355328) :
  ∃ v' w',(Builtin.append_ #[t,t] ty #[.slice A n n,.slice A' m c]).run P w=.ok v' w'∧w'.ownsRow 0 e size v' (n+m) (olds++news)∧w.grownBy w' none∧v'.ownBlock=some w.heap.size:=by
 subst hsize;subst hby;obtain ⟨b',q',rfl,a8⟩:=hs hm;have a3:∀ j u,news[j]?=some u->w.cell? ((⟨b',q',none⟩:Addr).add j)=some u:=fun j u h=>by rw [addr_add];exact a8 j u h
 have a7:n+m<=9223372036854775807:=by simp only [maxLen] at a2;omega
 have a0:(olds++news).length=(n+m)*i.size:=by rw [zkJ,hlo,hl,Nat.add_mul]
 have a6:=grownCap_ge w (n+m) n e;have a4:grownCap w (n+m) n e<=maxLen:=grownCap_le_maxLen w (n+m) n e a2;cases A with
 | none =>
  have hn:n=0:=by
   rcases yb4 n with h0 | h0
   ·exact h0
   ·obtain ⟨_,_,h,_⟩:=ho h0;cases h
  subst hn;have hx:olds=[]:=yav (by simpa using hlo);subst hx;have hr:=run_append_nil (P:=P) w t ty e i z ht hi hz ⟨b',q',none⟩ m c news hl a3 hm (by omega) (by simp only [yae] at hbytes;omega);simp only [yae,ycb] at a0 a6 a4 ⊢;refine ⟨_,_,hr,⟨a0,.inr ⟨w.heap.size,_,_,rfl,yas _,heap_alloc_new w.drew _,a6,a4,?_,?_⟩⟩,⟨rfl,rfl,rfl,by simp,fun k hk _=>heap_alloc_old w.drew _ hk⟩,rfl⟩
  ·simp only [yd5,yby,size_zeroCells,hzs,hl,<- Nat.add_mul];congr 1;omega
  ·simp only [ydi];rw [<- a0];exact List.take_left
 | some b0 =>
  have a5:∀ j u,olds[j]?=some u->w.cell? (b0.add j)=some u:=fun j u h=>by
   rcases yb4 n with h0 | h0
   ·subst h0;have hx:olds=[]:=yav (by simpa using hlo);subst hx;simp at h
   ·obtain ⟨b,q,e,h2⟩:=ho h0;injection e with e
    subst e;rw [addr_add];exact h2 j u h
  have hr:=run_append_grow (P:=P) w t ty e i z ht hi hz b0 n n olds hlo a5 ⟨b',q',none⟩ m c news hl a3 (by omega) (by omega) (growslice_fits (by omega) hbytes);refine ⟨_,_,hr,⟨a0,.inr ⟨w.heap.size,_,_,rfl,yas _,heap_alloc_new w.drew _,a6,a4,?_,?_⟩⟩,⟨rfl,rfl,rfl,by simp,fun k hk _=>heap_alloc_old w.drew _ hk⟩,rfl⟩
  ·simp only [yd5,yby,size_zeroCells,hzs,hlo,hl,<- Nat.add_mul];congr 1;omega
  ·simp only [ydi,ybs];rw [<- ybs,<- a0];exact List.take_left
theorem SatR.rowed {a:Act} {w w':World} {ρ:Ly} (h:SatR B σ a w ρ) {used:Option Nat} {d k:Nat} {e:TypeId} {es new:List (List IV)} {v v':Value} {us news:List Value} (hu:∀ q,zbm v=some q->∃ b,used=some b∧Owns σ ρ b q)
  (hk0:0<k) (hes:∀ x∈es,x.length=k) (hnew:∀ x∈new,x.length=k) (hlim:es.length+new.length<=17592186044416) (hown0:w.ownsRow 0 e k v es.length us)
  (hown:w'.ownsRow 0 e k v' (es.length+new.length) (us++news)) (hg:w.grownBy w' v.ownBlock) (hlie:v'.ownBlock=v.ownBlock∨v'.ownBlock=some w.heap.size)
  (hl:us.length=es.flatten.length) (hl2:news.length=new.flatten.length) (h1:∀ u∈us,u.oneCell'=true) (h2:∀ u∈news,u.oneCell'=true)
  (hr:∀ (i:Nat) u x,us[i]?=some u->es.flatten[i]?=some x->RepI w (Imm B σ ρ w) u x) (hr2:∀ (i:Nat) u x,news[i]?=some u->new.flatten[i]?=some x->RepI w (Imm B σ ρ w) u x) :
  SatR B (zf4 σ used d (.row e k (es++new)) []) a w' (setρ ρ d v'):=by
 have m:zsj σ w w' ρ used v' v.ownBlock:=by
  refine ⟨hg,fun b hb=>?_,fun b hb=>?_⟩
  ·rw [zit hown0] at hb;exact hu b hb
  ·rw [<- zit hown] at hb;rcases hlie with e1 | e1
   ·exact .inl (by rw [<- e1];exact hb)
   ·rw [e1] at hb;injection hb with hb
    exact .inr (by omega)
 refine h.new m rfl fun hI _=>⟨us++news,hk0,fun x hx=>?_,by simpa using hlim,?_,by simp [hl,hl2],fun u a0=>?_,fun i u x a0 hx=>?_⟩
 ·rcases yal.1 hx with hx | hx
  ·exact hes x hx
  ·exact hnew x hx
 ·simpa [setρ] using hown
 ·rcases yal.1 a0 with a0 | a0
  ·exact h1 u a0
  ·exact h2 u a0
 ·rw [ybt,yaq] at hx;rw [yaq,hl] at a0;split at a0
  ·rename_i a2;rw [if_pos a2] at hx;exact hI _ _ (hr i u x a0 hx)
  ·rename_i a2;rw [if_neg a2] at hx;exact hI _ _ (hr2 _ u x a0 hx)
theorem zld {b k:Nat} {t:TypeId} {es:List (List IV)} (hk:σ.kd b=.row t k es):live σ b:=by unfold live;rw [hk];exact fun z=>by cases z
theorem que_append {w:World} {S:Nat->Prop} {v:Value} (t ty e:TypeId) {k:Nat} {es new:List (List IV)} (i:TypeInfo) (z:Value) (bytes:Nat) (ht:P.underlying t=some (.slice e)) (hi:P.info? e=some i) (hz:i.zero=some z)
  (hsize:i.size=k) (hby:i.bytes=bytes) (hzs:z.cells.size=k) (hQ:zmu w S v e k es) (hnew:∀ x∈new,x.length=k) (hm0:0<new.length)
  (A:Option Addr) (c:Nat) (news:List Value) (hl:news.length=new.flatten.length) (hs:0<new.length->∃ b q,A=some ⟨b,q,none⟩∧∀ (j:Nat) u,news[j]?=some u->w.cell? ⟨b,q+j,none⟩=some u) (h1:∀ u∈news,u.oneCell'=true)
  (hr:∀ (i:Nat) u x,news[i]?=some u->new.flatten[i]?=some x->RepI w S u x)
  (a2:es.length+new.length<=maxLen) (hlim:es.length+new.length<=17592186044416) (hbytes:(es.length+new.length)*bytes<=140737488355328) :
  ∃ v' w',(Builtin.append_ #[t,t] ty #[v,.slice A new.length c]).run P w=.ok v' w'∧w.grownBy w' (zbm v)∧(∀ q,zbm v'=some q->zbm v=some q∨w.heap.size<=q)∧v'.oneCell'=true ∧
   ∀ S',(∀ u x,RepI w S u x->RepI w' S' u x)->zmu w' S' v' e k (es++new):=by
 obtain ⟨us,k0,hk,d3,a8,c6,c7,hv⟩:=hQ;have c9:=zby hk;have c8:=zby hnew;have b7:news.length=new.length*k:=by rw [hl,c8]
 have b4:us.length=es.length*k:=by rw [a8,c9]
 obtain ⟨b',q',hA,b2⟩:=hs hm0
 have grown:∀ v' w',w'.ownsRow 0 e k v' (es.length+new.length) (us++news)->∀ S',(∀ u x,RepI w S u x->RepI w' S' u x)->zmu w' S' v' e k (es++new):=fun v' w' a3 S' hI=>by
  refine zjs.que ⟨us++news,k0,fun x hx=>(yal.1 hx).elim (hk x) (hnew x),by simpa using hlim,by simpa using a3,by simp [a8,hl],fun u hu=>(yal.1 hu).elim (c6 u) (h1 u),fun i u x hu hx=>hI _ _ ?_⟩;rw [ybt,yaq] at hx;rw [yaq,a8] at hu;split at hu
  ·rename_i a4;rw [if_pos a4] at hx;exact c7 i u x hu hx
  ·rename_i a4;rw [if_neg a4] at hx;exact hr _ u x hu hx
 rcases hv with ⟨rfl,rfl⟩ | ⟨q,off,b0,cur,rfl,e2,e3,e4,e5,e6⟩
 ·obtain rfl:us=[]:=yav (by simpa using b4);obtain ⟨v',w',a7,a3,a0,b8⟩:=zgz (P:=P) (w:=w) 0 t ty e i z k bytes ht hi hz hsize hby hzs k0 (.slice none 0 0) 0 [] (World.ownsRow_nil _ _ _ _) A new.length c news b7 hs h1 (by simpa using a2) (by simpa using hbytes) (yas _);refine ⟨v',w',a7,a0,fun q hq=>?_,row_one a3,grown v' w' (by simpa using a3)⟩;rw [<- zit a3] at hq;rcases b8 with g | g
  ·rw [g] at hq;cases hq
  ·rw [g] at hq;injection hq with hq
   exact .inr (by omega)
 ·subst hA;have a9:∀ j u,news[j]?=some u->w.cell? ((⟨b',q',none⟩:Addr).add j)=some u:=fun j u h=>by rw [addr_add];exact b2 j u h
  by_cases a5:es.length+new.length<=b0
  ·have d1:=run_firstCells_some (P:=P) w i.size new.length ⟨b',q',none⟩ new.length c news (by rw [hsize];exact b7) a9;have c0:(es.length+new.length)*k<=b0*k:=ybd _ a5;rw [Nat.add_mul] at c0;have b9:=run_storeCells_at (P:=P) q (off+es.length*k) e news 0 cur w e2 (by omega) h1;simp only [ybl] at b9;subst hsize
   refine ⟨.slice (some ⟨q,off,none⟩) (es.length+new.length) b0,w.setRow q (cur.toList.take (off+es.length*i.size)++news++cur.toList.drop (off+es.length*i.size+news.length)).toArray,by
    simp [Builtin.append_,run_underlying ht,sizeOf,typeInfo,hi,Builtin.lenOf,a5,d1,Addr.add_lit,b9],⟨rfl,rfl,rfl,by simp,fun k hk d2=>setRow_other w q k _ (fun e=>d2 (by rw [e];rfl))⟩,fun q' hq=>.inl hq,rfl,fun S' hI=>⟨us++news,k0,fun x hx=>(yal.1 hx).elim (hk x) (hnew x),by simpa using hlim,by simp [a8,hl],fun u hu=>(yal.1 hu).elim (c6 u) (h1 u),fun j u x hu hx=>hI _ _ ?_,.inr ⟨q,off,b0,_,by rw [zkJ],setRow_heap w q cur _ e _ e2,by rw [zkJ];exact a5,e4,?_,fun j u hu=>?_⟩⟩⟩
   ·rw [ybt,yaq] at hx;rw [yaq,a8] at hu;split at hu
    ·rename_i a4;rw [if_pos a4] at hx;exact c7 j u x hu hx
    ·rename_i a4;rw [if_neg a4] at hx;exact hr _ u x hu hx
   ·simp only [yby,zkJ,yak,ya0,ybw];omega
   ·have d0:cur.toList.length=cur.size:=rfl;rw [yds,ybs,yaq,yak,d0];rw [yaq] at hu;split at hu
    ·rename_i a4;rw [if_pos (by omega),yax,if_pos (by omega),yao];exact e6 j u hu
    ·rename_i a4;have d4:j-us.length<news.length:=(zkI.1 hu).1;rw [if_neg (by omega),yaq,if_pos (by omega)];rw [<- hu];congr 1;omega
  ·have b6:∀ j u,us[j]?=some u->w.cell? ((⟨q,off,none⟩:Addr).add j)=some u:=fun j u h=>by
    rw [addr_add];unfold World.cell?;simp only [e2];simpa using e6 j u h
   obtain ⟨v',w',a7,a3,a0⟩:=run_append_arg_grows (P:=P) w t ty e i z k bytes ht hi hz hsize hby hzs k0 ⟨q,off,none⟩ es.length b0 us b4 b6 ⟨b',q',none⟩ new.length c news b7 a9 (by omega) a2 hbytes
   have a6:w'.ownsRow 0 e k v' (es.length+new.length) (us++news):=by
    refine ⟨a3.1,?_⟩;rcases a3.2 with g | ⟨g,b5,b3,f1,f2,f3⟩
    ·exact .inl g
    ·exact .inr ⟨g,b5,b3,f1,yas _,f3⟩
   refine ⟨v',w',a7,⟨a0.os,a0.tape,a0.output,a0.size,fun k hk _=>a0.block k hk (by simp)⟩,fun p hp=>?_,row_one a6,grown v' w' a6⟩;rcases a3.2 with ⟨g,_⟩ | ⟨g,b5,b3,f1,f2,f3⟩
   ·rw [g] at hp;cases hp
   ·rw [f1] at hp;simp only [zbm,zkF] at hp;exact .inr (by omega)
theorem SatR.qued {a:Act} {w w':World} {ρ:Ly} (h:SatR B σ a w ρ) {used row:Option Nat} {d k:Nat} {e:TypeId} {es:List (List IV)} {v':Value} (hu:∀ q,row=some q->∃ b,used=some b∧Owns σ ρ b q) (hg:w.grownBy w' row)
  (hlie:∀ q,zbm v'=some q->row=some q∨w.heap.size<=q) (hQ:∀ S',(∀ u x,RepI w (Imm B σ ρ w) u x->RepI w' S' u x)->zmu w' S' v' e k es):SatR B (zf4 σ used d (.que e k es) []) a w' (setρ ρ d v') :=
 h.new ⟨hg,hu,hlie⟩ rfl fun hI _=>by
  show zmu w' _ (setρ ρ d v' d) e k es;rw [show setρ ρ d v' d=v' by simp [setρ]];exact hQ _ hI
theorem live_que {b k:Nat} {t:TypeId} {es:List (List IV)} (hk:σ.kd b=.que t k es):live σ b:=by unfold live;rw [hk];exact fun z=>by cases z
theorem aAppend_ok {c:Call} {t:TypeId} {x y:Operand} (hop:o.op=.call c) (hc:c.callee=.builtin .append) (hargs:c.args=#[x,y]) (hts:c.argTypes=#[t,t]) (hd:zdh B.n o=true) (h:aAppend P o σ K t x y):∃ fx,K fx∧Eff P B o fx.rd σ fx.wr:=by
 unfold aAppend at h;split at h
 ·rename_i d et a8 g4;have c9:=zeg g4;split at h
  ·rename_i k by_ new hk d7 hy
   have c8:∀ (a:Act) w v' w',(Builtin.append_ #[t,t] o.type #[a.eval x,a.eval y]).run P w=.ok v' w'->(execOp a.eval o).run P w=.ok (.value v') w':=fun a w v' w' hv=>by
    simp [execOp,hop,resolve,hc,hargs,hts,invoke,builtin,hv]
   split at h
   ·rename_i hx;obtain ⟨a0,h⟩:=h.ok;rw [yar] at a0;have c6:=ze7 a0.1;obtain ⟨i,z,hi,hz,a6,a4,b8⟩:=zkg a0.2 hk d7;obtain ⟨⟨a3,a2⟩,h⟩:=h.out;have h:=h.out;refine ⟨_,h,fun σ' hag a w ⟨ρ,hs⟩ K' Q hK=>?_⟩;have h1:=za0 hs x;have h2:=za0 hs y;rw [zai (zao (zao hag)),hx] at h1;have h1:=h1.im_inv
    have c7:fz σ' (evA σ' y)=some (.sl new,[]):=by
     rw [zai (za3 (zao hag))];exact znp hy fun l hl=>by simp [frd] at hl
    have h2:=zve hs (bs':=[]) (by simp) h2 c7 (by simp);have hg:=zd6 (za3 hag (.gen d) (by simp));obtain ⟨A,cp,news,hv,b5,b6,c0,a5,b4⟩:=zu8 h2 a3
    have b7:a.eval x=.slice none 0 0:=by
     generalize a.eval x=v at h1;cases h1 with
     | val _=>rfl
    have d1:=zby a3;obtain ⟨v',w',b2,a9,a7,b3⟩:=zgz (P:=P) (w:=w) 0 t o.type et i z k by_ c9 hi hz a6 a4 b8 c6 (.slice none 0 0) 0 [] (World.ownsRow_nil _ _ _ _) A new.length cp news (by rw [b5,d1]) a5 b6 (by unfold maxLen;unfold za2 at a2;omega) (by simpa using a2.1) (yas _);unfold Oper.wp;rw [c8 a w v' w' (by rw [b7,hv];exact b2),Oper.upon_value,a8];refine hK _ _ ⟨setρ ρ d v',?_⟩;have b9:=hs.rowed (used:=none) (d:=d) (es:=[]) (us:=[]) (fun q hq=>by cases hq) c6 (by simp) a3 (by simpa using a2.2) (World.ownsRow_nil _ _ _ _) (by simpa using a9) a7 b3 rfl b5 (by simp) b6 (by simp) b4;show SatR B (app σ' (zez σ d (.row et k new)++[(.tmp d,.av (.osl d (σ.gn d+1)))])) _ _ _;have:=zn1 (k:=.row et k new) (cs:=[]) (v:=.osl d (σ.gn d+1)) hg;simp only [zg6,ybp] at this;rw [this,<- hg];exact zmi b9 (row_one a9) (zdf hd a8)
   ·rename_i b g hx;split at h
    ·rename_i b0 k' es d5;obtain ⟨a0,h⟩:=h.ok;simp only [yar] at a0;have c6:=ze7 a0.1.1.1;have d6:b0=et:=by simpa using a0.1.1.2
     have e0:k'=k:=by simpa using a0.1.2
     subst d6 e0;obtain ⟨i,z,hi,hz,a6,a4,b8⟩:=zkg a0.2 hk d7;obtain ⟨⟨d9,a3,a2⟩,h⟩:=h.out;have h:=h.out;refine ⟨_,h,fun σ' hag a w ⟨ρ,hs⟩ K' Q hK=>?_⟩;obtain ⟨ha,hg',d3,g2⟩:=zdx hag;have h1:=za0 hs x;have h2:=za0 hs y;rw [zai (zao ha),hx] at h1
     have c7:fz σ' (evA σ' y)=some (.sl new,[]):=by
      rw [zai (za3 ha)];exact znp hy fun l hl=>by simp [frd] at hl
     have h2:=zve hs (bs':=[]) (by simp) h2 c7 (by simp);obtain ⟨A,cp,news,hv,b5,b6,c0,a5,b4⟩:=zu8 h2 a3;have d1:=zby a3;have ho:=hs.obs b;rw [d3.trans d5] at ho;obtain ⟨us,_,d4,_,d2,f5,f9,g5⟩:=ho
     have b7:a.eval x=ρ b:=by
      generalize a.eval x=v at h1;cases h1 with
      | osl _ _ _ _ _ hh=>exact hh (hg'.trans d9)
     obtain ⟨v',w',b2,a9,a7,b3⟩:=zgz (P:=P) (w:=w) 0 t o.type b0 i z k' by_ c9 hi hz a6 a4 b8 c6 (ρ b) es.length us d2 A new.length cp news (by rw [b5,d1]) a5 b6 (by unfold maxLen;unfold za2 at a2;omega) a2.1 (yas _);unfold Oper.wp;rw [c8 a w v' w' (by rw [b7,hv];exact b2),Oper.upon_value,a8];refine hK _ _ ⟨setρ ρ b v',?_⟩;have b9:=hs.rowed (used:=some b) (d:=b) (fun q hq=>⟨b,rfl,.root (zld (d3.trans d5)) hq⟩) c6 d4 a3 a2.2 d2 a9 a7 b3 f5 b5 f9 b6 g5 b4
     have e5:app σ' ((.knd b,.kd .dead)::(zez σ b (.row b0 k' (es++new))++[(.tmp d,.av (.osl b (σ.gn b+1)))]))=app (zf4 σ' (some b) b (.row b0 k' (es++new)) []) [(.tmp d,.av (.osl b (σ'.gn b+1)))]:=by
      rw [zb2,zau];unfold zf4 zez;rw [hg'];rfl
     show SatR B (app σ' ((.knd b,.kd .dead)::(zez σ b (.row b0 k' (es++new))++[(.tmp d,.av (.osl b (σ.gn b+1)))]))) _ _ _;rw [e5];exact zi2 b9 (row_one a9) (zdf hd a8)
    ·rename_i b0 k' es d5;obtain ⟨a0,h⟩:=h.ok;simp only [yar] at a0;have d6:b0=et:=by simpa using a0.1.1.2
     have e0:k'=k:=by simpa using a0.1.2
     subst d6 e0;obtain ⟨i,z,hi,hz,a6,a4,b8⟩:=zkg a0.2 hk d7;obtain ⟨⟨d9,f4,a3,a2⟩,h⟩:=h.out;have h:=h.out;refine ⟨_,h,fun σ' hag a w ⟨ρ,hs⟩ K' Q hK=>?_⟩;obtain ⟨ha,hg',d3,g2⟩:=zdx hag;have h1:=za0 hs x;have h2:=za0 hs y;rw [zai (zao ha),hx] at h1
     have c7:fz σ' (evA σ' y)=some (.sl new,[]):=by
      rw [zai (za3 ha)];exact znp hy fun l hl=>by simp [frd] at hl
     have h2:=zve hs (bs':=[]) (by simp) h2 c7 (by simp);obtain ⟨A,cp,news,hv,b5,b6,c0,a5,b4⟩:=zu8 h2 a3;have ho:=hs.obs b;rw [d3.trans d5] at ho;have hQ:zmu w (Imm B σ' ρ w) (ρ b) b0 k' es:=ho
     have b7:a.eval x=ρ b:=by
      generalize a.eval x=v at h1;cases h1 with
      | osl _ _ _ _ _ hh=>exact hh (hg'.trans d9)
     obtain ⟨v',w',b2,a7,b3,f3,g3⟩:=que_append (P:=P) (w:=w) t o.type b0 i z by_ c9 hi hz a6 a4 b8 hQ a3 f4 A cp news b5 a5 b6 b4 (by unfold maxLen;unfold za2 at a2;omega) a2.2 a2.1;unfold Oper.wp;rw [c8 a w v' w' (by rw [b7,hv];exact b2),Oper.upon_value,a8];refine hK _ _ ⟨setρ ρ b v',?_⟩;have b9:=hs.qued (used:=some b) (d:=b) (fun q hq=>⟨b,rfl,.root (live_que (d3.trans d5)) hq⟩) a7 b3 g3
     have e5:app σ' ((.knd b,.kd .dead)::(zez σ b (.que b0 k' (es++new))++[(.tmp d,.av (.osl b (σ.gn b+1)))]))=app (zf4 σ' (some b) b (.que b0 k' (es++new)) []) [(.tmp d,.av (.osl b (σ'.gn b+1)))]:=by
      rw [zb2,zau];unfold zf4 zez;rw [hg'];rfl
     show SatR B (app σ' ((.knd b,.kd .dead)::(zez σ b (.que b0 k' (es++new))++[(.tmp d,.av (.osl b (σ.gn b+1)))]))) _ _ _;rw [e5];exact zi2 b9 f3 (zdf hd a8)
    ·exact h.elim
   ·rename_i es hx;obtain ⟨a0,h⟩:=h.ok;rw [yar] at a0;have c6:=ze7 a0.1;obtain ⟨i,z,hi,hz,a6,a4,b8⟩:=zkg a0.2 hk d7;obtain ⟨⟨e9,d4,a3,a2⟩,h⟩:=h.out;have h:=h.out;refine ⟨_,h,fun σ' hag a w ⟨ρ,hs⟩ K' Q hK=>?_⟩;have h1:=za0 hs x;have h2:=za0 hs y;rw [zai (zao (zao hag)),hx] at h1
    have c7:fz σ' (evA σ' y)=some (.sl new,[]):=by
     rw [zai (za3 (zao hag))];exact znp hy fun l hl=>by simp [frd] at hl
    have h2:=zve hs (bs':=[]) (by simp) h2 c7 (by simp);have hg:=zd6 (za3 hag (.gen d) (by simp));obtain ⟨A,cp,news,hv,b5,b6,c0,a5,b4⟩:=zu8 h2 a3
    obtain ⟨A0,n0,b7,h3⟩:∃ A0 n0,a.eval x=.slice A0 n0 n0∧RepI w (Imm B σ' ρ w) (.slice A0 n0 n0) (.sl es):=by
     generalize a.eval x=v at h1;cases h1 with
     | full A0 n0 _ h3=>exact ⟨A0,n0,rfl,h3⟩
    obtain ⟨A1,c1,d8,f8,e6,g1,f6,d0,e7⟩:=zu8 h3 d4;injection f8 with e1 e2 e3
    subst e1 e2;have d1:=zby a3;have f7:=zby d4;obtain ⟨v',w',b2,a9,a7,b3⟩:=zt2 (P:=P) (w:=w) t o.type et i z k by_ c9 hi hz a6 a4 b8 A0 es.length d8 (by rw [e6,f7]) d0 A new.length cp news (by rw [b5,d1]) a5 e9 (by unfold maxLen;unfold za2 at a2;omega) a2.1;unfold Oper.wp;rw [c8 a w v' w' (by rw [b7,hv];exact b2),Oper.upon_value,a8];refine hK _ _ ⟨setρ ρ d v',?_⟩
    have e8:∀ e∈es++new,e.length=k:=fun e he=>by
     rcases yal.1 he with he | he
     ·exact d4 e he
     ·exact a3 e he
    have b9:=hs.rowed (used:=none) (d:=d) (es:=[]) (new:=es++new) (us:=[]) (news:=d8++news) (v:=.slice none 0 0) (fun q hq=>by cases hq) c6 (by simp) e8 (by simpa using a2.2) (World.ownsRow_nil _ _ _ _) (by simpa using a9) a7 (.inr b3) rfl (by simp [e6,b5]) (by simp) (fun u hu=>by
     rcases yal.1 hu with hu | hu
     ·exact g1 u hu
     ·exact b6 u hu) (by simp) fun j u y hu hy=>by
      rw [ybt,yaq] at hy;rw [yaq,e6] at hu;split at hu
      ·rename_i e4;rw [if_pos e4] at hy;exact e7 j u y hu hy
      ·rename_i e4;rw [if_neg e4] at hy;exact b4 _ u y hu hy
    show SatR B (app σ' (zez σ d (.row et k (es++new))++[(.tmp d,.av (.osl d (σ.gn d+1)))])) _ _ _;have:=zn1 (k:=.row et k (es++new)) (cs:=[]) (v:=.osl d (σ.gn d+1)) hg;simp only [zg6,ybp] at this;rw [this,<- hg];exact zmi b9 (row_one a9) (zdf hd a8)
   ·exact h.elim
  ·exact h.elim
 ·exact h.elim
theorem SatR.turn {a:Act} {w w':World} {ρ:Ly} (h:SatR B σ a w ρ) {b q:Nat} {k':Kd} (hl:live σ b) (hq:zbm (ρ b)=some q) (hg:w.grownBy w' (some q)) (hk':∀ c,c∈fpk (ρ b) (ρ.inn b) k'->Owns σ ρ b c)
  (hob:(∀ v x,RepI w (Imm B σ ρ w) v x->RepI w' (Imm B (upd σ (.knd b) (.kd k')) ρ w') v x)->zne B (upd σ (.knd b) (.kd k')) ρ w' b k'):SatR B (upd σ (.knd b) (.kd k')) a w' ρ:=by
 refine (h.step (fun o=>o=b) (fun t=>ziz σ b t _) (fun o hd=>⟨by rw [zfm,if_neg hd],zgi σ b o _,fun i=>zj3 σ b o i _,rfl,rfl,rfl⟩) (fun o _=>⟨⟨by rw [zgi];exact yam _,fun _=>rfl⟩,yam _,fun _=>rfl⟩)
  (fun o=>by rw [zj2];exact h.igs o) ⟨hg.os,hg.tape,hg.output,hg.size,fun c hc hn=>hg.block c hc fun e=>?_⟩ (fun o c hd ho=>?_) (fun o p c hd hp _ _=>hd.trans hp.symm) fun hI hA o hd=>?_).1
 ·injection e with e
  subst e;exact hn ⟨b,rfl,.root hl hq⟩
 ·subst hd;unfold Owns at ho;rw [zfm,if_pos rfl] at ho;exact .inr ⟨o,rfl,hk' c ho⟩
 ·subst hd;rw [zfm,if_pos rfl];exact hob hI
theorem zd7 {α:Type} (e:List α) (j:Nat) (xs:List α) (h:j+xs.length<=e.length):(splice e j xs).length=e.length:=by
 unfold splice;simp;omega
theorem zqn {α:Type} {k:Nat}:∀ {es:List (List α)} {i j:Nat} {e xs:List α},(∀ x∈es,x.length=k)->es[i]?=some e->j+xs.length<=k->(es.set i (splice e j xs)).flatten=splice es.flatten (i*k+j) xs
 | [],i,j,e,xs,_,h,_=>by simp at h
 | x::es,0,j,e,xs,hk,h,hj=>by
  simp at h;subst h;have:=hk x (by simp);simp only [List.set_cons_zero,ya4,splice,ydv,yae];rw [yb0 (by omega),yd0 (by omega)];simp
 | x::es,i+1,j,e,xs,hk,h,hj=>by
  have hx:=hk x (by simp);have ih:=zqn (es:=es) (i:=i) (j:=j) (e:=e) (xs:=xs) (fun y hy=>hk y (by simp [hy])) (by simpa using h) hj;have e1:(i+1)*k+j=x.length+(i*k+j):=by rw [Nat.add_mul,hx];omega
  rw [List.set_cons_succ,ya4,ih,e1,ya4];unfold splice;rw [ydf,ybh (l:=x) (by omega),show x.length+(i*k+j)-x.length=i*k+j from by omega];have a0:x.drop (x.length+(i*k+j+xs.length))=[]:=yct (by omega);rw [ybb x.length,yd6,a0];rw [show x.length+(i*k+j+xs.length)-x.length=i*k+j+xs.length from by omega];simp
theorem zmz {α:Type} (l:List α) (o n:Nat) (vs:List α) (h:o+vs.length<=n) (hl:n<=l.length):(splice l o vs).take n=splice (l.take n) o vs:=by
 unfold splice;rw [ydn,ycl (by omega),List.drop_take,ydf,ybh (by simp;omega)];congr 2;simp;omega
theorem zts {α β:Type} {us:List α} {fs:List β} {vs:List α} {xs:List β} {o n:Nat} {u:α} {x:β} (h1:us.length=fs.length) (h2:vs.length=xs.length) (ho:o<=us.length) (hu:(splice us o vs)[n]?=some u) (hx:(splice fs o xs)[n]?=some x) :
  (∃ n':Nat,us[n']?=some u∧fs[n']?=some x)∨∃ n':Nat,vs[n']?=some u∧xs[n']?=some x:=by
 unfold splice at hu hx;rw [ybs,yaq,yak,ycl (by omega)] at hu hx;by_cases hn:n<o
 ·rw [if_pos hn,yax,if_pos hn] at hu hx;exact .inl ⟨n,hu,hx⟩
 ·rw [if_neg hn,yaq] at hu hx;by_cases hv:n-o<vs.length
  ·rw [if_pos hv] at hu;rw [if_pos (by omega)] at hx;exact .inr ⟨_,hu,hx⟩
  ·rw [if_neg hv,ya6] at hu;rw [if_neg (by omega),ya6,<- h2] at hx;exact .inl ⟨_,hu,hx⟩
theorem fzS_ok {a:Act} {w:World} {ρ:Ly} (h:SatR B σ a w ρ) {bs':yad} (hgk:∀ p∈bs',σ.gn p.1=p.2) {nn:Bool} {us:List Value} {cs:List AV} {xs:List IV} {bs:yad} (hr:Reps w (Imm B σ ρ w) ρ σ.gn us cs) (e:fzS σ nn cs=some (xs,bs)) (hs:∀ b∈bs,b∈bs') (hn:nn=true->∀ c g et k ys,cs=[.osl c g]->σ.kd c=.row et k ys->0<ys.length):zk2 w (Imm B (app σ (fwr bs')) ρ w) us xs:=by
 unfold fzS at e;split at e
 ·exact zwf h hgk hr e hs
 ·split at e
  ·rename_i ys;simp only [zkF,zkG] at e;obtain ⟨rfl,rfl⟩:=e;refine ⟨hr.1,fun i u x hu hx=>?_⟩
   have:=hr.2 i u (.im x) hu (by
    cases i with
    | zero=>simp at hx;rw [<- hx];rfl
    | succ i=>simp at hx)
   exact (h.kills bs').2 _ _ this.im_inv
  ·rename_i c g;split at e
   ·rename_i et k ys hk;have a0:=hn rfl c g et k ys rfl hk;simp only [zkF,zkG] at e;obtain ⟨rfl,rfl⟩:=e;refine ⟨hr.1,fun i u x hu hx=>?_⟩;cases i with
    | succ i=>simp at hx
    | zero =>
     simp at hx;subst hx;have h1:=hr.2 0 u (.osl c g) hu rfl;have h2:=fz1_ok h hgk h1 (x:=.sl ys) (bs:=[(c,g)]) (by simp only [fz1,hk]) hs;cases h2 with
     | emp _ _=>exact absurd a0 (by simp)
     | sl b q cp k' m _ us' hm hkk hcap hsm hS hll a2 huc hrr=>exact .nsl _ _ _ _ (.sl b q cp k' m _ us' hm hkk hcap hsm hS hll a2 huc hrr)
   ·cases e
  ·cases e
theorem fzS_same {σ':St} {nn:Bool} {cs:List AV} {xs:List IV} {bs:yad} (e:fzS σ nn cs=some (xs,bs)) (h:zdy σ σ' bs):fzS σ' nn cs=some (xs,bs):=by
 unfold fzS at e ⊢;split at e
 ·exact zom e h
 ·split at e
  ·exact e
  ·split at e
   ·rename_i et k ys hk;simp only [zkF,zkG] at e;obtain ⟨rfl,rfl⟩:=e;rw [show σ'.kd _=_ from (zdy.head h).2.1.trans hk]
   ·cases e
  ·cases e
theorem nslS_out {nn:Bool} {cs:List AV} {A:Prop} (h:nslS σ nn cs A):A∧(nn=true->∀ c g et k ys,cs=[.osl c g]->σ.kd c=.row et k ys->0<ys.length):=by
 unfold nslS at h;split at h
 ·exact ⟨h,fun h=>by cases h⟩
 ·split at h
  ·split at h
   ·rename_i hk;obtain ⟨h1,h2⟩:=h.out;refine ⟨h2,fun _ c g et k ys e a0=>?_⟩;injection e with e _
    injection e with e1 e2
    subst e1;rw [hk] at a0;injection a0 with _ _ a0
    rw [<- a0];exact h1
   ·rename_i hk;refine ⟨h,fun _ c g et k ys e a0=>?_⟩;injection e with e _
    injection e with e1 e2
    subst e1;exact absurd a0 (hk _ _ _)
  ·rename_i hk;exact ⟨h,fun _ c g et k ys e _=>absurd e (hk c g)⟩
theorem aStoreE_ok {own:List Nat} {t:TypeId} {p x:Operand} {b g k i j:Nat} (hop:o.op=.store t p x) (hd:zdh B.n o=true) (hp:evA σ p=.elt b g k i j) (h:aStoreE P own o σ K t p x b g k i j):∃ fx,K fx∧Eff P B o fx.rd σ fx.wr:=by
 unfold aStoreE at h;split at h
 ·rename_i m cs et k' es hm c0 d9;split at h
  ·rename_i xs bs a0;obtain ⟨a6,h⟩:=h.ok;simp only [yar] at a6;obtain ⟨⟨⟨⟨c1,c2⟩,c3⟩,c4⟩,c5⟩:=a6;have c7:cs.length=m:=by simpa using c1
   have f8:=ze7 c2;have g1:=zhz c3;have d5:k'=k:=by simpa using c4
   subst d5
   have d3:b∉bs.map (·.1):=by
    simp only [ndB,yar,ydc,List.contains_eq_mem,decide_eq_false_iff_not] at c5;exact c5.1.2
   obtain ⟨b2,e,he,h⟩:=h.out;obtain ⟨h,f4⟩:=nslS_out h;have h:=h.out;refine ⟨_,h,fun σ' hag a w ⟨ρ,hs⟩ K' Q hK=>?_⟩;have e8:=zao (zao hag);have d7:=za3 (zao hag);have a3:zdy σ σ' ((b,g)::bs):=za3 hag
   have b3:∀ q∈(b,g)::bs,σ'.gn q.1=q.2:=fun q hq=>by
    rw [<- b2 q hq];exact zd6 (a3 (.gen q.1) (by unfold frd;exact yci.2 ⟨q,hq,by simp⟩))
   have e7:σ'.kd b=σ.kd b:=zpf (a3 (.knd b) (by unfold frd;simp));have h1:=za0 hs p;have h2:=za0 hs x;rw [zai e8,hp] at h1;rw [zai d7] at h2;have hr:=zja c0 h2;have a5:=zjc c0 h2;have a8:zdy σ σ' bs:=fun l hl=>a3 l (by unfold frd at *;rw [ya3];exact yaf _ hl)
   have b4:=fzS_ok hs (bs':=bs) (fun q hq=>b3 q (by simp [hq])) hr (fzS_same a0 a8) (fun _ h=>h) fun hn c g' e0 k2 ys c6 e9=>by
    refine f4 hn c g' e0 k2 ys c6 ?_;rw [<- e9];subst c6;rw [hn] at a0;simp only [fzS] at a0;split at a0
    ·rename_i f9;simp only [zkF,zkG] at a0;obtain ⟨_,rfl⟩:=a0;exact ((zdy.head a8).2.1).symm
    ·cases a0
   obtain ⟨d2,_⟩:=hs.kills bs;have a4:(app σ' (fwr bs)).kd b=.row et k' es:=by rw [zly,if_neg d3,e7,d9]
   have hl:=zld a4;have ho:=d2.obs b;rw [a4] at ho;obtain ⟨us,d6,a2,c8,b8,b0,b5,e2⟩:=ho;have f5:i<es.length:=(zkI.1 he).1;rcases b8.2 with ⟨_,hn⟩ | ⟨q,d0,cur,e1,_,e3,c9,d1,b6,e4⟩
   ·omega
   have e5:a.eval p=.pointer (some ⟨q,i*k'+j,none⟩):=by
    generalize a.eval p=v at h1;cases h1 with
    | elt _ _ _ _ _ _ _ _ hh =>
     obtain ⟨b',z,n,c,f1,f2⟩:=hh (b3 (b,g) (by simp));rw [e1] at f1;injection f1 with f1
     injection f1 with f1
     injection f1 with f1 f3
     rw [f2,f1,<- f3,yae]
   have a9:(a.eval x).cells.toList.length=m:=by rw [hr.1,c7]
   have f6:xs.length=m:=by rw [<- b4.1,a9]
   have b7:(i+1)*k'<=es.length*k':=ybd _ f5;have e6:es.length*k'<=d0*k':=ybd _ c9;rw [Nat.add_mul,yed] at b7;have a7:=run_storeCells_at (P:=P) q (i*k'+j) et (a.eval x).cells.toList 0 cur w e3 (by omega) a5;simp only [ybl] at a7;have hz:=zie hm w;have d8:(a.eval x).cells.size=m:=by rw [<- a9];simp
   have run:(execOp a.eval o).run P w=.ok .skip (w.setRow q (splice cur.toList (i*k'+j) (a.eval x).cells.toList).toArray):=by
    simp only [execOp,hop,Instr.storeAt,e5,Instr.sureAddr,storeVar,Sem.run_bind,Sem.run_pure,Result.andThen_ok,hz,d8];rw [if_neg (by simp),a7];rfl
   unfold Oper.wp;rw [run,Oper.upon_skip];refine hK _ _ ⟨ρ,?_⟩;have b9:us.length=es.length*k':=by rw [b0,zby a2]
   have f7:e.length=k':=a2 e (zkH he)
   have d4:=d2.turn (w':=w.setRow q (splice cur.toList (i*k'+j) (a.eval x).cells.toList).toArray) (k':=.row et k' (es.set i (splice e j xs))) hl (q:=q) (by rw [e1];rfl)
    ⟨rfl,rfl,rfl,by simp,fun k _ hk=>setRow_other w q k _ (fun e=>hk (by rw [e]))⟩ (fun c hc=>by unfold Owns;rw [a4];exact hc) fun hI=>by
     refine ⟨splice us (i*k'+j) (a.eval x).cells.toList,d6,fun y hy=>?_,by rw [ybu];exact c8,?_,?_,fun u hu=>?_,fun n u y hu hy=>?_⟩
     ·rcases ych hy with hy | hy
      ·exact a2 y hy
      ·rw [hy,zd7 _ _ _ (by omega),f7]
     ·rw [ybu];refine ⟨by rw [zd7 _ _ _ (by omega),b9],.inr ⟨q,d0,_,e1,yas _,setRow_heap w q cur _ et _ e3,c9,d1,?_,?_⟩⟩
      ·rw [yby,zd7 _ _ _ (by simp;omega)];simpa using b6
      ·rw [yc4,zmz _ _ _ _ (by omega) (by simp;omega),e4]
     ·rw [zqn a2 he (by omega),zd7 _ _ _ (by omega),zd7 _ _ _ (by omega),b0]
     ·unfold splice at hu;rcases yal.1 hu with hu | hu
      ·rcases yal.1 hu with hu | hu
       ·exact b5 u (yaz hu)
       ·exact a5 u hu
      ·exact b5 u (ya1 hu)
     ·rw [zqn a2 he (by omega)] at hy;rcases zts b0 (by rw [a9,f6]) (by omega) hu hy with ⟨n',h3,h4⟩ | ⟨n',h3,h4⟩
      ·exact hI _ _ (e2 n' u y h3 h4)
      ·exact hI _ _ (b4.2 n' u y h3 h4)
   rw [zau,zb2];exact d4.put (zle hd) (zdt _)
  ·exact h.elim
 ·exact h.elim
end
end
section
def OcOk (w:World) (S:Nat->Prop) (v:Value):Oc->List Nat->Prop
 | .im x,F=>RepI w S v x∧F=[]
 | .ow k,F=>v.oneCell'=true∧∃ inn,zd9 w S v inn k∧F=fpk v inn k
def zlp (w:World) (S:Nat->Prop):List Value->List Oc->List Nat->Prop
 | [],[],F=>F=[]
 | v::vs,c::cs,F=>∃ F1 F2,OcOk w S v c F1∧zlp w S vs cs F2∧F=F1++F2
 | _,_,_=>False
def ArgOk (w:World) (S:Nat->Prop) (v:Value):Arg->List Nat->Prop
 | .im x,F=>RepI w S v x∧F=[]
 | .ow k,F=>OcOk w S v (.ow k) F
 | .box t cs,F=>∃ (q:Nat) (us:List Value) (F':List Nat),v=.pointer (some ⟨q,0,none⟩)∧w.heap[q]?=some (.cells us.toArray t (0,0))∧(∀ u∈us,u.oneCell'=true)∧zlp w S us cs F'∧F=q::F'
 | .lent k,F=>OcOk w S v (.ow k) F
def zem (w:World) (S:Nat->Prop):List Value->List Arg->List Nat->Prop
 | [],[],F=>F=[]
 | v::vs,x::xs,F=>∃ F1 F2,ArgOk w S v x F1∧zem w S vs xs F2∧F=F1++F2
 | _,_,_=>False
def bxVs:List Value->List Arg->List Value
 | v::vs,.box _ _::xs=>v::bxVs vs xs
 | v::vs,.lent _::xs=>v::bxVs vs xs
 | _::vs,.im _::xs=>bxVs vs xs
 | _::vs,.ow _::xs=>bxVs vs xs
 | _,_=>[]
def zm5 (w:World) (S:Nat->Prop) (v:Value) (ps:List Value):Rs->List Nat->Prop
 | .mk tp l ys,F=>∃ (us:List Value) (F1 F2:List Nat),(match tp with | true=>v=.tuple us.toArray | false=>us=[v])∧zlp w S us l F1∧zem w S ps ys F2∧F=F1++F2
def Sp (P:Program) (g:FuncId) (xs:List Arg) (r:Rs):Prop :=
 (∀ args w,(callFunc g args).run P w=.ok (.enter g args) w) ∧
 ∀ (w:World) (S:Nat->Prop) (vs:List Value) (F:List Nat),(∀ b,S b->b<w.heap.size)->zem w S vs xs F->F.Nodup->(∀ b∈F,¬ S b∧b<w.heap.size) ->
  Calls P g vs.toArray w fun e w'=>∃ (v:Value) (F':List Nat),e=.returned v∧Belo (fun b=>b∈F) w.heap.size w w' ∧
   zm5 w' (fun b=>(S b∨w.heap.size<=b∨b∈F)∧b<w'.heap.size∧b∉F') v (bxVs vs xs) r F'∧F'.Nodup∧∀ b∈F',(w.heap.size<=b∨b∈F)∧b<w'.heap.size
def RetA (t:TypeId) (v u:Value):Prop:=match t with
 | 0=>v=u
 | _=>∃ us:List Value,u=.tuple us.toArray∧v=.agg us.toArray∧∀ x∈us,x.oneCell'=true
def SpA (P:Program) (g:FuncId) (t:TypeId) (n:Nat) (xs:List Arg) (r:Rs):Prop :=
 (∀ args w,(callFunc g args).run P w=.ok (.enter g args) w) ∧
 ∀ (w:World) (S:Nat->Prop) (us vs:List Value) (F:List Nat),(∀ b,S b->b<w.heap.size)->zem w S (us++vs) xs F->us.length=n->(∀ u∈us,u.oneCell'=true)->F.Nodup->(∀ b∈F,¬ S b∧b<w.heap.size) ->
  Calls P g (.agg us.toArray::vs).toArray w fun e w'=>∃ (v u:Value) (F':List Nat),e=.returned v∧RetA t v u∧Belo (fun b=>b∈F) w.heap.size w w' ∧
   zm5 w' (fun b=>(S b∨w.heap.size<=b∨b∈F)∧b<w'.heap.size∧b∉F') u (bxVs (us++vs) xs) r F'∧F'.Nodup∧∀ b∈F',(w.heap.size<=b∨b∈F)∧b<w'.heap.size
def SpR (P:Program) (g:FuncId) (xs:List Arg) (r:Rs):Prop :=
 (∀ args w,(callFunc g args).run P w=.ok (.enter g args) w) ∧
 ∀ (w:World) (S:Nat->Prop) (vs:List Value) (F:List Nat),(∀ b,S b->b<w.heap.size)->zem w S vs xs F->F.Nodup->(∀ b∈F,¬ S b∧b<w.heap.size) ->
  Calls P g vs.toArray w fun e w'=>∃ (v u:Value) (F':List Nat),e=.returned v∧RetA 1 v u∧Belo (fun b=>b∈F) w.heap.size w w' ∧
   zm5 w' (fun b=>(S b∨w.heap.size<=b∨b∈F)∧b<w'.heap.size∧b∉F') u (bxVs vs xs) r F'∧F'.Nodup∧∀ b∈F',(w.heap.size<=b∨b∈F)∧b<w'.heap.size
def SpP (P:Program) (g:FuncId) (xs:List Arg) (r:Rs):Prop :=
 (∀ args w,(callFunc g args).run P w=.ok (.enter g args) w) ∧
 ∀ (w:World) (S:Nat->Prop) (vs:List Value) (F:List Nat),(∀ b,S b->b<w.heap.size)->zem w S vs xs F->F.Nodup->(∀ b∈F,¬ S b∧b<w.heap.size) ->
  Calls P g vs.toArray w fun e w'=>∃ (v:Value) (F':List Nat),e=.returned v∧Belo (fun b=>b∈F) w.heap.size w w' ∧
   zm5 w' (fun b=>(S b∨w.heap.size<=b∨b∈F)∧b<w'.heap.size∧b∉F') (.tuple #[]) [v] r F'∧F'.Nodup∧∀ b∈F',(w.heap.size<=b∨b∈F)∧b<w'.heap.size
def SpX (P:Program) (g:FuncId) (xs:List Arg) (r:Rs):Prop:=match xs with
 | .lent .dead::.box t l::ys=>SpA P g t l.length ys r
 | .lent .dead::.ow .dead::ys=>SpR P g ys r
 | .lent .dead::.lent .dead::ys=>SpP P g ys r
 | _=>Sp P g xs r
def nmX:List Arg->Bool
 | .lent .dead::_=>false
 | _=>true
theorem SpX.sp {P:Program} {g:FuncId} {xs:List Arg} {r:Rs} (hn:nmX xs=true) (h:SpX P g xs r):Sp P g xs r:=by
 unfold SpX at h;split at h
 ·cases hn
 ·cases hn
 ·cases hn
 ·exact h
theorem OcOk.mono {w:World} {S S':Nat->Prop} {v:Value} (hI:∀ u x,RepI w S u x->RepI w S' u x):∀ {c:Oc} {F:List Nat},OcOk w S v c F->OcOk w S' v c F
 | .im _,_,h=>⟨hI _ _ h.1,h.2⟩
 | .ow _,_,⟨h1,inn,h2,h3⟩=>⟨h1,inn,h2.mono (fun _ _=>rfl) hI,h3⟩
theorem zlp.mono {w:World} {S S':Nat->Prop} (hI:∀ u x,RepI w S u x->RepI w S' u x):∀ {vs:List Value} {cs:List Oc} {F:List Nat},zlp w S vs cs F->zlp w S' vs cs F
 | [],[],_,h=>h
 | _::_,_::_,_,⟨F1,F2,h1,h2,h3⟩=>⟨F1,F2,h1.mono hI,h2.mono hI,h3⟩
 | [],_::_,_,h=>h.elim
 | _::_,[],_,h=>h.elim
theorem ArgOk.mono {w:World} {S S':Nat->Prop} {v:Value} (hI:∀ u x,RepI w S u x->RepI w S' u x):∀ {c:Arg} {F:List Nat},ArgOk w S v c F->ArgOk w S' v c F
 | .im _,_,h=>⟨hI _ _ h.1,h.2⟩
 | .ow k,_,h=>OcOk.mono (c:=.ow k) hI h
 | .box _ _,_,⟨q,us,F',h1,h2,h3,h4,h5⟩=>⟨q,us,F',h1,h2,h3,h4.mono hI,h5⟩
 | .lent k,_,h=>OcOk.mono (c:=.ow k) hI h
theorem zem.mono {w:World} {S S':Nat->Prop} (hI:∀ u x,RepI w S u x->RepI w S' u x):∀ {vs:List Value} {cs:List Arg} {F:List Nat},zem w S vs cs F->zem w S' vs cs F
 | [],[],_,h=>h
 | _::_,_::_,_,⟨F1,F2,h1,h2,h3⟩=>⟨F1,F2,h1.mono hI,h2.mono hI,h3⟩
 | [],_::_,_,h=>h.elim
 | _::_,[],_,h=>h.elim
theorem OcOk.flat {w:World} {S S':Nat->Prop} {v:Value}:∀ {c:Oc} {F:List Nat},zuc c->OcOk w S v c F->OcOk w S' v c F
 | .im x,_,hf,h=>by
  rcases hf with ⟨u,rfl⟩ | ⟨cs,rfl,hf⟩
  ·exact ⟨by cases h.1;exact .val _,h.2⟩
  ·obtain ⟨h1,h2⟩:=h;refine ⟨?_,h2⟩;cases h1 with
   | agg us cs hl h3 hr =>
    refine .agg us cs hl h3 fun i u x hu hx=>?_;obtain ⟨y,rfl⟩:=hf x (zkH hx);have h4:=hr i u _ hu hx;cases h4;exact .val _
 | .ow (.row e k es),_,hf,⟨h1,inn,⟨us,h2,h3,h4,h5,h6,h7,h8⟩,h9⟩=>⟨h1,inn,⟨us,h2,h3,h4,h5,h6,h7,fun i u x hu hx=>by
  have a2:=h8 i u x hu hx
  obtain ⟨y,hy,hxy⟩:=yc0.1 (zkH hx)
  obtain ⟨z,rfl⟩:=hf y hy x hxy
  cases a2
  exact .val _⟩,h9⟩
 | .ow (.map _),_,_,⟨h1,inn,h2,h3⟩=>⟨h1,inn,h2,h3⟩
 | .ow .dead,_,hf,_=>hf.elim
 | .ow (.box _ _),_,hf,_=>hf.elim
 | .ow (.grid _ _ _ _ _),_,hf,_=>hf.elim
theorem zlp.flat {w:World} {S S':Nat->Prop}:∀ {vs:List Value} {cs:List Oc} {F:List Nat},(∀ c∈cs,zuc c)->zlp w S vs cs F->zlp w S' vs cs F
 | [],[],_,_,h=>h
 | _::_,c::_,_,hf,⟨F1,F2,h1,h2,h3⟩=>⟨F1,F2,h1.flat (hf c (by simp)),h2.flat fun x hx=>hf x (by simp [hx]),h3⟩
 | [],_::_,_,_,h=>h.elim
 | _::_,[],_,_,h=>h.elim
theorem zem.flat {w:World} {S S':Nat->Prop}:∀ {vs:List Value} {cs:List Arg} {F:List Nat},(∀ c∈cs,flatArg c)->zem w S vs cs F->zem w S' vs cs F
 | [],[],_,_,h=>h
 | _::_,c::_,_,hf,⟨F1,F2,h1,h2,h3⟩=>⟨F1,F2,by
  have hc:=hf c (by simp)
  cases c with
  | im x=>exact hc.elim
  | ow k=>exact hc.elim
  | box t cs =>
   obtain ⟨q,us,F',a1,a2,a3,a4,a5⟩:=h1
   exact ⟨q,us,F',a1,a2,a3,a4.flat hc,a5⟩
  | lent k=>exact OcOk.flat (c:=.ow k) hc h1,h2.flat fun x hx=>hf x (by simp [hx]),h3⟩
 | [],_::_,_,_,h=>h.elim
 | _::_,[],_,_,h=>h.elim
section
variable {P:Program} {B:Base} {o:Oper} {σ:St} {K:Fx->Prop}
theorem opdL_mem {l:List Operand} {x:Operand} (h:x∈l):∀ y∈opd x,y∈opdL l:=fun y hy=>yci.2 ⟨x,h,hy⟩
theorem evL_ok {σ':St} {a:Act} {w:World} {ρ:Ly} (h:SatR B σ' a w ρ) {l:List Operand} (hag:∀ y∈opdL l,σ' y=σ y):Reps w (Imm B σ' ρ w) ρ σ'.gn (l.map a.eval) (l.map (evA σ)):=by
 refine ⟨by simp,fun i u x hu hx=>?_⟩;simp only [yat] at hu hx;cases hc:l[i]? with
 | none=>rw [hc] at hu;cases hu
 | some c =>
  rw [hc] at hu hx;simp only [yaj,zkF] at hu hx;rw [<- hu,<- hx,<- zai (σ':=σ') fun y hy=>hag y (opdL_mem (zkH hc) y hy)];exact za0 h c
theorem Reps.app {w:World} {S:Nat->Prop} {ρ:Ly} {γ:Nat->Nat} {us vs:List Value} {cs ds:List AV} (h:Reps w S ρ γ us cs) (k:Reps w S ρ γ vs ds):Reps w S ρ γ (us++vs) (cs++ds):=by
 refine ⟨by simp [h.1,k.1],fun i u x hu hx=>?_⟩;rw [yaq] at hu hx;rw [h.1] at hu;split at hu
 ·rename_i a0;rw [if_pos a0] at hx;exact h.2 i u x hu hx
 ·rename_i a0;rw [if_neg a0] at hx;exact k.2 _ u x hu hx
theorem zhh:∀ {l bs:List Nat},ndB l bs=true->l.Nodup∧∀ a∈l,a∉bs
 | [],bs,_=>⟨yb8,by simp⟩
 | a::l,bs,h=>by
  simp only [ndB,yar,ydc,List.contains_eq_mem,decide_eq_false_iff_not] at h;obtain ⟨h1,h2⟩:=zhh h.2;refine ⟨ybj.2 ⟨h.1.1,h1⟩,fun b hb=>?_⟩;rcases yau.1 hb with rfl | hb
  ·exact h.1.2
  ·exact h2 b hb
theorem fwr_ce (bs:yad) (o i:Nat):∀ (σ:St),(app σ (fwr bs)).ce o i=σ.ce o i:=by
 induction bs with
 | nil=>intro σ;rfl
 | cons b bs ih=>intro σ;show (app (upd σ (.knd b.1) (.kd .dead)) (fwr bs)).ce o i=_;rw [ih,zj3]
theorem zd9.one {w:World} {S:Nat->Prop} {v:Value} {inn:List Value}:∀ {k:Kd},zd9 w S v inn k->v.oneCell'=true
 | .dead,h=>h.elim
 | .box _ _,h=>h.elim
 | .row _ _ _,⟨us,_,_,_,h,_⟩=>row_one h
 | .grid _ _ _ _ _,⟨_,_,us,_,h,_⟩=>row_one h
 | .map _,⟨b,_,_,h,_⟩=>by rw [h];rfl
 | .bag _ _ _ _ _,h=>h.elim
 | .mapI _ _,h=>h.elim
 | .que _ _ _,⟨us,_,_,_,_,_,_,h⟩=>by rcases h with ⟨rfl,_⟩ | ⟨_,_,_,_,rfl,_⟩<;>rfl
theorem zl1 {p:Nat} {k:Kd} (h:objG σ p=some k):σ.kd p=k∧k≠.dead∧∀ t m,k≠.box t m:=by
 unfold objG at h;split at h
 ·cases h
 ·cases h
 ·cases h
 ·cases h
 ·cases h
 ·rename_i h1 h2 h3 h4 h5;injection h with h
  subst h;exact ⟨rfl,h1,h2⟩
theorem zsx {a:Act} {w:World} {ρ:Ly} (h:SatR B σ a w ρ) {p:Nat} {k:Kd} (hk:objG σ p=some k):zd9 w (Imm B σ ρ w) (ρ p) (ρ.inn p) k:=by
 obtain ⟨h1,h2,h3⟩:=zl1 hk;have ho:=h.obs p;rw [h1] at ho;unfold objG at hk;rw [h1] at hk;cases k with
 | dead=>exact absurd rfl h2
 | box t m=>exact absurd rfl (h3 t m)
 | row e m es=>exact ho
 | grid e e' m gs q=>exact ho
 | map l=>exact ho
 | bag t e m l q=>cases hk
 | mapI l c=>cases hk
 | que e m es=>cases hk
def zdp (σ:St) (ρ:Ly) (gs:yad):List Nat:=gs.flatMap fun p=>fpk (ρ p.1) (ρ.inn p.1) (σ.kd p.1)
theorem zed {ρ:Ly} {gs:yad} {b:Nat}:b∈zdp σ ρ gs↔∃ p∈gs,Owns σ ρ p.1 b:=yci
theorem fpk_nodup {a:Act} {w:World} {ρ:Ly} (h:SatR B σ a w ρ) (o:Nat):(fpk (ρ o) (ρ.inn o) (σ.kd o)).Nodup:=by
 have ho:=h.obs o;cases hk:σ.kd o with
 | dead=>exact yb8
 | grid e e' m gs q=>rw [hk] at ho;exact ho.1
 | box t m=>unfold fpk;cases zbm (ρ o)<;>simp
 | row e m es=>unfold fpk;cases zbm (ρ o)<;>simp
 | map l=>unfold fpk;cases zbm (ρ o)<;>simp
 | bag t e m l q=>rw [hk] at ho;exact ho.1.2.1
 | mapI l c =>
  rw [hk] at ho;obtain ⟨b,r,_,_,_,_,_,_,h1,h2,h3,_⟩:=ho;unfold fpk fpv;rw [h1,h2];simp [zbm,Ne.symm h3]
 | que e m es=>unfold fpk;cases zbm (ρ o)<;>simp
theorem ze0 {a:Act} {w:World} {ρ:Ly} (h:SatR B σ a w ρ):∀ {gs:yad},(gs.map (·.1)).Nodup->(zdp σ ρ gs).Nodup
 | [],_=>yb8
 | p::gs,hn=>by
  rw [yan,ybj] at hn;unfold zdp;rw [ya3,ybc];refine ⟨fpk_nodup h p.1,ze0 h hn.2,fun x hx y hy e=>?_⟩;subst e;obtain ⟨q,hq,hb⟩:=zed.1 (show x∈zdp σ ρ gs from hy);have:=h.dis p.1 q.1 x hx hb;exact hn.1 (yap.2 ⟨q,hq,this.symm⟩)
theorem zp3 {x:IV} {e k:Nat} {q:Kd} (h:nilRow x e k=some q):x=.val (.slice none 0 0)∧∃ k',q=.row e (k'+1) []:=by
 unfold nilRow at h;split at h
 ·split at h
  ·cases h
  ·rename_i k';injection h with h
   exact ⟨rfl,k',h.symm⟩
 ·cases h
theorem nil_oc (w:World) (S:Nat->Prop) (e k:Nat):OcOk w S (.slice none 0 0) (.ow (.row e (k+1) [])) [] :=
 ⟨rfl,[],⟨[],by omega,by simp,by simp,World.ownsRow_nil _ _ _ _,rfl,by simp,by simp⟩,rfl⟩
theorem cellG0_ok {a:Act} {w:World} {ρ:Ly} (h:SatR B σ a w ρ) {S:Nat->Prop} (hI:∀ u x,RepI w (Imm B σ ρ w) u x->RepI w S u x) {own:List Nat} {d i j:Nat} {u:Value} {c:AV} {x:Oc} {gs:yad}
  (hu:RepA w (Imm B σ ρ w) ρ σ.gn u c) (e:zv5 σ own d i j c=some (x,gs)) (hg:∀ p∈gs,σ.gn p.1=p.2):OcOk w S u x (zdp σ ρ gs):=by
 unfold zv5 at e;split at e
 ·rename_i y;have hu:=hu.im_inv;split at e
  ·split at e
   ·rename_i q hq;injection e with e
    injection e with e1 e2
    subst e1 e2;obtain ⟨rfl,k',rfl⟩:=zp3 hq;cases hu;exact nil_oc _ _ _ _
   ·cases e
  ·injection e with e
   injection e with e1 e2
   subst e1 e2;exact ⟨hI _ _ (zms hu),rfl⟩
 ·rename_i p g;split at e
  ·rename_i k hk;injection e with e
   injection e with e1 e2
   subst e1 e2;have hg:=hg (p,g) (by simp)
   have hv:u=ρ p:=by
    cases hu with
    | osl _ _ _ _ _ hh=>exact hh hg
   have hh:=zsx h hk;subst hv;refine ⟨hh.one,ρ.inn p,hh.mono (fun _ _=>rfl) hI,?_⟩;unfold zdp;rw [ya3,ycr,ybp,(zl1 hk).1]
  ·cases e
 ·cases e
theorem cellG_ok {a:Act} {w:World} {ρ:Ly} (h:SatR B σ a w ρ) {S:Nat->Prop} (hI:∀ u x,RepI w (Imm B σ ρ w) u x->RepI w S u x) {own:List Nat} {d i j:Nat} {u:Value} {c:AV} {x:Oc} {gs:yad}
  (hu:RepA w (Imm B σ ρ w) ρ σ.gn u c) (e:cellG σ own d i j c=some (x,gs)) (hg:∀ p∈gs,σ.gn p.1=p.2):OcOk w S u x (zdp σ ρ gs):=by
 unfold cellG at e;split at e
 ·injection e with e
  injection e with e1 e2
  subst e1 e2;exact ⟨.any _,rfl⟩
 ·exact cellG0_ok h hI hu e hg
theorem zfh (ρ:Ly) (a b:yad):zdp σ ρ (a++b)=zdp σ ρ a++zdp σ ρ b:=yc3
theorem cellsG_ok {a:Act} {w:World} {ρ:Ly} (h:SatR B σ a w ρ) {S:Nat->Prop} (hI:∀ u x,RepI w (Imm B σ ρ w) u x->RepI w S u x) {own:List Nat} {d i:Nat}:∀ {us:List Value} {cs:List AV} {j:Nat} {xs:List Oc} {gs:yad},
  Reps w (Imm B σ ρ w) ρ σ.gn us cs->zse σ own d i j cs=some (xs,gs)->(∀ p∈gs,σ.gn p.1=p.2)->zlp w S us xs (zdp σ ρ gs)
 | [],[],j,xs,gs,_,e,_=>by
  simp only [zse,zkF,zkG] at e;rw [<- e.1,<- e.2];exact rfl
 | [],c::cs,_,_,_,hr,_,_=>by have:=hr.1;simp at this
 | u::us,[],_,_,_,hr,_,_=>by have:=hr.1;simp at this
 | u::us,c::cs,j,xs,gs,hr,e,hg=>by
  simp only [zse] at e;split at e
  ·rename_i x g1 xs1 gs1 h1 h2;simp only [zkF,zkG] at e;obtain ⟨rfl,rfl⟩:=e
   exact ⟨_,_,cellG_ok h hI (hr.2 0 u c rfl rfl) h1 fun p hp=>hg p (yai _ hp),
    cellsG_ok h hI ⟨by simpa using hr.1,fun i u x hu hx=>hr.2 (i+1) u x (by simpa using hu) (by simpa using hx)⟩ h2 fun p hp=>hg p (yaf _ hp),zfh _ _ _⟩
  ·cases e
theorem argG_ok {a:Act} {w:World} {ρ:Ly} (h:SatR B σ a w ρ) {own:List Nat} {d i:Nat} {bs0:yad} (hgk:∀ p∈bs0,σ.gn p.1=p.2) {u:Value} {c:AV} {x:Arg} {bs gs:yad}
  (hu:RepA w (Imm B σ ρ w) ρ σ.gn u c) (e:argG σ own d i c=some (x,bs,gs)) (hb:∀ p∈bs,p∈bs0) (hg:∀ p∈gs,σ.gn p.1=p.2):ArgOk w (Imm B (app σ (fwr bs0)) ρ w) u x (zdp σ ρ gs):=by
 have hI:=(h.kills bs0).2;unfold argG at e;split at e
 ·split at e
  ·rename_i b g;split at e
   ·rename_i k hk;simp only [zkF,zkG] at e;obtain ⟨rfl,rfl,rfl⟩:=e;have a2:=hg (b,g) (by simp)
    have hv:u=ρ b:=by
     cases hu with
     | osl _ _ _ _ _ hh=>exact hh a2
    have hh:=zsx h hk;subst hv
    have a0:OcOk w (Imm B (app σ (fwr bs0)) ρ w) (ρ b) (.ow k) (zdp σ ρ [(b,g)]):=by
     refine ⟨hh.one,ρ.inn b,hh.mono (fun _ _=>rfl) hI,?_⟩;unfold zdp;rw [ya3,ycr,ybp,(zl1 hk).1]
    unfold lentG;split
    ·exact a0
    ·exact a0
   ·cases e
  ·rename_i b g;split at e
   ·rename_i t m hk;split at e
    ·rename_i cs a3 a4;simp only [zkF,zkG] at e;obtain ⟨rfl,rfl,rfl⟩:=e;obtain ⟨q,us,e3,e4,e5,e6,e7,_,e9⟩:=zj9 h hu (hg (b,g) (by simp)) hk;refine ⟨q,us,zdp σ ρ a3,e3,e5,e7,cellsG_ok h hI (zoq (by rw [e6];exact hk) e9) a4 fun p hp=>hg p (by simp [hp]),?_⟩;unfold zdp;rw [ya3,hk,e4];rfl
    ·cases e
   ·cases e
  ·rename_i y;have hu:=hu.im_inv;split at e
   ·split at e
    ·rename_i q hq;simp only [zkF,zkG] at e;obtain ⟨rfl,rfl,rfl⟩:=e;obtain ⟨rfl,k',rfl⟩:=zp3 hq;cases hu;exact nil_oc _ _ _ _
    ·cases e
   ·cases e
  ·cases e
 ·split at e
  ·split at e
   ·simp only [zkF,zkG] at e;obtain ⟨rfl,rfl,rfl⟩:=e;exact ⟨hI _ _ hu.im_inv,rfl⟩
   ·cases e
  ·split at e
   ·rename_i y bs' hy;simp only [zkF,zkG] at e;obtain ⟨rfl,rfl,rfl⟩:=e;exact ⟨zve h hgk hu hy hb,rfl⟩
   ·cases e
theorem zoj {a:Act} {w:World} {ρ:Ly} (h:SatR B σ a w ρ) {own:List Nat} {d:Nat} {bs0:yad} (hgk:∀ p∈bs0,σ.gn p.1=p.2):∀ {us:List Value} {cs:List AV} {i:Nat} {xs:List Arg} {bs gs:yad},
  Reps w (Imm B σ ρ w) ρ σ.gn us cs->zk5 σ own d i cs=some (xs,bs,gs)->(∀ p∈bs,p∈bs0)->(∀ p∈gs,σ.gn p.1=p.2)->zem w (Imm B (app σ (fwr bs0)) ρ w) us xs (zdp σ ρ gs)
 | [],[],i,xs,bs,gs,_,e,_,_=>by
  simp only [zk5,zkF,zkG] at e;rw [<- e.1,<- e.2.2];exact rfl
 | [],c::cs,_,_,_,_,hr,_,_,_=>by have:=hr.1;simp at this
 | u::us,[],_,_,_,_,hr,_,_,_=>by have:=hr.1;simp at this
 | u::us,c::cs,i,xs,bs,gs,hr,e,hb,hg=>by
  simp only [zk5] at e;split at e
  ·rename_i x b1 g1 xs1 bs1 gs1 h1 h2;simp only [zkF,zkG] at e;obtain ⟨rfl,rfl,rfl⟩:=e
   exact ⟨_,_,argG_ok h hgk (hr.2 0 u c rfl rfl) h1 (fun p hp=>hb p (yai _ hp)) fun p hp=>hg p (yai _ hp),
    zoj h hgk ⟨by simpa using hr.1,fun i u x hu hx=>hr.2 (i+1) u x (by simpa using hu) (by simpa using hx)⟩ h2 (fun p hp=>hb p (yaf _ hp)) fun p hp=>hg p (yaf _ hp),zfh _ _ _⟩
  ·cases e
theorem bxG_ok {a:Act} {w:World} {ρ:Ly} (h:SatR B σ a w ρ) {own:List Nat} {d:Nat}:∀ {us:List Value} {cs:List AV} {i:Nat} {xs:List Arg} {bs gs:yad},
  Reps w (Imm B σ ρ w) ρ σ.gn us cs->zk5 σ own d i cs=some (xs,bs,gs)->(∀ p∈gs,σ.gn p.1=p.2)->bxVs us xs=(bxG own d i cs).map (fun p=>ρ p.1)∧(∀ p∈bxG own d i cs,p.1∈gs.map (·.1))
 | [],[],i,xs,bs,gs,_,e,_=>by
  simp only [zk5,zkF,zkG] at e;rw [<- e.1];exact ⟨rfl,by simp [bxG]⟩
 | [],c::cs,_,_,_,_,hr,_,_=>by have:=hr.1;simp at this
 | u::us,[],_,_,_,_,hr,_,_=>by have:=hr.1;simp at this
 | u::us,c::cs,i,xs,bs,gs,hr,e,hg=>by
  simp only [zk5] at e;split at e
  ·rename_i x b1 g1 xs1 bs1 gs1 h1 h2;simp only [zkF,zkG] at e;obtain ⟨rfl,rfl,rfl⟩:=e;obtain ⟨ih1,ih2⟩:=bxG_ok h (us:=us) (cs:=cs) ⟨by simpa using hr.1,fun i u x hu hx=>hr.2 (i+1) u x (by simpa using hu) (by simpa using hx)⟩ h2 fun p hp=>hg p (yaf _ hp);have up:∀ p∈bxG own d (i+1) cs,p.1∈(g1++gs1).map (·.1):=fun p hp=>by rw [ya9];exact yaf _ (ih2 p hp)
   have hu:=hr.2 0 u c rfl rfl;unfold argG at h1;unfold bxG;split at h1
   ·rename_i hown;split at h1
    ·rename_i b g;split at h1
     ·rename_i k hk;simp only [zkF,zkG] at h1;obtain ⟨rfl,rfl,rfl⟩:=h1
      have hv:u=ρ b:=by
       have a0:=hg (b,g) (by simp);cases hu with
       | osl _ _ _ _ _ hh=>exact hh a0
      unfold lentG;cases hl:own.contains (2000000+(1000*(d+1)+i)) with
      | true =>
       refine ⟨by simp only [bxVs,yan,hl];rw [ih1,hv],fun p hp=>?_⟩;simp only [hl] at hp;rcases yau.1 hp with rfl | hp
       ·simp
       ·exact up p hp
      | false=>exact ⟨by simp only [bxVs,hl];exact ih1,fun p hp=>up p (by simpa only [hl] using hp)⟩
     ·cases h1
    ·rename_i b g;split at h1
     ·rename_i t m hk;split at h1
      ·simp only [zkF,zkG] at h1;obtain ⟨rfl,rfl,rfl⟩:=h1;obtain ⟨q,a2,e3,e4,_⟩:=zj9 h hu (hg (b,g) (by simp)) hk;refine ⟨by simp only [bxVs,yan];rw [ih1,e3,e4],fun p hp=>?_⟩;rcases yau.1 hp with rfl | hp
       ·simp
       ·exact up p hp
      ·cases h1
     ·cases h1
    ·split at h1
     ·split at h1
      ·simp only [zkF,zkG] at h1;obtain ⟨rfl,rfl,rfl⟩:=h1;exact ⟨ih1,up⟩
      ·cases h1
     ·cases h1
    ·cases h1
   ·rename_i hown;split at h1
    ·split at h1
     ·simp only [zkF,zkG] at h1;obtain ⟨rfl,rfl,rfl⟩:=h1;exact ⟨ih1,up⟩
     ·cases h1
    ·split at h1
     ·simp only [zkF,zkG] at h1;obtain ⟨rfl,rfl,rfl⟩:=h1;exact ⟨ih1,up⟩
     ·cases h1
  ·cases e
end
end
end Go.Proofs.YtkiajpbdicaceaaGreatDoor.Sym

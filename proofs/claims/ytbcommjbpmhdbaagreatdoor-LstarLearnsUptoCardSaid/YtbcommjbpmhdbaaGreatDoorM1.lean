/- Parts of the proof. -/
import Derived.WalkKit
import Derived.Deep.AppendLies
import Derived.Deep.Draws
import Derived.Maps.AppendAt
import Derived.Deep.QuietTactic
import Derived.BigQuiet
import Derived.WalkSpells
import Derived.Outline
import Derived.Laws.OwnMore
import Derived.Test.YtbcommjbpmhdbaaGreatDoorProg
import Derived.IntWalk
import Derived.Laws.Cells
import Derived.ArgAppend
set_option linter.all false
set_option maxRecDepth 100000
set_option maxHeartbeats 4000000
open Go.RowKit
namespace Go.Proofs.YtbcommjbpmhdbaaGreatDoor.Sym
theorem zkA {p:Prop} [Decidable p] (h:¬p):decide p=false:=decide_eq_false h
theorem zkB {p:Prop} [Decidable p] (h:p):decide p=true:=decide_eq_true h
theorem zkC {α:Sort _} (a b:α):cond false a b=b:=rfl
theorem zkD {α:Sort _} (a b:α):cond true a b=a:=rfl
theorem zkE {n m:Nat} (h:Nat.ble n m=true):n≤m:=Nat.le_of_ble_eq_true h
theorem zkF {α:Type _} (a b:α):(some a=some b)=(a=b):=Option.some.injEq a b
theorem zkG {α:Type _} {β:Type _} (a:α) (b:β) (c:α) (d:β):((a,b)=(c,d))=(a=c∧b=d):=Prod.mk.injEq a b c d
theorem zkH {α:Type _} {l:List α} {i:Nat} {a:α} (h:l[i]?=some a):a∈l:=List.mem_of_getElem? h
theorem zkI {α:Type _} {l:List α} {i:Nat} {a:α}:l[i]?=some a↔∃ h:i<l.length,l[i]=a:=List.getElem?_eq_some_iff
theorem zkJ {α:Type _} {a b:List α}:(a++b).length=a.length+b.length:=List.length_append
theorem zkK {α:Type _} {β:Type _} {l:List α} (f:α→β):(l.map f).length=l.length:=List.length_map f
theorem zkL {α:Type _} {a:α} {l:List α}:(a::l).length=l.length+1:=List.length_cons
theorem zkM {α:Type _} {l:List α} {i:Nat} (h:i<l.length):l[i]?=some l[i]:=List.getElem?_eq_getElem h
theorem zv3 {w w':World} (h:Below w.heap.size w w'):w.grownBy w' none:=⟨h.os,h.tape,h.output,h.size,fun k hk _=>h.block k hk⟩
theorem zj6 {α:Type} {l:List α} {k:Nat} {x d:α} (h:l[k]?=some x):l.getD k d=x:=by simp [List.getD_eq_getElem?_getD,h]
theorem addr_add (b o j:Nat):(⟨b,o,none⟩:Addr).add j=⟨b,o+j,none⟩:=by
 unfold Addr.add;split
 ·rename_i h;subst h;rfl
 ·rfl
section
inductive IV where
 | val (v:Value)
 | ex (v:Value)
 | any
 | sl (es:List (List IV))
 | agg (cs:List IV)
 | ref (cs:List IV)
 | fn (f:FuncId) (caps:List IV)
 | nsl (es:List (List IV))
inductive AV where
 | im (x:IV)
 | own (o g i:Nat)
 | osl (o g:Nat)
 | elt (o g k i j:Nat)
 | sub (o g i:Nat)
 | elt2 (o g i k j c:Nat)
 | osv (o g k m:Nat)
 | full (es:List (List IV))
 | fn (f:FuncId) (caps:List AV)
 | agg (cs:List AV)
 | tup (cs:List AV)
inductive Kd where
 | dead
 | box (t:TypeId) (m:Nat)
 | row (e:TypeId) (k:Nat) (es:List (List IV))
 | grid (e e':TypeId) (k:Nat) (gs:List (List IV)) (hole:Option Nat)
 | map (l:List (Value×Value))
 | bag (t e:TypeId) (k:Nat) (l:List (Nat×List IV×List (List IV))) (hole:Option Nat)
 | mapI (left:List IV) (cur:Option IV)
 | que (e:TypeId) (k:Nat) (es:List (List IV))
def esOf:Kd→Option (List (List IV))
 | .row _ _ es=>some es
 | .que _ _ es=>some es
 | _=>none
def isQue:Kd→Bool
 | .que _ _ _=>true
 | _=>false
inductive Loc where
 | tmp (t:Nat)
 | gen (o:Nat)
 | ign (o:Nat)
 | knd (o:Nat)
 | cel (o i:Nat)
 deriving DecidableEq
def Loc.eqb:Loc→Loc→Bool
 | .tmp a,.tmp b=>Nat.beq a b
 | .gen a,.gen b=>Nat.beq a b
 | .ign a,.ign b=>Nat.beq a b
 | .knd a,.knd b=>Nat.beq a b
 | .cel a i,.cel b j=>Nat.beq a b&&Nat.beq i j
 | _,_=>false
theorem Loc.eqb_iff (a b:Loc):a.eqb b=true↔a=b:=by
 cases a<;>cases b<;>simp [Loc.eqb]
def Loc.code:Loc→Nat
 | .tmp t=>Nat.mul 5 t
 | .gen t=>Nat.succ (Nat.mul 5 t)
 | .knd t=>Nat.add (Nat.mul 5 t) 2
 | .cel t j=>Nat.add (Nat.mul 5 (Nat.add (Nat.mul 16 t) j)) 3
 | .ign t=>Nat.add (Nat.mul 5 t) 4
inductive Ct where
 | av (a:AV)
 | n (g:Nat)
 | kd (k:Kd)
def St:Type:=Loc→Ct
def upd (σ:St) (l:Loc) (c:Ct):St:=fun l'=>match l'.eqb l with | true=>c | false=>σ l'
theorem zd5 (σ:St) (l:Loc) (c:Ct) (l':Loc):upd σ l c l'=if l'=l then c else σ l':=by
 unfold upd;by_cases h:l'=l
 ·rw [if_pos h,(Loc.eqb_iff l' l).2 h]
 ·rw [if_neg h];cases e:l'.eqb l with
  | true=>exact absurd ((Loc.eqb_iff l' l).1 e) h
  | false=>rfl
def app (σ:St):List (Loc×Ct)→St
 | []=>σ
 | (l,c)::wr=>app (upd σ l c) wr
def St.av (σ:St) (t:Nat):AV:=match σ (.tmp t) with | .av a=>a | _=>.im .any
def St.gn (σ:St) (o:Nat):Nat:=match σ (.gen o) with | .n g=>g | _=>0
def St.ig (σ:St) (o:Nat):Nat:=match σ (.ign o) with | .n g=>g | _=>0
def St.kd (σ:St) (o:Nat):Kd:=match σ (.knd o) with | .kd k=>k | _=>.dead
def St.ce (σ:St) (o i:Nat):AV:=match σ (.cel o i) with | .av a=>a | _=>.im .any
section
variable (σ:St)
theorem ze1:app σ []=σ:=rfl
theorem zbq (p:Loc×Ct) (wr:List (Loc×Ct)):app σ (p::wr)=app (upd σ p.1 p.2) wr:=rfl
theorem av_tmp (d t:Nat) (v:AV):(upd σ (.tmp d) (.av v)).av t=if t=d then v else σ.av t:=by
 unfold St.av;rw [zd5];by_cases h:t=d
 ·subst h;simp
 ·simp [h]
theorem av_gen (o t:Nat) (c:Ct):(upd σ (.gen o) c).av t=σ.av t:=by simp [St.av,zd5]
theorem av_ign (o t:Nat) (c:Ct):(upd σ (.ign o) c).av t=σ.av t:=by simp [St.av,zd5]
theorem ig_ign (o t g:Nat):(upd σ (.ign o) (.n g)).ig t=if t=o then g else σ.ig t:=by
 unfold St.ig;rw [zd5];by_cases h:t=o
 ·subst h;simp
 ·simp [h]
theorem ig_tmp (d t:Nat) (c:Ct):(upd σ (.tmp d) c).ig t=σ.ig t:=by simp [St.ig,zd5]
theorem ig_gen (d t:Nat) (c:Ct):(upd σ (.gen d) c).ig t=σ.ig t:=by simp [St.ig,zd5]
theorem zj3 (d t:Nat) (c:Ct):(upd σ (.knd d) c).ig t=σ.ig t:=by simp [St.ig,zd5]
theorem ig_cel (d i t:Nat) (c:Ct):(upd σ (.cel d i) c).ig t=σ.ig t:=by simp [St.ig,zd5]
theorem gn_ign (d t:Nat) (c:Ct):(upd σ (.ign d) c).gn t=σ.gn t:=by simp [St.gn,zd5]
theorem kd_ign (d t:Nat) (c:Ct):(upd σ (.ign d) c).kd t=σ.kd t:=by simp [St.kd,zd5]
theorem ce_ign (d p j:Nat) (c:Ct):(upd σ (.ign d) c).ce p j=σ.ce p j:=by simp [St.ce,zd5]
theorem zix (o t:Nat) (c:Ct):(upd σ (.knd o) c).av t=σ.av t:=by simp [St.av,zd5]
theorem av_cel (o i t:Nat) (c:Ct):(upd σ (.cel o i) c).av t=σ.av t:=by simp [St.av,zd5]
theorem gn_gen (o t g:Nat):(upd σ (.gen o) (.n g)).gn t=if t=o then g else σ.gn t:=by
 unfold St.gn;rw [zd5];by_cases h:t=o
 ·subst h;simp
 ·simp [h]
theorem gn_tmp (d t:Nat) (c:Ct):(upd σ (.tmp d) c).gn t=σ.gn t:=by simp [St.gn,zd5]
theorem zgj (d t:Nat) (c:Ct):(upd σ (.knd d) c).gn t=σ.gn t:=by simp [St.gn,zd5]
theorem gn_cel (d i t:Nat) (c:Ct):(upd σ (.cel d i) c).gn t=σ.gn t:=by simp [St.gn,zd5]
theorem zev (o t:Nat) (k:Kd):(upd σ (.knd o) (.kd k)).kd t=if t=o then k else σ.kd t:=by
 unfold St.kd;rw [zd5];by_cases h:t=o
 ·subst h;simp
 ·simp [h]
theorem kd_tmp (d t:Nat) (c:Ct):(upd σ (.tmp d) c).kd t=σ.kd t:=by simp [St.kd,zd5]
theorem kd_gen (d t:Nat) (c:Ct):(upd σ (.gen d) c).kd t=σ.kd t:=by simp [St.kd,zd5]
theorem kd_cel (d i t:Nat) (c:Ct):(upd σ (.cel d i) c).kd t=σ.kd t:=by simp [St.kd,zd5]
theorem ce_cel (o i p j:Nat) (v:AV):(upd σ (.cel o i) (.av v)).ce p j=if p=o∧j=i then v else σ.ce p j:=by
 unfold St.ce;rw [zd5];by_cases h:p=o∧j=i
 ·obtain ⟨rfl,rfl⟩:=h;simp
 ·simp [h]
theorem ce_tmp (d p j:Nat) (c:Ct):(upd σ (.tmp d) c).ce p j=σ.ce p j:=by simp [St.ce,zd5]
theorem ce_gen (d p j:Nat) (c:Ct):(upd σ (.gen d) c).ce p j=σ.ce p j:=by simp [St.ce,zd5]
theorem zj1 (d p j:Nat) (c:Ct):(upd σ (.knd d) c).ce p j=σ.ce p j:=by simp [St.ce,zd5]
end
inductive RepI (w:World) (S:Nat→Prop):Value→IV→Prop
 | val (v:Value):RepI w S v (.val v)
 | ex (v:Value) (h1:v.oneCell'=true):RepI w S v (.ex v)
 | any (v:Value):RepI w S v .any
 | emp (A:Option Addr) (c:Nat):RepI w S (.slice A 0 c) (.sl [])
 | sl (b o c k n:Nat) (es:List (List IV)) (us:List Value) (hn:es.length=n) (hk:∀ e∈es,e.length=k) (hc:n≤c) (hs:n≤17592186044416) (hS:S b)
   (hl:us.length=es.flatten.length) (h1:∀ u∈us,u.oneCell'=true) (hu:∀ (i:Nat) u,us[i]?=some u→w.cell? ⟨b,o+i,none⟩=some u)
   (hr:∀ (i:Nat) u x,us[i]?=some u→es.flatten[i]?=some x→RepI w S u x):RepI w S (.slice (some ⟨b,o,none⟩) n c) (.sl es)
 | agg (us:List Value) (cs:List IV) (hl:us.length=cs.length) (h1:∀ u∈us,u.oneCell'=true) (hr:∀ (i:Nat) u x,us[i]?=some u→cs[i]?=some x→RepI w S u x):RepI w S (.agg us.toArray) (.agg cs)
 | ref (b o:Nat) (us:List Value) (cs:List IV) (hS:S b) (hl:us.length=cs.length) (h1:∀ u∈us,u.oneCell'=true) (hu:∀ (i:Nat) u,us[i]?=some u→w.cell? ⟨b,o+i,none⟩=some u)
   (hr:∀ (i:Nat) u x,us[i]?=some u→cs[i]?=some x→RepI w S u x):RepI w S (.pointer (some ⟨b,o,none⟩)) (.ref cs)
 | fn (f:FuncId) (us:List Value) (cs:List IV) (hl:us.length=cs.length) (hr:∀ (i:Nat) u x,us[i]?=some u→cs[i]?=some x→RepI w S u x):RepI w S (.func (.func f) #[] us.toArray) (.fn f cs)
 | nsl (a:Addr) (n c:Nat) (es:List (List IV)) (h:RepI w S (.slice (some a) n c) (.sl es)):RepI w S (.slice (some a) n c) (.nsl es)
structure Ly where
 root:Nat→Value
 inn:Nat→List Value
 ig:Nat→Nat
instance:CoeFun Ly (fun _=>Nat→Value):=⟨Ly.root⟩
inductive RepA (w:World) (S:Nat→Prop) (ρ:Ly) (γ:Nat→Nat):Value→AV→Prop
 | im (v:Value) (x:IV) (h:RepI w S v x):RepA w S ρ γ v (.im x)
 | own (v:Value) (o g i:Nat) (h1:v.oneCell'=true) (hg:g≤γ o) (h:γ o=g→∃ b,ρ o=.pointer (some ⟨b,0,none⟩)∧v=.pointer (some ⟨b,i,none⟩)):RepA w S ρ γ v (.own o g i)
 | osl (v:Value) (o g:Nat) (h1:v.oneCell'=true) (hg:g≤γ o) (h:γ o=g→v=ρ o):RepA w S ρ γ v (.osl o g)
 | elt (v:Value) (o g k i j:Nat) (h1:v.oneCell'=true) (hg:g≤γ o) (h:γ o=g→∃ b q n c,ρ o=.slice (some ⟨b,q,none⟩) n c∧v=.pointer (some ⟨b,q+(i*k+j),none⟩)):RepA w S ρ γ v (.elt o g k i j)
 | sub (v:Value) (o g i:Nat) (h1:v.oneCell'=true) (hg:g≤ρ.ig o) (h:ρ.ig o=g→(ρ.inn o)[i]?=some v):RepA w S ρ γ v (.sub o g i)
 | elt2 (v:Value) (o g i k j c:Nat) (h1:v.oneCell'=true) (hg:g≤ρ.ig o) (h:ρ.ig o=g→∃ b n cp,(ρ.inn o)[i]?=some (.slice (some ⟨b,0,none⟩) n cp)∧v=.pointer (some ⟨b,j*k+c,none⟩)):RepA w S ρ γ v (.elt2 o g i k j c)
 | osv (v:Value) (o g k m:Nat) (h1:v.oneCell'=true) (hg:g≤γ o) (h:γ o=g→∃ b n c,ρ o=.slice (some ⟨b,0,none⟩) n c∧k≤n∧v=.slice (if c=k then some ⟨b,0,none⟩ else some ⟨b,k*m,none⟩) (n-k) (c-k)):RepA w S ρ γ v (.osv o g k m)
 | full (A:Option Addr) (n:Nat) (es:List (List IV)) (h:RepI w S (.slice A n n) (.sl es)):RepA w S ρ γ (.slice A n n) (.full es)
 | fn (f:FuncId) (us:List Value) (cs:List AV) (hl:us.length=cs.length) (hr:∀ (i:Nat) u x,us[i]?=some u→cs[i]?=some x→RepA w S ρ γ u x):RepA w S ρ γ (.func (.func f) #[] us.toArray) (.fn f cs)
 | agg (us:List Value) (cs:List AV) (hl:us.length=cs.length) (h1:∀ u∈us,u.oneCell'=true) (hr:∀ (i:Nat) u x,us[i]?=some u→cs[i]?=some x→RepA w S ρ γ u x):RepA w S ρ γ (.agg us.toArray) (.agg cs)
 | tup (us:List Value) (cs:List AV) (hl:us.length=cs.length) (hr:∀ (i:Nat) u x,us[i]?=some u→cs[i]?=some x→RepA w S ρ γ u x):RepA w S ρ γ (.tuple us.toArray) (.tup cs)
structure Base where
 w0:World
 S0:Nat→Prop
 n:Nat
 G:Nat→Prop
 Z:Nat→Prop
 L:Nat→Option Value
 ds:List Deferred
def Mine (B:Base) (b:Nat):Prop:=B.w0.heap.size≤b∨B.G b
structure Belo (G:Nat→Prop) (n:Nat) (w w':World):Prop where
 os:w'.os=w.os
 tape:w'.tape=w.tape
 output:w'.output=w.output
 size:w.heap.size≤w'.heap.size
 block:∀ k,k<n→¬ G k→w'.heap[k]?=w.heap[k]?
theorem Belo.of {G:Nat→Prop} {n:Nat} {w w':World} (h:Below n w w'):Belo G n w w':=⟨h.os,h.tape,h.output,h.size,fun k hk _=>h.block k hk⟩
theorem Belo.below {G:Nat→Prop} {n:Nat} {w w':World} (h:Belo G n w w') (hG:∀ b,¬ G b):Below n w w':=⟨h.os,h.tape,h.output,h.size,fun k hk=>h.block k hk (hG k)⟩
theorem Belo.refl (G:Nat→Prop) (n:Nat) (w:World):Belo G n w w:=.of (Below.refl n w)
theorem Belo.trans {G:Nat→Prop} {n:Nat} {a b c:World} (h:Belo G n a b) (k:Belo G n b c):Belo G n a c :=
 ⟨k.os.trans h.os,k.tape.trans h.tape,k.output.trans h.output,Nat.le_trans h.size k.size,fun i hi hg=>(k.block i hi hg).trans (h.block i hi hg)⟩
def zba:Value→Option Nat
 | .pointer (some a)=>some a.block
 | .slice (some a) _ _=>some a.block
 | .map (some b)=>some b
 | _=>none
def live (σ:St) (o:Nat):Prop:=σ.kd o≠.dead
def fpv (v:Value) (inn:List Value):List Nat:=(v::inn).filterMap zba
def fpk (v:Value) (inn:List Value):Kd→List Nat
 | .dead=>[]
 | .grid _ _ _ _ _=>fpv v inn
 | .bag _ _ _ _ _=>fpv v inn
 | .mapI _ _=>fpv v inn
 | _=>(zba v).toList
def Owns (σ:St) (ρ:Ly) (o b:Nat):Prop:=b∈fpk (ρ o) (ρ.inn o) (σ.kd o)
def Imm (B:Base) (σ:St) (ρ:Ly) (w:World) (b:Nat):Prop :=
 (B.S0 b∨Mine B b)∧b<w.heap.size∧(∀ o,¬ Owns σ ρ o b)∧¬ B.Z b
def ziu (w:World) (S:Nat→Prop) (v:Value) (e:TypeId) (k:Nat) (es:List (List IV)):Prop :=
 ∃ us:List Value,0<k∧(∀ x∈es,x.length=k)∧es.length≤17592186044416∧w.ownsRow 0 e k v es.length us∧us.length=es.flatten.length∧(∀ u∈us,u.oneCell'=true) ∧
  ∀ (i:Nat) u x,us[i]?=some u→es.flatten[i]?=some x→RepI w S u x
def zmb (w:World) (S:Nat→Prop) (v:Value) (e:TypeId) (k:Nat) (es:List (List IV)):Prop :=
 ∃ us:List Value,0<k∧(∀ x∈es,x.length=k)∧es.length≤17592186044416∧us.length=es.flatten.length∧(∀ u∈us,u.oneCell'=true) ∧
  (∀ (i:Nat) u x,us[i]?=some u→es.flatten[i]?=some x→RepI w S u x) ∧
  ((v=.slice none 0 0∧es=[])∨∃ (q off cap:Nat) (cur:Array Value),v=.slice (some ⟨q,off,none⟩) es.length cap∧w.heap[q]?=some (.cells cur e (0,0))∧es.length≤cap∧cap≤maxLen∧off+cap*k≤cur.size∧∀ (j:Nat) u,us[j]?=some u→cur[off+j]?=some u)
def zkc (w:World) (S:Nat→Prop) (v:Value) (inn:List Value) (e e':TypeId) (k:Nat) (gs:List (List IV)) (hole:Option Nat):Prop :=
 (fpv v inn).Nodup∧inn.length=gs.length∧∃ us:List Value,gs.length≤17592186044416∧w.ownsRow 0 e 1 v gs.length us∧(∀ u∈us,u.oneCell'=true) ∧
  ∀ (i:Nat) u,inn[i]?=some u→(hole=some i∧u=undef)∨(us[i]?=some u∧∃ es,gs[i]?=some [.sl es]∧ziu w S u e' k es)
def zvj (es:Array MapEntry) (clock:Nat):Prop:=(∀ x∈es.toList,x.born<clock)∧(es.toList.map (·.born)).Nodup
def zdj (w:World) (S:Nat→Prop) (v:Value) (inn:List Value):Kd→Prop
 | .row e k es=>ziu w S v e k es
 | .que e k es=>zmb w S v e k es
 | .grid e e' k gs hole=>zkc w S v inn e e' k gs hole
 | .map l=>∃ (b clock:Nat) (es:Array MapEntry),v=.map (some b)∧w.heap[b]?=some (.map es clock)∧es.toList.map (fun e=>(e.key,e.val))=l∧zvj es clock
 | _=>False
abbrev pv (b:Nat):Value:=.pointer (some ⟨b,0,none⟩)
def EntOk (w:World) (S:Nat→Prop) (t e:TypeId) (k:Nat) (g:Nat×List IV×List (List IV)) (row:Value):Prop :=
 ∃ us:List Value,w.heap[g.1]?=some (.cells (us++[row]).toArray t (0,0))∧us.length=g.2.1.length∧(∀ u∈us,u.oneCell'=true) ∧
  (∀ (i:Nat) u x,us[i]?=some u→g.2.1[i]?=some x→RepI w S u x)∧ziu w S row e k g.2.2
def zsf (w:World) (S:Nat→Prop) (v:Value) (inn:List Value) (t e:TypeId) (k:Nat) (l:List (Nat×List IV×List (List IV))):Prop :=
 zba v=none∧(fpv v inn).Nodup∧∃ rows:List Value,rows.length=l.length∧inn=(l.map fun g=>pv g.1)++rows∧∀ (i:Nat) g row,l[i]?=some g→rows[i]?=some row→EntOk w S t e k g row
def GoOk (w:World) (S:Nat→Prop) (v:Value) (inn:List Value) (left:List IV) (cur:Option IV):Prop :=
 ∃ (b r clock since c0:Nat) (es:Array MapEntry) (seen:Array Nat) (rd:MapEntry→IV),v=.map (some b)∧inn=[.pointer (some ⟨r,0,none⟩)]∧r≠b∧w.heap[b]?=some (.map es clock)∧w.heap[r]?=some (.mapIter (some b) since seen c0) ∧
  (∀ x∈es.toList,x.born<since)∧since≤c0∧since≤clock∧(es.toList.map (·.born)).Nodup∧(∀ x∈es.toList,RepI w S x.val (rd x))∧left=(es.toList.filter fun x=>!seen.contains x.born).map rd ∧
  ∀ y,cur=some y→c0=clock∧∃ (s0:Array Nat) (e:MapEntry),seen=s0.push e.born∧e∈es.toList∧rd e=y
def zmc (B:Base) (σ:St) (ρ:Ly) (w:World) (o:Nat):Kd→Prop
 | .dead=>True
 | .box t m=>∃ (b:Nat) (us:List Value),ρ o=.pointer (some ⟨b,0,none⟩)∧w.heap[b]?=some (.cells us.toArray t (0,0))∧us.length=m∧(∀ u∈us,u.oneCell'=true) ∧
   ∀ (i:Nat) u,us[i]?=some u→RepA w (Imm B σ ρ w) ρ σ.gn u (σ.ce o i)
 | .bag t e k l hole=>zsf w (Imm B σ ρ w) (ρ o) (ρ.inn o) t e k l∧∀ p,hole=some p→RepA w (Imm B σ ρ w) ρ σ.gn (pv p) (σ.ce o 0)
 | .mapI left cur=>GoOk w (Imm B σ ρ w) (ρ o) (ρ.inn o) left cur
 | k=>zdj w (Imm B σ ρ w) (ρ o) (ρ.inn o) k
structure SatR (B:Base) (σ:St) (a:Act) (w:World) (ρ:Ly):Prop where
 bel:Belo B.G B.w0.heap.size B.w0 w
 obs:∀ o,zmc B σ ρ w o (σ.kd o)
 own:∀ o b,Owns σ ρ o b→Mine B b∧b<w.heap.size
 dis:∀ o p b,Owns σ ρ o b→Owns σ ρ p b→o=p
 tms:∀ t,RepA w (Imm B σ ρ w) ρ σ.gn (a.tmps.getD t undef) (σ.av t)
 igs:∀ o,ρ.ig o=σ.ig o
 res:∀ b,B.Z b→(Mine B b∧b<w.heap.size)∧∀ o,¬ Owns σ ρ o b
 rt:∀ o v,B.L o=some v→σ.gn o=0→ρ o=v
 siz:a.tmps.size=B.n
 dfr:a.defers=B.ds
def Sat (B:Base) (σ:St) (a:Act) (w:World):Prop:=∃ ρ,SatR B σ a w ρ
def Ent (σ σ':St):Prop:=∀ B a w,Sat B σ a w→Sat B σ' a w
def Holds (σ:St) (φ:Prop):Prop:=∀ B a w,Sat B σ a w→φ
def ztc (body:(Exit→St→Prop)→St→Prop) (K:Exit→St→Prop) (σ:St):Prop :=
 ∃ (I:Nat→St→Prop) (m:Nat),I m σ∧∀ m σ,I m σ→∃ σ1 φ,Ent σ σ1∧Holds σ1 φ∧(φ→body (fun e σ'=>match e with | .normal=>∃ m',m'<m∧I m' σ' | e=>K e σ') σ1)
structure Fx where
 rd:List Loc
 wr:List (Loc×Ct)
abbrev vI (n:Int):AV:=.im (.val (.int .i64 n))
abbrev vB (b:Bool):AV:=.im (.val (.bool b))
def splice {α:Type} (e:List α) (j:Nat) (xs:List α):List α:=e.take j++xs++e.drop (j+xs.length)
def Side (A B:Prop):Prop:=A∧B
def Both (b:Bool) (A B:Prop):Prop:=(b=true→A)∧(b=false→B)
def Chk (b:Bool) (A:Prop):Prop:=match b with | true=>A | false=>False
def Nf {α:Type} (a:α) (F:α→Prop):Prop:=∃ b,b=a∧F b
def Cut (body:(St→Prop)→Prop) (rest:St→Prop):Prop:=∃ Post:St→Prop,body (fun σ'=>∃ σ1,Ent σ' σ1∧Post σ1)∧∀ σ,Post σ→∃ φ,Holds σ φ∧(φ→rest σ)
theorem Nf.mk {α:Type} {a:α} {F:α→Prop} (b:α) (h:b=a) (k:F b):Nf a F:=⟨b,h,k⟩
theorem Side.mk {A B:Prop} (a:A) (b:B):Side A B:=⟨a,b⟩
theorem Both.mk {b:Bool} {A B:Prop} (h:b=true→A) (k:b=false→B):Both b A B:=⟨h,k⟩
theorem Both.yes {b:Bool} {A B:Prop} (e:b=true) (h:A):Both b A B:=⟨fun _=>h,fun e'=>absurd (e.symm.trans e') (by decide)⟩
theorem Both.no {b:Bool} {A B:Prop} (e:b=false) (h:B):Both b A B:=⟨fun e'=>absurd (e.symm.trans e') (by decide),fun _=>h⟩
theorem Chk.ok {b:Bool} {A:Prop} (h:Chk b A):b=true∧A:=by
 cases b with
 | true=>exact ⟨rfl,h⟩
 | false=>exact False.elim h
def opd:Operand→List Loc
 | .tmp t=>[.tmp t]
 | _=>[]
def evA (σ:St):Operand→AV
 | .tmp t=>σ.av t
 | .const v=>.im (.val v)
 | .func f=>.im (.fn f [])
 | .global _=>.im .any
def wrT:Option Tmp→AV→List (Loc×Ct)
 | some d,v=>[(.tmp d,.av v)]
 | none,_=>[]
def toIVs:List AV→Option (List IV)
 | []=>some []
 | .im x::l=>(toIVs l).map (x::·)
 | _::_=>none
def aggA (cs:List AV):AV:=match toIVs cs with | some l=>.im (.agg l) | none=>.agg cs
def zok:AV→Option (List AV)
 | .im (.agg cs)=>some (cs.map .im)
 | .im (.val v)=>if v.cells.toList.all (·.oneCell')=true then some (v.cells.toList.map fun u=>.im (.val u)) else none
 | .agg cs=>some cs
 | .im .any=>none
 | .tup _=>none
 | v=>some [v]
def aggCs:AV→Option (List AV)
 | .im (.agg cs)=>some (cs.map .im)
 | .im (.val (.agg vs))=>if vs.toList.all (·.oneCell')=true then some (vs.toList.map fun u=>.im (.val u)) else none
 | .agg cs=>some cs
 | _=>none
def szOf (P:Program) (t:TypeId):Option Nat:=(P.info? t).map (·.size)
def zv1 (P:Program) (t:TypeId):Option Bool:=(P.underlying t).map fun d=>match d with | .struct _ | .array ..=>true | _=>false
def fldOf (P:Program) (t:TypeId) (f:Nat):Option (Nat×TypeId):=match P.underlying t with | some (.struct fs)=>(fs[f]?).map fun x=>(x.offset,x.type) | _=>none
def zir (P:Program) (t:TypeId):Option TypeId:=match P.underlying t with | some (.slice e)=>some e | _=>none
def zeroOf (P:Program) (t:TypeId):Option (List Value):=match P.info? t with | some i=>i.zero.map fun z=>z.cells.toList | _=>none
def arrOf (P:Program) (t:TypeId):Option (Nat×TypeId):=match P.underlying t with | some (.array n e)=>some (n,e) | _=>none
def mapTy (P:Program) (t:TypeId):Option (TypeId×TypeId):=match P.underlying t with
 | some (.map k e)=>some (k,e)
 | _=>none
def intArr (P:Program) (t:TypeId):Option Nat:=match arrOf P t with
 | some (n,e)=>match P.underlying e,szOf P e with
  | some (.int .i64),some 1=>some n
  | _,_=>none
 | none=>none
def byteOf (P:Program) (t:TypeId):Option Nat:=(P.info? t).map (·.bytes)
def inR (n:Int):Prop:=-9223372036854775808≤n∧n≤9223372036854775807
inductive Oc where
 | im (x:IV)
 | ow (k:Kd)
inductive Arg where
 | im (x:IV)
 | ow (k:Kd)
 | box (t:TypeId) (cs:List Oc)
 | lent (k:Kd)
instance:Coe IV Arg:=⟨.im⟩
@[match_pattern] abbrev Arg.row (e:TypeId) (k:Nat) (es:List (List IV)):Arg:=.ow (.row e k es)
inductive Rs where
 | mk (tp:Bool) (l:List Oc) (ys:List Arg)
abbrev Rs.im (x:IV):Rs:=.mk false [.im x] []
abbrev Rs.row (e:TypeId) (k:Nat) (es:List (List IV)):Rs:=.mk false [.ow (.row e k es)] []
abbrev Rs.tup (l:List IV):Rs:=.mk true (l.map .im) []
def zwn:Oc→Prop
 | .im x=>(∃ v,x=.val v)∨∃ cs,x=.agg cs∧∀ c∈cs,∃ v,c=.val v
 | .ow (.row _ _ es)=>∀ e∈es,∀ x∈e,∃ v,x=.val v
 | .ow (.map _)=>True
 | _=>False
def flatArg:Arg→Prop
 | .box _ cs=>∀ c∈cs,zwn c
 | .lent k=>zwn (.ow k)
 | _=>False
def flatRs:Rs→Prop
 | .mk _ l ys=>(∀ c∈l,zwn c)∧∀ y∈ys,flatArg y
def zdz (σ:St) (o:Nat) (k:Kd):List (Loc×Ct):=[(.gen o,.n (σ.gn o+1)),(.knd o,.kd k)]
def zgk (σ:St) (o:Nat) (k:Kd):List (Loc×Ct):=match k with
 | .grid _ _ _ _ _=>(.ign o,.n (σ.ig o+1))::zdz σ o k
 | _=>zdz σ o k
def nmB (i j:Nat):Nat:=Nat.add (Nat.add 2000 (Nat.mul 64 i)) j
def nmC (i j:Nat):Nat:=Nat.add (Nat.add 5000 (Nat.mul 64 i)) j
def nmR (d i:Nat):Nat:=Nat.add (Nat.add 3100 (Nat.mul 4 d)) i
def ocPl (σ:St) (nm:Nat):Oc→AV×List (Nat×Kd)
 | .im x=>(.im x,[])
 | .ow k=>(.osl nm (σ.gn nm+1),[(nm,k)])
def zbz (σ:St) (f:Nat→Nat):Nat→List Oc→List AV×List (Nat×Kd)
 | _,[]=>([],[])
 | i,c::l=>match ocPl σ (f i) c,zbz σ f (i+1) l with | (a,s),(al,ss)=>(a::al,s++ss)
def zc1 (σ:St):List (Nat×Kd)→List (Loc×Ct)
 | []=>[]
 | p::l=>zgk σ p.1 p.2++zc1 σ l
def zse:List (Nat×Kd)→List Loc
 | []=>[]
 | p::l=>.gen p.1::.ign p.1::zse l
def nz1:IV→IV
 | .val (.slice none 0 0)=>.sl []
 | .val (.map none)=>.any
 | .nsl es=>.sl es
 | x=>x
def nz:IV→IV
 | .agg cs=>.agg (cs.map nz1)
 | .val (.agg vs)=>if vs.toList.all (·.oneCell')=true then .agg (vs.toList.map fun v=>nz1 (.val v)) else .any
 | x=>nz1 x
def mkZ (own:List Nat) (d:Nat) (v:Value):IV:=match own.contains (9700000+d) with
 | true=>.val v
 | false=>nz1 (.val v)
def rowAt (gs:List (List IV)) (i:Nat):List (List IV):=match gs[i]? with
 | some [.sl es]=>es
 | _=>[]
def fz1 (σ:St):AV→Option (IV×List (Nat×Nat))
 | .im x=>some (nz1 x,[])
 | .osl b g=>match σ.kd b with | .row _ _ es=>some (.sl es,[(b,g)]) | .grid _ _ _ gs none=>some (.sl gs,[(b,g)]) | .map _=>some (.any,[(b,g)]) | _=>none
 | .sub b g i=>match σ.kd b,Nat.beq (σ.ig b) g with
  | .grid _ _ _ gs none,true=>some (.sl (rowAt gs i),[(b,σ.gn b)])
  | _,_=>none
 | _=>none
def fzL (σ:St):List AV→Option (List IV×List (Nat×Nat))
 | []=>some ([],[])
 | a::l=>match fz1 σ a,fzL σ l with | some (x,b),some (xs,bs)=>some (x::xs,b++bs) | _,_=>none
def zj8 (σ:St) (b:Nat):Nat:=match σ.kd b with | .box _ m=>m | _=>0
def zrd (σ:St) (b:Nat):List AV:=(List.range (zj8 σ b)).map fun i=>σ.ce b i
def fz2 (σ:St):AV→Option (IV×List (Nat×Nat))
 | .im x=>some (nz x,[])
 | .agg cs=>(fzL σ cs).map fun p=>(.agg p.1,p.2)
 | .own b g i=>match σ.kd b with | .box _ _=>(fzL σ (zrd σ b)).map fun p=>(.ref (p.1.drop i),(b,g)::p.2) | _=>none
 | a=>fz1 σ a
def fzM (σ:St):List AV→Option (List IV×List (Nat×Nat))
 | []=>some ([],[])
 | a::l=>match fz2 σ a,fzM σ l with | some (x,b),some (xs,bs)=>some (x::xs,b++bs) | _,_=>none
def fz (σ:St):AV→Option (IV×List (Nat×Nat))
 | .fn f caps=>(fzM σ caps).map fun p=>(.fn f p.1,p.2)
 | a=>fz2 σ a
def boxRd (σ:St) (b:Nat):List Loc:=(List.range (zj8 σ b)).map fun i=>.cel b i
def frd (σ:St) (bs:List (Nat×Nat)):List Loc:=bs.flatMap fun b=>.gen b.1::.knd b.1::.ign b.1::boxRd σ b.1
def fwr (bs:List (Nat×Nat)):List (Loc×Ct):=bs.map fun b=>(.knd b.1,.kd .dead)
def gok (σ:St):List (Nat×Nat)→Prop
 | []=>True
 | (b,g)::bs=>σ.gn b=g∧gok σ bs
def zqy (σ:St) (bs:List (Nat×Nat)) (A:Prop):Prop:=match bs with | []=>A | _::_=>Side (gok σ bs) A
def asInt:AV→Option (IntKind×Int)
 | .im (.val (.int k n))=>some (k,n)
 | _=>none
def asBool:AV→Option Bool
 | .im (.val (.bool b))=>some b
 | _=>none
def asStr:AV→Option ByteArray
 | .im (.val (.string s))=>some s
 | _=>none
def rng:IntKind→Int→Prop
 | .i64,n=>inR n
 | .u8,n=>0≤n∧n≤255
 | .u64,n=>0≤n∧n≤18446744073709551615
 | _,_=>False
def za8 (k:IntKind) (n:Int) (F:Int→Prop):Prop:=(rng k n∧F n)∨F (k.wrap n)
theorem za8.mk {k:IntKind} {n:Int} {F:Int→Prop} (h:rng k n) (f:F n):za8 k n F:=.inl ⟨h,f⟩
def xorK (k:IntKind) (a b:Int):Int:=k.wrap (BitVec.ofInt k.bits a ^^^ BitVec.ofInt k.bits b).toNat
def za7 (n bytes:Nat):Prop:=n*bytes≤140737488355328∧n≤17592186044416
section
variable (P:Program) (own:List Nat) (o:Oper) (σ:St) (K:Fx→Prop)
def aPick (c a b:Operand):Prop :=
 match asBool (evA σ c) with
 | some t=>Both t (K ⟨opd c++opd a++opd b,wrT o.dst (evA σ a)⟩) (K ⟨opd c++opd a++opd b,wrT o.dst (evA σ b)⟩)
 | none=>False
def aLoad (t:TypeId) (p:Operand):Prop :=
 match zv1 P t with
 | some false=>match evA σ p with
  | .im (.ref (c::_))=>K ⟨opd p,wrT o.dst (.im c)⟩
  | .own b g i=>Chk (Nat.blt i (zj8 σ b)) (Side (σ.gn b=g) (K ⟨opd p++[.gen b,.knd b,.cel b i],wrT o.dst (σ.ce b i)⟩))
  | .elt b g k i j=>match esOf (σ.kd b) with
   | some es=>∃ e c,(σ.gn b=g∧es[i]?=some e∧e[j]?=some c∧e.length=k)∧K ⟨opd p++[.gen b,.knd b],wrT o.dst (.im c)⟩
   | _=>False
  | _=>False
 | some true=>match szOf P t with
  | some m=>match evA σ p with
   | .im (.ref cs)=>Chk (Nat.ble m cs.length) (K ⟨opd p,wrT o.dst (.im (.agg (cs.take m)))⟩)
   | .own b g i=>Chk (Nat.blt 0 m&&Nat.ble (i+m) (zj8 σ b)) (Side (σ.gn b=g) (K ⟨opd p++[.gen b,.knd b]++(List.range m).map (fun j=>.cel b (i+j)),wrT o.dst (aggA ((List.range m).map fun j=>σ.ce b (i+j)))⟩))
   | .elt b g k i j=>match esOf (σ.kd b) with
    | some es=>∃ e,(σ.gn b=g∧es[i]?=some e∧j+m≤e.length∧e.length=k)∧K ⟨opd p++[.gen b,.knd b],wrT o.dst (.im (.agg ((e.drop j).take m)))⟩
    | _=>False
   | _=>False
  | none=>False
 | none=>False
def zgg (b:Nat):Nat→List AV→List (Loc×Ct)
 | _,[]=>[]
 | i,c::cs=>(.cel b i,.av c)::zgg b (i+1) cs
def aStore (t:TypeId) (p x:Operand):Prop :=
 match szOf P t,zok (evA σ x) with
 | some m,some cs=>Chk (Nat.beq cs.length m) (match evA σ p with
  | .own b g i=>Chk (Nat.blt 0 m&&Nat.ble (i+m) (zj8 σ b)) (Side (σ.gn b=g) (K ⟨opd p++opd x++[.gen b,.knd b],zgg b i cs++wrT o.dst (.im (.val undef))⟩))
  | _=>False)
 | _,_=>False
def aBox (t:TypeId) (x:Operand):Prop :=
 match o.dst,zok (evA σ x) with
 | some d,some cs=>match own.contains (700000+d) with
  | true=>match fzL σ cs with
   | some (xs,bs)=>zqy σ bs (K ⟨opd x++frd σ bs,fwr bs++[(.tmp d,.av (.im (.ref xs)))]⟩)
   | none=>False
  | false=>K ⟨opd x++[.gen d],zdz σ d (.box t cs.length)++zgg d 0 cs++[(.tmp d,.av (.own d (σ.gn d+1) 0))]⟩
 | _,_=>False
def aAlloc (t:TypeId):Prop :=
 match o.dst,zeroOf P t with
 | some d,some cs=>Chk (cs.all (·.oneCell')) (K ⟨[.gen d],zdz σ d (.box t cs.length)++zgg d 0 (cs.map fun v=>.im (.val v))++[(.tmp d,.av (.own d (σ.gn d+1) 0))]⟩)
 | _,_=>False
def aAllocA (t:TypeId):Prop:=let _:=(P,o,σ,K);False
def aAllocs (t:TypeId):Prop:=match intArr P t with
 | some n=>match Nat.ble n 4 with
  | true=>aAlloc P o σ K t
  | false=>aAllocA P o σ K t
 | none=>aAlloc P o σ K t
def zqr (t:TypeId) (p:Operand) (f:Nat):Prop :=
 match fldOf P t f with
 | some (off,ft)=>match szOf P ft with
  | some m=>Chk (Nat.blt 0 m) (match evA σ p with
   | .im (.ref cs)=>K ⟨opd p,wrT o.dst (.im (.ref (cs.drop off)))⟩
   | .own b g i=>Side (σ.gn b=g) (K ⟨opd p++[.gen b],wrT o.dst (.own b g (i+off))⟩)
   | .elt b g k i j=>Side (σ.gn b=g) (K ⟨opd p++[.gen b],wrT o.dst (.elt b g k i (j+off))⟩)
   | _=>False)
  | none=>False
 | none=>False
def aField (t:TypeId) (x:Operand) (f:Nat):Prop:=let _:=(P,o,σ,K);False
def znr (t:TypeId) (x i:Operand):Prop :=
 match asInt (evA σ i),zir P t with
 | some (_,n),some et=>match evA σ x with
  | .im (.sl es)=>∃ e,(0≤n∧es[n.toNat]?=some e∧szOf P et=some e.length)∧K ⟨opd x++opd i,wrT o.dst (.im (.ref e))⟩
  | .osl b g=>match esOf (σ.kd b) with
   | some es=>match szOf P et with
    | some k=>Side (0≤n∧σ.gn b=g∧n.toNat<es.length) (K ⟨opd x++opd i++[.gen b,.knd b],wrT o.dst (.elt b g k n.toNat 0)⟩)
    | none=>False
   | _=>False
  | _=>False
 | _,_=>False
def optI (σ:St) (d:Int):Option Operand→Option Int
 | none=>some d
 | some x=>(asInt (evA σ x)).map (·.2)
def aSlice (t:TypeId) (x:Operand) (lo hi:Option Operand):Prop :=
 match zir P t with
 | some et=>match szOf P et with
  | some k=>match nz (match evA σ x with | .im y=>y | _=>.any) with
   | .sl es=>match optI σ 0 lo,optI σ es.length hi with
    | some l,some h=>Side (0≤l∧l≤h∧h≤es.length∧∀ e∈es,e.length=k) (Nf ((es.take h.toNat).drop l.toNat) fun r=>K ⟨opd x++(lo.map opd).getD []++(hi.map opd).getD [],wrT o.dst (.im (.sl r))⟩)
    | _,_=>False
   | _=>False
  | none=>False
 | none=>False
def aSlice3 (t:TypeId) (x:Operand) (lo hi:Option Operand) (mx:Operand):Prop:=let _:=(P,o,σ,K);False
def aSliceV (t:TypeId) (x:Operand) (b g:Nat) (lo:Operand):Prop :=
 match zir P t,asInt (evA σ lo),σ.kd b with
 | some et,some (_,l),.row _ k es=>match szOf P et with
  | some k'=>Chk (Nat.beq k k') (Side (σ.gn b=g∧0≤l∧l.toNat≤es.length∧0<es.length) (K ⟨opd x++opd lo++[.gen b,.knd b],wrT o.dst (.osv b g l.toNat k)⟩))
  | none=>False
 | _,_,_=>False
def aSliceT (t:TypeId) (x:Operand) (b g:Nat) (hi:Operand):Prop :=
 match zir P t,asInt (evA σ hi),σ.kd b,o.dst with
 | some et,some (_,l),.row et' k es,some d=>match szOf P et with
  | some k'=>Chk (Nat.beq k k') (Side (σ.gn b=g∧0≤l∧l.toNat≤es.length∧0<es.length)
   (Nf (es.take l.toNat) fun r=>K ⟨opd x++opd hi++[.gen b,.knd b],(.knd b,.kd .dead)::(zdz σ b (.row et' k r)++[(.tmp d,.av (.osl b (σ.gn b+1)))])⟩))
  | none=>False
 | _,_,_,_=>False
def aLenV (x:Operand) (b g k:Nat):Prop :=
 match σ.kd b with
 | .row _ _ es=>Side (σ.gn b=g) (Nf (es.length-k) fun n=>K ⟨opd x++[.gen b,.knd b],wrT o.dst (vI n)⟩)
 | _=>False
def aIndexV (t:TypeId) (x i:Operand) (b g k m:Nat):Prop :=
 match asInt (evA σ i),zir P t,σ.kd b with
 | some (_,n),some et,.row _ _ es=>match szOf P et with
  | some m'=>Chk (Nat.beq m m') (Side (0≤n∧σ.gn b=g∧k+n.toNat<es.length) (Nf (k+n.toNat) fun j=>K ⟨opd x++opd i++[.gen b,.knd b],wrT o.dst (.elt b g m j 0)⟩))
  | none=>False
 | _,_,_=>False
def aClear (t:TypeId) (x:Operand):Prop :=
 match zir P t,evA σ x with
 | some et,.osv b g k m=>match σ.kd b,szOf P et,zeroOf P et with
  | .row et' k' es,some m',some z=>Chk (Nat.beq m m'&&Nat.beq k' m'&&Nat.blt 0 m'&&Nat.beq z.length m'&&z.all (·.oneCell')) (Side (σ.gn b=g∧k≤es.length)
   (Nf (es.take k++List.replicate (es.length-k) (z.map fun v=>nz1 (.val v))) fun r=>K ⟨opd x++[.gen b,.knd b],(.knd b,.kd (.row et' k' r))::wrT o.dst (.im .any)⟩))
  | _,_,_=>False
 | _,_=>False
def aCopy (t:TypeId) (x y:Operand):Prop:=let _:=(P,o,σ,K);False
def aIndexG (t:TypeId) (x i:Operand) (b g:Nat):Prop :=
 match asInt (evA σ i),zir P t,σ.kd b with
 | some (_,n),some et,.grid _ _ _ gs _=>match szOf P et with
  | some k=>Chk (Nat.beq k 1) (Side (0≤n∧σ.gn b=g∧n.toNat<gs.length) (K ⟨opd x++opd i++[.gen b,.knd b],wrT o.dst (.elt b g 1 n.toNat 0)⟩))
  | none=>False
 | _,_,_=>False
def aIndexS (t:TypeId) (x i:Operand) (b g j:Nat):Prop :=
 match asInt (evA σ i),zir P t,σ.kd b with
 | some (_,n),some et,.grid _ _ k gs none=>match szOf P et with
  | some k'=>Chk (Nat.beq k' k) (∃ es,(0≤n∧σ.ig b=g∧gs[j]?=some [.sl es]∧n.toNat<es.length)∧K ⟨opd x++opd i++[.ign b,.knd b],wrT o.dst (.elt2 b g j k n.toNat 0)⟩)
  | none=>False
 | _,_,_=>False
def aLoadG (t:TypeId) (p:Operand) (b g k i j:Nat):Prop :=
 match zv1 P t,σ.kd b with
 | some false,.grid _ _ _ gs none=>Chk (Nat.beq k 1&&Nat.beq j 0) (Side (σ.gn b=g∧i<gs.length) (K ⟨opd p++[.gen b,.knd b]++[.ign b],wrT o.dst (.sub b (σ.ig b) i)⟩))
 | _,_=>False
def aLoadS (t:TypeId) (p:Operand) (b g i k j c:Nat):Prop :=
 match zv1 P t,σ.kd b with
 | some false,.grid _ _ k' gs none=>Chk (Nat.beq k' k) (∃ es e x,(σ.ig b=g∧gs[i]?=some [.sl es]∧es[j]?=some e∧e[c]?=some x)∧K ⟨opd p++[.ign b,.knd b],wrT o.dst (.im x)⟩)
 | _,_=>False
def aStoreS (t:TypeId) (p x:Operand) (b g i k j c:Nat):Prop :=
 match szOf P t,zok (evA σ x),σ.kd b with
 | some m,some cs,.grid e e' k' gs none=>match fzL σ cs with
  | some (xs,[])=>Chk (Nat.beq cs.length m&&Nat.blt 0 m&&Nat.ble (c+m) k&&Nat.beq k' k) (∃ es el,(σ.ig b=g∧gs[i]?=some [.sl es]∧es[j]?=some el)∧Nf (gs.set i [.sl (es.set j (splice el c xs))]) fun r=>K ⟨opd p++opd x++[.ign b,.knd b],(.knd b,.kd (.grid e e' k' r none))::wrT o.dst (.im (.val undef))⟩)
  | _=>False
 | _,_,_=>False
def holeOk (hole:Option Nat) (i:Nat):Prop:=match hole with | none=>True | some h=>h=i
def aStoreG (t:TypeId) (p x:Operand) (b g k i j:Nat):Prop :=
 match szOf P t,evA σ x,σ.kd b with
 | some m,.osl r gr,.grid e e' k' gs hole=>match σ.kd r with
  | .row e2 k2 es=>Chk (Nat.beq m 1&&Nat.beq k 1&&Nat.beq j 0&&Nat.beq e2 e'&&Nat.beq k2 k'&&!Nat.beq r b) (Side (σ.gn b=g∧σ.gn r=gr∧i<gs.length∧holeOk hole i)
    (Nf (gs.set i [.sl es]) fun rr=>K ⟨opd p++opd x++[.gen b,.knd b]++[.ign b,.gen r,.knd r],(.knd r,.kd .dead)::(.ign b,.n (σ.ig b+1))::(.knd b,.kd (.grid e e' k' rr none))::wrT o.dst (.im (.val undef))⟩))
  | _=>False
 | _,_,_=>False
def aLenG (x:Operand) (b g:Nat):Prop :=
 match σ.kd b with
 | .grid _ _ _ gs none=>Side (σ.gn b=g) (Nf gs.length fun n=>K ⟨opd x++[.gen b,.knd b],wrT o.dst (vI n)⟩)
 | _=>False
def aLenS (x:Operand) (b g i:Nat):Prop :=
 match σ.kd b with
 | .grid _ _ _ gs none=>∃ es,(σ.ig b=g∧gs[i]?=some [.sl es])∧Nf es.length fun n=>K ⟨opd x++[.ign b,.knd b],wrT o.dst (vI n)⟩
 | _=>False
def aIndexA (n:Nat) (et:TypeId) (x i:Operand):Prop:=let _:=(P,o,σ,K);False
def aLoadA (t:TypeId) (p:Operand) (b g k i j:Nat):Prop:=let _:=(P,o,σ,K);False
def wholeA (P:Program) (t:TypeId) (k:Nat):Bool:=match intArr P t with
 | some n=>Nat.beq k 1&&Nat.blt 1 n
 | none=>false
def aLenM (x:Operand) (b g:Nat) (l:List (Value×Value)):Prop:=Side (σ.gn b=g) (Nf l.length fun n=>K ⟨opd x++[.gen b,.knd b],wrT o.dst (vI n)⟩)
def zrh:Kd→Bool
 | .grid _ _ _ _ _=>true
 | _=>false
def aSliceQ (t:TypeId) (x:Operand) (b g:Nat) (lo:Operand):Prop :=
 match zir P t,asInt (evA σ lo),σ.kd b,o.dst with
 | some et,some (_,l),.que et' k es,some d=>match szOf P et with
  | some k'=>Chk (Nat.beq k k') (Side (σ.gn b=g∧0≤l∧l.toNat≤es.length)
   (Nf (es.drop l.toNat) fun r=>K ⟨opd x++opd lo++[.gen b,.knd b],(.knd b,.kd .dead)::(zdz σ b (.que et' k r)++[(.tmp d,.av (.osl b (σ.gn b+1)))])⟩))
  | none=>False
 | _,_,_,_=>False
def aSlices (t:TypeId) (x:Operand) (lo hi:Option Operand):Prop :=
 match evA σ x with
 | .osl b g=>match lo,hi with
  | some l,none=>match isQue (σ.kd b) with
   | true=>aSliceQ P o σ K t x b g l
   | false=>aSliceV P o σ K t x b g l
  | none,some h=>aSliceT P o σ K t x b g h
  | _,_=>False
 | _=>aSlice P o σ K t x lo hi
def aIndexes (t:TypeId) (x i:Operand):Prop :=
 match evA σ x with
 | .osv b g k m=>aIndexV P o σ K t x i b g k m
 | .sub b g j=>aIndexS P o σ K t x i b g j
 | .osl b g=>match zrh (σ.kd b) with
  | true=>aIndexG P o σ K t x i b g
  | false=>znr P o σ K t x i
 | _=>match arrOf P t with
  | some (n,et)=>aIndexA P o σ K n et x i
  | none=>znr P o σ K t x i
def aLoads (t:TypeId) (p:Operand):Prop :=
 match evA σ p with
 | .elt2 b g i k j c=>aLoadS P o σ K t p b g i k j c
 | .elt b g k i j=>match zrh (σ.kd b) with
  | true=>aLoadG P o σ K t p b g k i j
  | false=>match wholeA P t k with
   | true=>aLoadA P o σ K t p b g k i j
   | false=>aLoad P o σ K t p
 | _=>aLoad P o σ K t p
def isStr (P:Program) (t:TypeId):Bool:=match P.underlying t with | some .string=>true | _=>false
def aLen (t:TypeId) (x:Operand):Prop :=
 match zir P t with
 | some _=>match evA σ x with
  | .im (.sl es)=>Nf es.length fun n=>K ⟨opd x,wrT o.dst (vI n)⟩
  | .im (.val (.slice _ n _))=>K ⟨opd x,wrT o.dst (vI n)⟩
  | .osl b g=>match esOf (σ.kd b) with
   | some es=>Side (σ.gn b=g) (Nf es.length fun n=>K ⟨opd x++[.gen b,.knd b],wrT o.dst (vI n)⟩)
   | _=>False
  | _=>False
 | none=>match asStr (evA σ x) with
  | some s=>Chk (isStr P t) (K ⟨opd x,wrT o.dst (vI s.size)⟩)
  | none=>False
def aLens (t:TypeId) (x:Operand):Prop :=
 match evA σ x with
 | .osv b g k _=>match zir P t with
  | some _=>aLenV o σ K x b g k
  | none=>False
 | .sub b g i=>match zir P t with
  | some _=>aLenS o σ K x b g i
  | none=>False
 | .osl b g=>match zrh (σ.kd b) with
  | true=>match zir P t with
   | some _=>aLenG o σ K x b g
   | none=>False
  | false=>match mapTy P t,σ.kd b with
   | some _,.map l=>aLenM o σ K x b g l
   | _,_=>aLen P o σ K t x
 | _=>aLen P o σ K t x
def zg9 (σ:St) (b d i:Nat) (e e':TypeId) (k:Nat) (gs es:List (List IV)):List (Loc×Ct) :=
 [(.ign b,.n (σ.ig b+1)),(.knd b,.kd (.grid e e' k gs (some i))),(.gen d,.n (σ.gn d+1)),(.knd d,.kd (.row e' k es))]
def zOk (P:Program) (t:TypeId) (k:Nat):Bool:=match zeroOf P t with | some z=>Nat.beq z.length k | none=>false
def aAppend (t:TypeId) (x y:Operand):Prop :=
 match o.dst,zir P t with
 | some d,some et=>match szOf P et,byteOf P et,fz σ (evA σ y) with
  | some k,some by_,some (.sl new,[])=>match evA σ x with
   | .im (.val (.slice none 0 0))=>Chk (Nat.blt 0 k&&zOk P et k) (Side ((∀ e∈new,e.length=k)∧za7 new.length by_)
     (Nf new fun r=>K ⟨opd x++opd y++[.gen d],zdz σ d (.row et k r)++[(.tmp d,.av (.osl d (σ.gn d+1)))]⟩))
   | .osl b g=>match σ.kd b with
    | .row et' k' es=>Chk (Nat.blt 0 k&&Nat.beq et' et&&Nat.beq k' k&&zOk P et k) (Side (σ.gn b=g∧(∀ e∈new,e.length=k)∧za7 (es.length+new.length) by_)
      (Nf (es++new) fun r=>K ⟨opd x++opd y++[.gen b,.knd b],(.knd b,.kd .dead)::(zdz σ b (.row et k r)++[(.tmp d,.av (.osl b (σ.gn b+1)))])⟩))
    | .que et' k' es=>Chk (Nat.blt 0 k&&Nat.beq et' et&&Nat.beq k' k&&zOk P et k) (Side (σ.gn b=g∧0<new.length∧(∀ e∈new,e.length=k)∧za7 (es.length+new.length) by_)
      (Nf (es++new) fun r=>K ⟨opd x++opd y++[.gen b,.knd b],(.knd b,.kd .dead)::(zdz σ b (.que et k r)++[(.tmp d,.av (.osl b (σ.gn b+1)))])⟩))
    | _=>False
   | .full es=>Chk (Nat.blt 0 k&&zOk P et k) (Side (0<new.length∧(∀ e∈es,e.length=k)∧(∀ e∈new,e.length=k)∧za7 (es.length+new.length) by_)
     (Nf (es++new) fun r=>K ⟨opd x++opd y++[.gen d],zdz σ d (.row et k r)++[(.tmp d,.av (.osl d (σ.gn d+1)))]⟩))
   | _=>False
  | _,_,_=>False
 | _,_=>False
def aAppendS (t:TypeId) (x y:Operand) (b g i:Nat):Prop :=
 match o.dst,zir P t,σ.kd b with
 | some d,some et,.grid e e' k' gs none=>match szOf P et,byteOf P et,fz σ (evA σ y) with
  | some k,some by_,some (.sl new,[])=>Chk (Nat.blt 0 k&&Nat.beq e' et&&Nat.beq k' k&&zOk P et k&&!Nat.beq d b)
    (∃ es,(σ.ig b=g∧gs[i]?=some [.sl es]∧(∀ e∈new,e.length=k)∧za7 (es.length+new.length) by_) ∧
     Nf (es++new) fun r=>K ⟨opd x++opd y++[.ign b,.knd b,.gen d],zg9 σ b d i e e' k' gs es++((.knd d,.kd .dead)::([(.gen d,.n (σ.gn d+2)),(.knd d,.kd (.row et k r))]++[(.tmp d,.av (.osl d (σ.gn d+2)))]))⟩)
  | _,_,_=>False
 | _,_,_=>False
def aAppendT (t:TypeId) (x y:Operand) (b g i b' g' j:Nat):Prop :=
 match o.dst,zir P t,σ.kd b with
 | some d,some et,.grid e e' k' gs none=>match szOf P et,byteOf P et with
  | some k,some by_=>Chk (Nat.blt 0 k&&Nat.beq e' et&&Nat.beq k' k&&zOk P et k&&!Nat.beq d b&&Nat.beq b' b)
    (∃ es new,(σ.ig b=g∧σ.ig b=g'∧i≠j∧gs[i]?=some [.sl es]∧gs[j]?=some [.sl new]∧za7 (es.length+new.length) by_) ∧
     Nf (es++new) fun r=>K ⟨opd x++opd y++[.ign b,.knd b,.gen d],zg9 σ b d i e e' k' gs es++((.knd d,.kd .dead)::([(.gen d,.n (σ.gn d+2)),(.knd d,.kd (.row et k r))]++[(.tmp d,.av (.osl d (σ.gn d+2)))]))⟩)
  | _,_=>False
 | _,_,_=>False
def zgh:IV→List IV
 | .agg cs=>cs
 | .any=>[]
 | .val v=>if v.oneCell'=true then [.val v] else []
 | x=>[x]
def zva (σ:St):Nat→List (Nat×Operand)→Option (List IV×List (Nat×Nat))
 | _,[]=>some ([],[])
 | i,(j,x)::l=>if i=j then match fz σ (evA σ x),zva σ (i+1) l with | some (v,b),some (vs,bs)=>some (v::vs,b++bs) | _,_=>none else none
def opdL (l:List Operand):List Loc:=l.flatMap opd
def zlq (t:TypeId) (len:Nat) (parts:Array (Nat×Operand)):Prop :=
 match o.dst,zir P t with
 | some d,some et=>match szOf P et,zva σ 0 parts.toList with
  | some k,some (vs,bs)=>Chk (Nat.beq vs.length len&&Nat.ble (len*k) 65536&&Nat.blt 0 k&&zOk P et k&&vs.all fun v=>Nat.beq (zgh v).length k)
   (zqy σ bs (if own.contains d=true then K ⟨opdL (parts.toList.map (·.2))++frd σ bs++[.gen d],fwr bs++(zdz σ d (.row et k (vs.map zgh))++[(.tmp d,.av (.osl d (σ.gn d+1)))])⟩
   else if own.contains (9500000+d)=true then K ⟨opdL (parts.toList.map (·.2))++frd σ bs,fwr bs++[(.tmp d,.av (.im (.nsl (vs.map zgh))))]⟩
   else K ⟨opdL (parts.toList.map (·.2))++frd σ bs,fwr bs++[(.tmp d,.av (.im (.sl (vs.map zgh))))]⟩))
  | _,_=>False
 | _,_=>False
def aBuildG (t:TypeId) (len:Nat) (parts:Array (Nat×Operand)):Prop:=let _:=(P,o,σ,K);False
def aAppendG (t:TypeId) (x y:Operand) (c gc:Nat):Prop :=
 match o.dst,zir P t,σ.kd c with
 | some d,some et,.grid e e' k hs none=>match szOf P et,byteOf P et,evA σ x with
  | some m,some by_,.osl b gb=>match σ.kd b with
   | .grid e1 e1' k1 gs none=>Chk (Nat.beq m 1&&Nat.beq e et&&Nat.beq e1 et&&Nat.beq e1' e'&&Nat.beq k1 k&&zOk P et 1&&!Nat.beq b c) (zqy σ [(b,gb),(c,gc)] (Side (za7 (gs.length+hs.length) by_)
     (Nf (gs++hs) fun r=>K ⟨opd x++opd y++frd σ [(b,gb),(c,gc)]++zse [(d,.grid et e' k r none)],fwr [(b,gb),(c,gc)]++(zc1 σ [(d,.grid et e' k r none)]++[(.tmp d,.av (.osl d (σ.gn d+1)))])⟩)))
   | _=>False
  | _,_,_=>False
 | _,_,_=>False
def zh7 {α:Type} (cs:List α):Nat→List α→List α
 | _,[]=>cs
 | i,c::r=>zh7 (cs.set i c) (i+1) r
def buildA (P:Program) (t:TypeId) (σ:St):List (Nat×Operand)→List AV→Option (List AV)
 | [],cs=>some cs
 | (i,x)::l,cs=>match fldOf P t i,zok (evA σ x) with
  | some (off,ft),some vs=>match szOf P ft with | some m=>if (Nat.beq m vs.length&&Nat.ble (off+vs.length) cs.length)=true then buildA P t σ l (zh7 cs off vs) else none | none=>none
  | _,_=>none
def plcOf (P:Program) (t:TypeId):Option (List (Nat×Nat)):=match P.underlying t with | some (.struct fs)=>fs.toList.mapM (fun f=>(P.info? f.type).map fun i=>(f.offset,i.size)) | _=>none
def aBuild (t:TypeId) (parts:Array (Nat×Operand)):Prop :=
 match zeroOf P t with
 | some z=>match buildA P t σ parts.toList (z.map fun v=>.im (.val v)) with
  | some cs=>Chk ((plcOf P t).isSome&&z.all (·.oneCell')) (K ⟨opdL (parts.toList.map (·.2)),wrT o.dst (aggA cs)⟩)
  | none=>False
 | none=>False
def buildG (pl:Nat→Option (Nat×Nat)) (σ:St):List (Nat×Operand)→List AV→Option (List AV)
 | [],cs=>some cs
 | (i,x)::l,cs=>match pl i,zok (evA σ x) with
  | some (off,m),some vs=>if (Nat.beq m vs.length&&Nat.ble (off+vs.length) cs.length)=true then buildG pl σ l (zh7 cs off vs) else none
  | _,_=>none
def aBuildR (t et:TypeId) (parts:Array (Nat×Operand)):Prop :=
 match zeroOf P t,szOf P et with
 | some z,some m=>match buildG (fun i=>some (i*m,m)) σ parts.toList (z.map fun v=>.im (.val v)) with
  | some cs=>Chk (z.all (·.oneCell')) (K ⟨opdL (parts.toList.map (·.2)),wrT o.dst (aggA cs)⟩)
  | none=>False
 | _,_=>False
def aBuilds (t:TypeId) (parts:Array (Nat×Operand)):Prop :=
 match arrOf P t with
 | some (_,et)=>aBuildR P o σ K t et parts
 | none=>aBuild P o σ K t parts
def aIndexX (t:TypeId) (x i:Operand):Prop :=
 match arrOf P t,aggCs (evA σ x),asInt (evA σ i) with
 | some (n,et),some cs,some (_,j)=>match zv1 P et,szOf P et with
  | some true,some m=>Chk (Nat.beq n 2&&Nat.ble (m+m) cs.length) (Both (decide (j=0)) (K ⟨opd x++opd i,wrT o.dst (aggA (cs.take m))⟩) (Side (j=1) (K ⟨opd x++opd i,wrT o.dst (aggA ((cs.drop m).take m))⟩)))
  | _,_=>False
 | _,_,_=>False
def aExtract (x:Operand) (i:Nat):Prop :=
 match evA σ x with
 | .tup l=>match l[i]? with
  | some v=>K ⟨opd x,wrT o.dst v⟩
  | none=>False
 | _=>False
def isBl (P:Program) (t:TypeId):Bool:=match P.underlying t with | some .bool=>true | _=>false
def isShr:BinOp→Bool
 | .shr=>true
 | _=>false
def isAdd:BinOp→Bool
 | .add=>true
 | _=>false
def aBin (op:BinOp) (t:TypeId) (x y:Operand):Prop :=
 match isShr op with
 | true=>match asInt (evA σ x),asInt (evA σ y),P.underlying t with
  | some (k,a),some (_,b),some (.int k')=>Chk (decide (k=k')&&decide (k=.u64)) (Side (rng k (a / 2^b.toNat)∧0≤a∧0≤b∧b≤62) (K ⟨opd x++opd y,wrT o.dst (.im (.val (.int k (a / 2^b.toNat))))⟩))
  | _,_,_=>False
 | false=>match asStr (evA σ x),asStr (evA σ y) with
 | some a,some b=>Chk (isStr P t&&isAdd op) (Side (a.size+b.size≤9223372036854775807) (K ⟨opd x++opd y,wrT o.dst (.im (.val (.string (a++b))))⟩))
 | _,_=>match asInt (evA σ x),asInt (evA σ y) with
 | some (k,a),some (k',b)=>Chk (decide (k=k')) (match op with
  | .add=>za8 k (a+b) fun n=>K ⟨opd x++opd y,wrT o.dst (.im (.val (.int k n)))⟩
  | .sub=>za8 k (a-b) fun n=>K ⟨opd x++opd y,wrT o.dst (.im (.val (.int k n)))⟩
  | .mul=>za8 k (a*b) fun n=>K ⟨opd x++opd y,wrT o.dst (.im (.val (.int k n)))⟩
  | .quo=>Side (rng k (a / b)∧0≤a∧1≤b) (K ⟨opd x++opd y,wrT o.dst (.im (.val (.int k (a / b))))⟩)
  | .rem=>Side (rng k (a%b)∧0≤a∧1≤b) (K ⟨opd x++opd y,wrT o.dst (.im (.val (.int k (a%b))))⟩)
  | .xor=>K ⟨opd x++opd y,wrT o.dst (.im (.val (.int k (xorK k a b))))⟩
  | .eql=>K ⟨opd x++opd y,wrT o.dst (vB (decide (a=b)))⟩
  | .neq=>K ⟨opd x++opd y,wrT o.dst (vB (decide (a≠b)))⟩
  | .lss=>K ⟨opd x++opd y,wrT o.dst (vB (decide (a<b)))⟩
  | .leq=>K ⟨opd x++opd y,wrT o.dst (vB (decide (a≤b)))⟩
  | .gtr=>K ⟨opd x++opd y,wrT o.dst (vB (decide (b<a)))⟩
  | .geq=>K ⟨opd x++opd y,wrT o.dst (vB (decide (b≤a)))⟩
  | _=>False)
 | _,_=>match asBool (evA σ x),asBool (evA σ y) with
  | some a,some b=>match op with
   | .eql=>Chk (isBl P t) (K ⟨opd x++opd y,wrT o.dst (vB (a==b))⟩)
   | .neq=>Chk (isBl P t) (K ⟨opd x++opd y,wrT o.dst (vB (!(a==b)))⟩)
   | _=>False
  | _,_=>False
def eqCs:List AV→List AV→Option Bool
 | [],[]=>some true
 | x::xs,y::ys=>match asInt x,asInt y,eqCs xs ys with
  | some (k,a),some (k',b),some r=>match decide (k=k') with
   | true=>some (decide (a=b)&&r)
   | false=>none
  | _,_,_=>none
 | _,_=>none
def intF (P:Program) (f:Field) (i:Nat):Bool:=decide (f.name≠"_")&&Nat.beq f.offset i&&(match P.underlying f.type with | some (.int _)=>true | _=>false)
def intFs (P:Program):Nat→List Field→Bool
 | _,[]=>true
 | i,f::fs=>intF P f i&&intFs P (i+1) fs
def eqT (P:Program) (t:TypeId) (n:Nat):Bool:=match P.underlying t with
 | some (.struct fs)=>Nat.beq fs.toList.length n&&intFs P 0 fs.toList&&!P.stoodInHeld t&&!P.eqGuardType P.depth t
 | _=>false
def aBinS (op:BinOp) (t:TypeId) (x y:Operand):Prop :=
 match aggCs (evA σ x),aggCs (evA σ y) with
 | some xs,some ys=>match eqCs xs ys with
  | some r=>Side (eqT P t xs.length=true) (match op with
   | .eql=>Nf r fun r=>K ⟨opd x++opd y,wrT o.dst (vB r)⟩
   | .neq=>Nf r fun r=>K ⟨opd x++opd y,wrT o.dst (vB (!r))⟩
   | _=>False)
  | none=>False
 | _,_=>False
def isPt (P:Program) (t:TypeId):Bool:=match P.underlying t with | some (.pointer _)=>true | _=>false
def nilP:AV→Option Bool
 | .im (.val (.pointer none))=>some true
 | .im (.val (.pointer (some _)))=>some false
 | .im (.ref _)=>some false
 | _=>none
def aBinN (op:BinOp) (x y:Operand):Prop :=
 match nilP (evA σ x),nilP (evA σ y) with
 | some b,some true=>match op with
  | .eql=>K ⟨opd x++opd y,wrT o.dst (vB b)⟩
  | .neq=>K ⟨opd x++opd y,wrT o.dst (vB (!b))⟩
  | _=>False
 | _,_=>False
def isSl (P:Program) (t:TypeId):Bool:=match P.underlying t with | some (.slice _)=>true | _=>false
def nilS (x:AV) (b:Bool):Prop:=match x with
 | .im v=>(b=true∧v=.val (.slice none 0 0))∨(b=false∧∃ es,v=.nsl es)
 | _=>False
def isNilC:AV→Bool
 | .im (.val (.slice none 0 0))=>true
 | _=>false
def aBinZ (op:BinOp) (x y:Operand):Prop :=
 match isNilC (evA σ y) with
 | true=>∃ b,nilS (evA σ x) b∧(match op with
  | .eql=>K ⟨opd x++opd y,wrT o.dst (vB b)⟩
  | .neq=>K ⟨opd x++opd y,wrT o.dst (vB (!b))⟩
  | _=>False)
 | false=>False
def aBins (op:BinOp) (t:TypeId) (x y:Operand):Prop :=
 match zv1 P t with
 | some true=>aBinS P o σ K op t x y
 | _=>match isPt P t with
  | true=>aBinN o σ K op x y
  | false=>match isSl P t with
   | true=>aBinZ o σ K op x y
   | false=>aBin P o σ K op t x y
def aUn (op:UnOp) (x:Operand):Prop :=
 match op,asBool (evA σ x) with
 | .not,some b=>K ⟨opd x,wrT o.dst (vB (!b))⟩
 | .neg,_=>match asInt (evA σ x) with
  | some (k,n)=>za8 k (0-n) fun m=>K ⟨opd x,wrT o.dst (.im (.val (.int k m)))⟩
  | none=>False
 | _,_=>False
def aConvert (dst:TypeId) (x:Operand):Prop :=
 match asInt (evA σ x),P.underlying dst with
 | some (_,n),some (.int k)=>Side (rng k n) (K ⟨opd x,wrT o.dst (.im (.val (.int k n)))⟩)
 | _,_=>False
def aMax (x y:Operand):Prop :=
 match asInt (evA σ x),asInt (evA σ y) with
 | some (k,a),some (k',b)=>Chk (decide (k=k')) (K ⟨opd x++opd y,wrT o.dst (.im (.val (.int k (max a b))))⟩)
 | _,_=>False
def aMin (x y:Operand):Prop :=
 match asInt (evA σ x),asInt (evA σ y) with
 | some (k,a),some (k',b)=>Chk (decide (k=k')) (K ⟨opd x++opd y,wrT o.dst (.im (.val (.int k (min a b))))⟩)
 | _,_=>False
def aMin3 (x y z:Operand):Prop :=
 match asInt (evA σ x),asInt (evA σ y),asInt (evA σ z) with
 | some (k,a),some (k',b),some (k'',c)=>Chk (decide (k=k')&&decide (k=k'')) (K ⟨opd x++opd y++opd z,wrT o.dst (.im (.val (.int k (min (min a b) c))))⟩)
 | _,_,_=>False
variable (C:FuncId→List Arg→Rs→Prop)
def ndB:List Nat→List Nat→Bool
 | [],_=>true
 | a::l,bs=>!(l.contains a)&&!(bs.contains a)&&ndB l bs
def fzS (σ:St) (nn:Bool) (cs:List AV):Option (List IV×List (Nat×Nat)):=match nn with
 | false=>fzL σ cs
 | true=>match cs with
  | [.im (.nsl ys)]=>some ([.nsl ys],[])
  | [.osl c g]=>match σ.kd c with
   | .row _ _ ys=>some ([.nsl ys],[(c,g)])
   | _=>none
  | _=>none
def nslS (σ:St) (nn:Bool) (cs:List AV) (A:Prop):Prop:=match nn with
 | false=>A
 | true=>match cs with
  | [.osl c _]=>match σ.kd c with
   | .row _ _ ys=>Side (0<ys.length) A
   | _=>A
  | _=>A
def aStoreE (t:TypeId) (p x:Operand) (b g k i j:Nat):Prop :=
 match szOf P t,zok (evA σ x),σ.kd b with
 | some m,some cs,.row et k' es=>match fzS σ (own.contains (9600000+b)) cs with
  | some (xs,bs)=>Chk (Nat.beq cs.length m&&Nat.blt 0 m&&Nat.ble (j+m) k&&Nat.beq k' k&&ndB [b] (bs.map (·.1)))
   (zqy σ ((b,g)::bs) (∃ e,es[i]?=some e∧nslS σ (own.contains (9600000+b)) cs (Nf (es.set i (splice e j xs)) fun r=>K ⟨opd p++opd x++frd σ ((b,g)::bs),fwr bs++((.knd b,.kd (.row et k r))::wrT o.dst (.im (.val undef)))⟩)))
  | none=>False
 | _,_,_=>False
def nilF:List Nat→Nat→Option (Nat×Nat)
 | [],_=>none
 | x::l,key=>match Nat.beq (Nat.div x 1000000000) key with
  | true=>some (Nat.div (Nat.mod x 1000000000) 100,Nat.mod x 100)
  | false=>nilF l key
def nilH (own:List Nat) (d i j:Nat):Option (Nat×Nat):=nilF own (Nat.succ (Nat.add (Nat.mul (Nat.add (Nat.mul d 16) i) 64) j))
def nilRow (x:IV) (e k:Nat):Option Kd:=match x with
 | .val (.slice none 0 0)=>match k with
  | 0=>none
  | k+1=>some (.row e (k+1) [])
 | _=>none
def objG (σ:St) (p:Nat):Option Kd:=match σ.kd p with
 | .dead=>none
 | .box _ _=>none
 | .bag _ _ _ _ _=>none
 | .mapI _ _=>none
 | .que _ _ _=>none
 | k=>some k
def zv7 (σ:St) (own:List Nat) (d i j:Nat):AV→Option (Oc×List (Nat×Nat))
 | .im x=>match nilH own d i j with
  | some (e,k)=>match nilRow x e k with
   | some q=>some (.ow q,[])
   | none=>none
  | none=>some (.im (nz1 x),[])
 | .osl p g=>match objG σ p with
  | some k=>some (.ow k,[(p,g)])
  | none=>none
 | _=>none
def holeH (own:List Nat) (d i j:Nat):Bool:=own.contains (Nat.add 1000000000000000000 (Nat.add (Nat.mul (Nat.add (Nat.mul d 16) i) 64) j))
def cellG (σ:St) (own:List Nat) (d i j:Nat) (a:AV):Option (Oc×List (Nat×Nat)):=match holeH own d i j with
 | true=>some (.im .any,[])
 | false=>zv7 σ own d i j a
def isAny:Oc→Bool
 | .im .any=>true
 | _=>false
def fillC (v:Value) (h:Bool) (c:Oc):Oc:=match h with
 | true=>match isAny c with
  | true=>.im (.ex v)
  | false=>c
 | false=>c
def fillCs (h:Nat→Bool) (V:Nat→Value):Nat→List Oc→List Oc
 | _,[]=>[]
 | j,c::l=>fillC (V j) (h j) c::fillCs h V (j+1) l
def fillA (own:List Nat) (d i:Nat) (V:Nat→Nat→Value):Arg→Arg
 | .box t cs=>.box t (fillCs (holeH own d i) (V i) 0 cs)
 | x=>x
def fillX (own:List Nat) (d:Nat) (V:Nat→Nat→Value):Nat→List Arg→List Arg
 | _,[]=>[]
 | i,x::l=>fillA own d i V x::fillX own d V (i+1) l
def fillY (own:List Nat) (d:Nat) (V:Nat→Nat→Value):List (Nat×Nat)→List Arg→List Arg
 | [],l=>l
 | _,[]=>[]
 | (_,i)::bx,x::l=>fillA own d i V x::fillY own d V bx l
def hlC (own:List Nat) (d i b:Nat):Nat→List Oc→List (Nat×Nat)
 | _,[]=>[]
 | j,c::l=>match holeH own d i j,isAny c with
  | true,true=>(b,j)::hlC own d i b (j+1) l
  | _,_=>hlC own d i b (j+1) l
def hlY (own:List Nat) (d:Nat):List (Nat×Nat)→List Arg→List (Nat×Nat)
 | (b,i)::bx,y::l=>match y with
  | .box _ cs=>hlC own d i b 0 cs++hlY own d bx l
  | _=>hlY own d bx l
 | _,_=>[]
def memB (b:Nat):List Nat→Bool
 | []=>false
 | x::l=>match Nat.beq x b with
  | true=>true
  | false=>memB b l
def memC (b j:Nat):List (Nat×Nat)→Bool
 | []=>false
 | x::l=>match Nat.beq x.1 b&&Nat.beq x.2 j with
  | true=>true
  | false=>memC b j l
def keepL (bs:List Nat) (hs:List (Nat×Nat)):Loc→Bool
 | .knd b=>!memB b bs
 | .cel b j=>!memC b j hs
 | _=>true
def zrt (σ:St) (own:List Nat) (d i:Nat):Nat→List AV→Option (List Oc×List (Nat×Nat))
 | _,[]=>some ([],[])
 | j,c::l=>match cellG σ own d i j c,zrt σ own d i (j+1) l with
  | some (x,gs),some (xs,gs')=>some (x::xs,gs++gs')
  | _,_=>none
def lentG (own:List Nat) (d i:Nat) (k:Kd):Arg:=match own.contains (2000000+(1000*(d+1)+i)) with
 | true=>.lent k
 | false=>.ow k
def argG (σ:St) (own:List Nat) (d i:Nat) (a:AV):Option (Arg×List (Nat×Nat)×List (Nat×Nat)):=match own.contains (1000*(d+1)+i) with
 | true=>match a with
  | .osl b g=>match objG σ b with
   | some k=>some (lentG own d i k,[],[(b,g)])
   | none=>none
  | .own b g 0=>match σ.kd b with
   | .box t _=>match zrt σ own d i 0 (zrd σ b) with
    | some (cs,gs)=>some (.box t cs,[],(b,g)::gs)
    | none=>none
   | _=>none
  | .im x=>match nilH own d i 63 with
   | some (e,k)=>match nilRow x e k with
    | some q=>some (.ow q,[],[])
    | none=>none
   | none=>none
  | _=>none
 | false=>match own.contains (4000000+(1000*(d+1)+i)) with
  | true=>match a with
   | .im x=>some (.im x,[],[])
   | _=>none
  | false=>match fz σ a with
   | some (x,bs)=>some (.im x,bs,[])
   | none=>none
def zlh (σ:St) (own:List Nat) (d:Nat):Nat→List AV→Option (List Arg×List (Nat×Nat)×List (Nat×Nat))
 | _,[]=>some ([],[],[])
 | i,a::l=>match argG σ own d i a,zlh σ own d (i+1) l with
  | some (x,bs,gs),some (xs,bs',gs')=>some (x::xs,bs++bs',gs++gs')
  | _,_=>none
def bxG (own:List Nat) (d:Nat):Nat→List AV→List (Nat×Nat)
 | _,[]=>[]
 | i,a::l=>match own.contains (1000*(d+1)+i) with
  | true=>match a with
   | .own b _ _=>(b,i)::bxG own d (i+1) l
   | .osl b _=>match own.contains (2000000+(1000*(d+1)+i)) with
    | true=>(b,i)::bxG own d (i+1) l
    | false=>bxG own d (i+1) l
   | _=>bxG own d (i+1) l
  | false=>bxG own d (i+1) l
def cellNm (σ:St) (b i j:Nat):Nat:=match σ.ce b j with
 | .osl p _=>p
 | _=>nmC i j
inductive LK where
 | box (t:TypeId) (al:List AV)
 | obj (k:Kd)
def flatK:Kd→Bool
 | .row _ _ _=>true
 | .map _=>true
 | _=>false
def bxPl (σ:St):List (Nat×Nat)→List Arg→Option (List (Nat×LK)×List (Nat×Kd))
 | [],[]=>some ([],[])
 | (b,i)::bx,.box t cs::ys=>match zbz σ (cellNm σ b i) 0 cs,bxPl σ bx ys with
  | (al,ss),some (l,ss')=>some ((b,.box t al)::l,ss++ss')
  | _,none=>none
 | (b,_)::bx,.lent k::ys=>match flatK k,bxPl σ bx ys with
  | true,some (l,ss')=>some ((b,.obj k)::l,ss')
  | _,_=>none
 | _,_=>none
def lkWr (b:Nat):LK→List (Loc×Ct)
 | .box t al=>(.knd b,.kd (.box t al.length))::zgg b 0 al
 | .obj k=>[(.knd b,.kd k)]
def bxWr:List (Nat×LK)→List (Loc×Ct)
 | []=>[]
 | (b,x)::l=>lkWr b x++bxWr l
def resV (tp:Bool) (al:List AV):Option AV:=match tp with
 | true=>some (.tup al)
 | false=>match al with
  | [a]=>some a
  | _=>none
def zgn (tp:Bool) (d i:Nat):Nat:=match tp with
 | true=>nmR d i
 | false=>d
def aCall (f:Operand) (args:List Operand):Prop :=
 match o.dst,(match evA σ f with | .im (.fn g caps)=>some (g,caps.map AV.im) | .fn g caps=>some (g,caps) | _=>none) with
 | some d,some (g,caps)=>match zlh σ own d 0 (args.map (evA σ)++caps) with
  | some (xs,bs,gs)=>Chk (ndB (gs.map (·.1)) (bs.map (·.1))) (zqy σ (bs++gs) (∃ r,C g xs r∧match r with
   | .mk tp l ys=>match zbz σ (zgn tp d) 0 l,bxPl σ (bxG own d 0 (args.map (evA σ)++caps)) ys with
    | (al,ss),some (bl,ss')=>match resV tp al with
     | some v=>Chk (ndB ((ss++ss').map (·.1)) (bl.map (·.1))) (match own.contains (500000+d) with
      | true=>Side (flatRs (.mk tp l ys)) (K ⟨opd f++opdL args++frd σ (bs++gs)++zse (ss++ss'),fwr gs++(zc1 σ (ss++ss')++(bxWr bl++[(.tmp d,.av v)]))⟩)
      | false=>K ⟨opd f++opdL args++frd σ (bs++gs)++zse (ss++ss'),fwr bs++(fwr gs++(zc1 σ (ss++ss')++(bxWr bl++[(.tmp d,.av v)])))⟩)
     | none=>False
    | _,none=>False))
  | none=>False
 | _,_=>False
def aCallA (f:Operand) (args:List Operand):Prop:=let _:=(own,o,σ,K,C);False
def aCallR (f:Operand) (args:List Operand):Prop:=let _:=(own,o,σ,K,C);False
def bxN:List (Nat×LK)→List Nat
 | []=>[]
 | (b,.box _ _)::l=>b::bxN l
 | (_,.obj _)::l=>bxN l
def sameBx (σ:St):List (Nat×LK)→Bool
 | []=>true
 | (b,.box t al)::l=>(match σ.kd b with | .box t' m=>Nat.beq t' t&&Nat.beq m al.length | _=>false)&&sameBx σ l
 | (_,.obj _)::l=>sameBx σ l
def keepW (bs:List Nat) (hs:List (Nat×Nat)):List (Loc×Ct)→List (Loc×Ct)
 | []=>[]
 | p::l=>match keepL bs hs p.1 with
  | true=>p::keepW bs hs l
  | false=>keepW bs hs l
def aCallH (f:Operand) (args:List Operand):Prop :=
 match o.dst,(match evA σ f with | .im (.fn g caps)=>some (g,caps.map AV.im) | .fn g caps=>some (g,caps) | _=>none) with
 | some d,some (g,caps)=>match zlh σ own d 0 (args.map (evA σ)++caps) with
  | some (xs,bs,gs)=>Chk (ndB (gs.map (·.1)) (bs.map (·.1))) (zqy σ (bs++gs) (∃ (tp:Bool) (l:List Oc) (ys:List Arg),(∀ V:Nat→Nat→Value,C g (fillX own d V 0 xs) (.mk tp l (fillY own d V (bxG own d 0 (args.map (evA σ)++caps)) ys))) ∧
   match zbz σ (zgn tp d) 0 l,bxPl σ (bxG own d 0 (args.map (evA σ)++caps)) ys with
    | (al,ss),some (bl,ss')=>match resV tp al with
     | some v=>Chk (ndB ((ss++ss').map (·.1)) (bl.map (·.1))&&sameBx σ bl) (K ⟨opd f++opdL args++frd σ (bs++gs)++zse (ss++ss'),
       keepW (bxN bl) (hlY own d (bxG own d 0 (args.map (evA σ)++caps)) ys) (fwr bs++(fwr gs++(zc1 σ (ss++ss')++bxWr bl)))++[(.tmp d,.av v)]⟩)
     | none=>False
    | _,none=>False))
  | none=>False
 | _,_=>False
def zug (x:Operand):Prop :=
 match evA σ x with
 | .own b g i=>Side (σ.gn b=g) (K ⟨opd x++[.gen b],wrT o.dst (.own b g i)⟩)
 | .im (.ref cs)=>K ⟨opd x,wrT o.dst (.im (.ref cs))⟩
 | .im (.fn f caps)=>K ⟨opd x,wrT o.dst (.im (.fn f caps))⟩
 | .fn f caps=>K ⟨opd x,wrT o.dst (.fn f caps)⟩
 | _=>False
def zqk (t:TypeId) (len cap:Operand):Prop :=
 match o.dst,zir P t with
 | some d,some et=>match asInt (evA σ len),asInt (evA σ cap),szOf P et,zeroOf P et,byteOf P et with
  | some (.i64,l),some (.i64,c),some k,some z,some by_=>Chk (Nat.blt 0 k&&zOk P et k&&z.all (·.oneCell')) (Side (0≤l∧l≤c∧za7 c.toNat by_) (match own.contains (600000+d) with
   | true=>match zir P et with
    | some e'=>match szOf P e' with
     | some k'=>Chk (Nat.beq k 1&&(match z with | [.slice none 0 0]=>true | _=>false)&&Nat.blt 0 k') (Nf (List.replicate l.toNat [IV.sl []]) fun r=>K ⟨opd len++opd cap++[.gen d,.ign d],zgk σ d (.grid et e' k' r none)++[(.tmp d,.av (.osl d (σ.gn d+1)))]⟩)
     | none=>False
    | none=>False
   | false=>match own.contains (6000000+d) with
    | true=>Nf (List.replicate l.toNat (z.map fun v=>nz1 (.val v))) fun r=>K ⟨opd len++opd cap,[(.tmp d,.av (.im (.sl r)))]⟩
    | false=>Nf (List.replicate l.toNat (z.map fun v=>mkZ own d v)) fun r=>K ⟨opd len++opd cap++[.gen d],zdz σ d (.row et k r)++[(.tmp d,.av (.osl d (σ.gn d+1)))]⟩))
  | _,_,_,_,_=>False
 | _,_=>False
def keyD (P:Program) (kt:TypeId):Option TypeDesc:=match P.underlying kt with
 | some (.int k)=>some (.int k)
 | some .string=>some .string
 | some .bool=>some .bool
 | _=>none
def findV (D:TypeDesc) (k:Value):List (Value×Value)→Option (Option Value)
 | []=>some none
 | p::l=>match Instr.sameNow D k p.1 with
  | some true=>some (some p.2)
  | some false=>findV D k l
  | none=>none
def setV (D:TypeDesc) (k v:Value):List (Value×Value)→Option (List (Value×Value))
 | []=>some [(k,v)]
 | p::l=>match Instr.sameNow D k p.1 with
  | some true=>some ((k,v)::l)
  | some false=>(setV D k v l).map (p::·)
  | none=>none
def asVal:AV→Option Value
 | .im (.val v)=>some v
 | _=>none
def zeroV (P:Program) (t:TypeId):Option Value:=match P.info? t with | some i=>i.zero | none=>none
def aMakeMap (t:TypeId) (r:Option Operand):Prop :=
 match o.dst,r with
 | some d,none=>K ⟨[.gen d],zdz σ d (.map [])++[(.tmp d,.av (.osl d (σ.gn d+1)))]⟩
 | _,_=>False
def aLookup (t:TypeId) (x i:Operand) (ok:Bool):Prop :=
 match mapTy P t,evA σ x,asVal (evA σ i) with
 | some (kt,et),.osl b g,some kv=>match σ.kd b,keyD P kt,zeroV P et with
  | .map l,some D,some z=>Side (σ.gn b=g) (∃ r,findV D kv l=some r∧Nf (r.getD z) fun v=>match ok with
   | true=>Nf r.isSome fun is=>K ⟨opd x++opd i++[.gen b,.knd b],wrT o.dst (.tup [.im (.val v),vB is])⟩
   | false=>K ⟨opd x++opd i++[.gen b,.knd b],wrT o.dst (.im (.val v))⟩)
  | _,_,_=>False
 | _,_,_=>False
def keyArr (P:Program) (t:TypeId):Option Nat:=match mapTy P t with | some (k,_)=>intArr P k | none=>none
def aLookupA (n:Nat) (t:TypeId) (x i:Operand) (ok:Bool):Prop:=let _:=(P,o,σ,K);False
def zup (n:Nat) (t:TypeId) (x i y:Operand):Prop:=let _:=(P,o,σ,K);False
def zq6 (t:TypeId) (x i y:Operand):Prop :=
 match mapTy P t,evA σ x,asVal (evA σ i),asVal (evA σ y) with
 | some (kt,_),.osl b g,some kv,some v=>match σ.kd b,keyD P kt with
  | .map l,some D=>Side (σ.gn b=g) (∃ l',setV D kv v l=some l'∧K ⟨opd x++opd i++opd y++[.gen b,.knd b],(.knd b,.kd (.map l'))::wrT o.dst (.im (.val undef))⟩)
  | _,_=>False
 | _,_,_,_=>False
def aDelete (t:TypeId) (x i:Operand):Prop:=let _:=(P,o,σ,K);False
def capF (σ:St) (own:List Nat):List Operand→Option (List AV×List (Nat×Nat)×List (Nat×IV))
 | []=>some ([],[],[])
 | x::l=>match capF σ own l with
  | some (vs,bs,ws)=>match x with
   | .tmp t=>match own.contains (800000+t) with
    | true=>match fz2 σ (σ.av t) with
     | some (y,b)=>some (.im y::vs,b++bs,(t,y)::ws)
     | none=>none
    | false=>some (σ.av t::vs,bs,ws)
   | x=>some (evA σ x::vs,bs,ws)
  | none=>none
def wrI (ws:List (Nat×IV)):List (Loc×Ct):=ws.map fun p=>(.tmp p.1,.av (.im p.2))
def zt8 (fn:Fn) (first captured:Array Operand):Prop :=
 match fn with
 | .func g=>match capF σ own captured.toList with
  | some (vs,bs,ws)=>Chk first.isEmpty (zqy σ bs (K ⟨opdL captured.toList++frd σ bs,fwr bs++(wrI ws++wrT o.dst (.fn g vs))⟩))
  | none=>False
 | _=>False
def aBuiltin (b:Builtin) (args:List Operand) (ts:List TypeId):Prop :=
 match b with
 | .len=>match args with
  | [x]=>match ts with
   | t::_=>aLens P o σ K t x
   | []=>False
  | _=>False
 | .append=>match args with
  | [x,y]=>match ts with
   | [t,t']=>Chk (Nat.beq t' t) (match evA σ x with
    | .sub b g i=>match evA σ y with
     | .sub b' g' j=>aAppendT P o σ K t x y b g i b' g' j
     | _=>aAppendS P o σ K t x y b g i
    | _=>match evA σ y with
     | .osl c gc=>aAppendG P o σ K t x y c gc
     | _=>aAppend P o σ K t x y)
   | _=>False
  | _=>False
 | .max=>match args with
  | [x,y]=>aMax o σ K x y
  | _=>False
 | .min=>match args with
  | [x,y]=>aMin o σ K x y
  | [x,y,z]=>aMin3 o σ K x y z
  | _=>False
 | .clear=>match args,ts with
  | [x],t::_=>aClear P o σ K t x
  | _,_=>False
 | .copy=>match args,ts with
  | [x,y],[t,_]=>aCopy P o σ K t x y
  | _,_=>False
 | .delete=>match args,ts with
  | [x,y],[t,_]=>aDelete P o σ K t x y
  | _,_=>False
 | _=>False
def aCalls (c:Call):Prop :=
 match c.callee with
 | .builtin b=>aBuiltin P o σ K b c.args.toList c.argTypes.toList
 | .value f=>match o.dst with
  | some d=>match own.contains (900000+d) with
   | true=>aCallH own o σ K C f c.args.toList
   | false=>match own.contains (8000000+d) with
    | true=>match own.contains (8700000+d) with
     | true=>aCallR own o σ K C f c.args.toList
     | false=>aCallA own o σ K C f c.args.toList
    | false=>aCall own o σ K C f c.args.toList
  | none=>False
 | _=>False
def aMoves (x:Operand):Prop :=
 match o.dst with
 | some d=>match own.contains (8000000+d) with
  | true=>match fz σ (evA σ x) with
   | some (y,bs)=>zqy σ bs (K ⟨opd x++frd σ bs,fwr bs++[(.tmp d,.av (.im y))]⟩)
   | none=>False
  | false=>K ⟨opd x,[(.tmp d,.av (evA σ x))]⟩
 | none=>K ⟨opd x,[]⟩
def aOp:Prop :=
 match o.op with
 | .move x | .assign x=>aMoves own o σ K x
 | .pick c a b=>aPick o σ K c a b
 | .load t p=>aLoads P o σ K t p
 | .store t p x=>match evA σ p with
  | .elt b g k i j=>match zrh (σ.kd b) with
   | true=>aStoreG P o σ K t p x b g k i j
   | false=>aStoreE P own o σ K t p x b g k i j
  | .elt2 b g i k j c=>aStoreS P o σ K t p x b g i k j c
  | _=>aStore P o σ K t p x
 | .box t x=>aBox own o σ K t x
 | .alloc t=>aAllocs P o σ K t
 | .fieldAddr t p f=>zqr P o σ K t p f
 | .field t x f=>aField P o σ K t x f
 | .indexAddr t x i=>aIndexes P o σ K t x i
 | .slice t x lo hi mx=>match mx with
  | none=>aSlices P o σ K t x lo hi
  | some m=>aSlice3 P o σ K t x lo hi m
 | .build t parts=>aBuilds P o σ K t parts
 | .index t x i=>aIndexX P o σ K t x i
 | .buildSlice t len parts=>match o.dst with
  | some d=>match own.contains (9000000+d) with
   | true=>aBuildG P o σ K t len parts
   | false=>zlq P own o σ K t len parts
  | none=>False
 | .extract x i=>aExtract o σ K x i
 | .binOp op t x y _=>aBins P o σ K op t x y
 | .unOp op _ x=>aUn o σ K op x
 | .convert src dst x=>Chk (P.underlying src).isSome (aConvert P o σ K dst x)
 | .makeFunc fn first captured=>zt8 own o σ K fn first captured
 | .nilCheck x=>zug o σ K x
 | .makeSlice t len cap=>zqk P own o σ K t len cap
 | .makeMap t r=>aMakeMap o σ K t r
 | .lookup t x i ok=>match keyArr P t with
  | some n=>aLookupA P o σ K n t x i ok
  | none=>aLookup P o σ K t x i ok
 | .mapUpdate t x i y=>match keyArr P t with
  | some n=>zup P o σ K n t x i y
  | none=>zq6 P o σ K t x i y
 | .call c=>aCalls P own o σ K C c
 | _=>False
end
def zce (n:Nat) (o:Oper):Bool:=match o.dst with | some d=>decide (d<n) | none=>true
def notBool:Value→Bool
 | .bool _=>false
 | _=>true
def aGuard (P:Program) (C:FuncId→List Arg→Rs→Prop) (n:Nat) (own:List Nat) (ops:List Oper) (o:Oper) (σ:St) (K:Fx→Prop):Prop :=
 Chk (zce n o) (match o.guard with
 | none=>aOp P own o σ K C
 | some (j,want)=>match (ops[j]?).bind (·.dst) with
  | some t=>match asBool (σ.av t) with
   | some b=>Both (b==want) (aOp P own o σ (fun fx=>K ⟨.tmp t::fx.rd,fx.wr⟩) C) (K ⟨[.tmp t],wrT o.dst (.im (.val undef))⟩)
   | none=>match σ.av t with
    | .im (.val v)=>Chk (notBool v) (K ⟨[.tmp t],wrT o.dst (.im (.val undef))⟩)
    | _=>False
  | none=>False)
def frcN {α:Sort _} (n:Nat) (K:Nat→α):α:=match n with
 | 0=>K 0
 | m+1=>K (m+1)
def frcM {α:Sort _}:Nat→Nat→(Nat→α)→α
 | 0,a,K=>K a
 | m+1,a,K=>frcM m (a+1) K
def frcL {α:Sort _} (l:Loc) (K:Loc→α):α:=match l with
 | .tmp t=>frcN t fun t=>K (.tmp t)
 | .gen t=>frcN t fun t=>K (.gen t)
 | .ign t=>frcN t fun t=>K (.ign t)
 | .knd t=>frcN t fun t=>K (.knd t)
 | .cel t i=>frcN t fun t=>frcN i fun i=>K (.cel t i)
def frcA {α:Sort _} (a:AV) (K:AV→α):α:=match a with
 | .im x=>K (.im x)
 | .own o g i=>frcN o fun o=>frcN i fun i=>K (.own o g i)
 | .osl o g=>frcN o fun o=>K (.osl o g)
 | .elt o g k i j=>frcN o fun o=>frcN k fun k=>frcN j fun j=>K (.elt o g k i j)
 | .sub o g i=>frcN o fun o=>K (.sub o g i)
 | .elt2 o g i k j c=>frcN o fun o=>frcN k fun k=>frcN c fun c=>K (.elt2 o g i k j c)
 | .osv o g k m=>K (.osv o g k m)
 | .full es=>K (.full es)
 | .fn f caps=>K (.fn f caps)
 | .agg cs=>K (.agg cs)
 | .tup cs=>K (.tup cs)
def frcC {α:Sort _} (c:Ct) (K:Ct→α):α:=match c with
 | .av a=>frcA a fun a=>K (.av a)
 | .n g=>K (.n g)
 | .kd k=>match k with
  | .dead=>K (.kd .dead)
  | .box t m=>frcM m 0 fun m=>K (.kd (.box t m))
  | .row e k es=>K (.kd (.row e k es))
  | .grid e e' k gs hole=>K (.kd (.grid e e' k gs hole))
  | .map l=>K (.kd (.map l))
  | .bag t e k l hole=>K (.kd (.bag t e k l hole))
  | .mapI left cur=>K (.kd (.mapI left cur))
  | .que e k es=>K (.kd (.que e k es))
theorem frcN_eq {α:Sort _} (n:Nat) (K:Nat→α):frcN n K=K n:=by cases n<;>rfl
theorem frcM_eq {α:Sort _} (n a:Nat) (K:Nat→α):frcM n a K=K (a+n):=by
 induction n generalizing a with
 | zero=>rfl
 | succ n ih=>rw [frcM,ih];congr 1;omega
theorem frcL_eq {α:Sort _} (l:Loc) (K:Loc→α):frcL l K=K l:=by cases l<;>simp only [frcL,frcN_eq]
theorem frcA_eq {α:Sort _} (l:AV) (K:AV→α):frcA l K=K l:=by cases l<;>simp only [frcA,frcN_eq]
theorem frcC_eq {α:Sort _} (l:Ct) (K:Ct→α):frcC l K=K l:=by
 cases l with
 | av a=>simp only [frcC,frcA_eq]
 | n g=>rfl
 | kd k=>cases k<;>simp only [frcC,frcM_eq,Nat.zero_add]
abbrev Mk:=Nat×Nat
def p2 (n:Nat):Nat:=Nat.mul (Nat.pow 340282366920938463463374607431768211456 (Nat.div n 128)) (Nat.pow 2 (Nat.mod n 128))
theorem p2_eq (n:Nat):p2 n=2^n:=by
 show (340282366920938463463374607431768211456^(n / 128))*2^(n%128)=2^n;rw [show (340282366920938463463374607431768211456:Nat)=2^128 from by decide,← Nat.pow_mul,← Nat.pow_add,Nat.div_add_mod]
def bit1 (m:Nat) (l:Loc):Nat:=Nat.lor m (p2 l.code)
def mskR:List Loc→Nat→Nat
 | [],m=>m
 | l::r,m=>mskR r (bit1 m l)
def mskW:List (Loc×Ct)→Nat→Nat
 | [],m=>m
 | p::r,m=>mskW r (bit1 m p.1)
def fxm (f:Fx):Mk:=(mskR f.rd 0,mskW f.wr 0)
def frcR {α:Sort _}:List Loc→Nat→(Nat→α)→α
 | [],m,K=>K m
 | l::r,m,K=>frcL l fun l=>frcN (bit1 m l) fun m=>frcR r m K
def frcW {α:Sort _}:List (Loc×Ct)→Nat→St→(Nat→St→α)→α
 | [],m,σ,K=>K m σ
 | p::r,m,σ,K=>frcL p.1 fun l=>frcC p.2 fun c=>frcN (bit1 m l) fun m=>frcW r m (upd σ l c) K
theorem frcR_eq {α:Sort _} (l:List Loc):∀ (m:Nat) (K:Nat→α),frcR l m K=K (mskR l m):=by
 induction l with
 | nil=>intro m K;rfl
 | cons l r ih=>intro m K;simp only [frcR,frcL_eq,frcN_eq,ih,mskR]
theorem frcW_eq {α:Sort _} (l:List (Loc×Ct)):∀ (m:Nat) (σ:St) (K:Nat→St→α),frcW l m σ K=K (mskW l m) (app σ l):=by
 induction l with
 | nil=>intro m σ K;rfl
 | cons p r ih=>intro m σ K;simp only [frcW,frcL_eq,frcC_eq,frcN_eq,ih,mskW];rfl
def frcF {α:Sort _} (fx:Fx) (σ:St) (K:Mk→St→α):α:=frcR fx.rd 0 fun r=>frcW fx.wr 0 σ fun m σ'=>K (r,m) σ'
theorem frcF_eq {α:Sort _} (fx:Fx) (σ:St) (K:Mk→St→α):frcF fx σ K=K (fxm fx) (app σ fx.wr):=by
 unfold frcF fxm;rw [frcR_eq,frcW_eq]
def aOps (P:Program) (C:FuncId→List Arg→Rs→Prop) (n:Nat) (own:List Nat) (ops:List Oper):List Oper→List Mk→St→(List Mk→St→Prop)→Prop
 | [],fs,σ,K=>K fs σ
 | o::l,fs,σ,K=>aGuard P C n own ops o σ fun fx=>frcF fx σ fun m σ'=>aOps P C n own ops l (fs++[m]) σ' K
def indepM (f g:Mk):Bool:=Nat.beq (Nat.lor (Nat.lor (Nat.land f.2 g.1) (Nat.land f.2 g.2)) (Nat.land g.2 f.1)) 0
def indep (f g:Fx):Bool:=indepM (fxm f) (fxm g)
def zot (acc:List Nat) (o:Oper):Nat:=o.after.toList.foldl (fun s e=>if Region.binds .any e=true then s ||| 2^e.on ||| acc.getD e.on 0 else s) 0
def befs (ops:List Oper):List Nat:=ops.foldl (fun acc o=>acc++[zot acc o]) []
def drawRow (bs:List Nat) (f:Mk) (i:Nat):Nat→List Mk→Bool
 | _,[]=>true
 | j,g::gs=>(indepM f g||(bs.getD j 0).testBit i)&&drawRow bs f i (j+1) gs
def zt4 (bs:List Nat):Nat→List Mk→Bool
 | _,[]=>true
 | i,f::fs=>drawRow bs f i (i+1) fs&&zt4 bs (i+1) fs
def edgeOk:Nat→List Oper→Bool
 | _,[]=>true
 | i,o::l=>(o.after.toList.all fun e=>!Region.binds .any e||Nat.blt e.on i)&&edgeOk (i+1) l
def drawOk (ops:List Oper) (fs:List Mk):Bool:=edgeOk 0 ops&&zt4 (befs ops) 0 fs
section
variable (P:Program) (C:FuncId→List Arg→Rs→Prop) (n:Nat) (own:List Nat)
attribute [irreducible] Side Both ztc Nf Cut za8
def anyGuard:List Oper→Bool
 | []=>false
 | o::l=>match o.guard with | some _=>true | none=>match o.op with | .pick _ _ _=>true | _=>anyGuard l
def cntE (id:Nat):List Nat→Nat
 | []=>0
 | j::l=>match Nat.beq j id with | true=>cntE id l+1 | false=>cntE id l
def remE (id:Nat):List Nat→List Nat
 | []=>[]
 | j::l=>match Nat.beq j id with | true=>remE id l | false=>j::remE id l
def paths:Code→Nat×List Nat
 | .skip=>(1,[])
 | .region _ ops _=>(match anyGuard ops.toList with | true=>2 | false=>1,[])
 | .seq a b=>match paths a with
  | (0,e)=>(0,e)
  | (_,e)=>match paths b with | (m,f)=>(m,e++f)
 | .cond _ a b=>match paths a,paths b with | (n,e),(m,f)=>(n+m,e++f)
 | .block id body=>match paths body with
  | (n,e)=>(match n+cntE id e with | 0=>0 | _=>1,remE id e)
 | .loop body=>(0,(paths body).2)
 | .scope body=>paths body
 | .label _=>(1,[])
 | .exit id=>(0,[id])
 | _=>(0,[])
def one (a:Code):Bool:=Nat.ble (paths a).1 1
def oneB (id:Nat) (a:Code):Bool:=Nat.beq (cntE id (paths a).2) 0
def zmn:Code→(Exit→St→Prop)→St→Prop
 | .skip,K,σ=>K .normal σ
 | .region _ ops draw,K,σ=>aOps P C n own ops.toList ops.toList [] σ fun fs σ'=>Chk (!draw||drawOk ops.toList fs) (K .normal σ')
 | .seq a b,K,σ=>match one a with
  | true=>zmn a (fun e σ'=>match e with | .normal=>zmn b K σ' | e=>K e σ') σ
  | false=>Cut (fun J=>zmn a (fun e σ'=>match e with | .normal=>J σ' | e=>K e σ') σ) fun σ'=>zmn b K σ'
 | .cond c a b,K,σ=>match asBool (evA σ c) with
  | some t=>Both t (zmn a K σ) (zmn b K σ)
  | none=>False
 | .block id body,K,σ=>match oneB id body with
  | true=>zmn body (fun e σ'=>match e with | .exit j=>if j=id then K .normal σ' else K (.exit j) σ' | e=>K e σ') σ
  | false=>Cut (fun J=>zmn body (fun e σ'=>match e with | .normal=>J σ' | .exit j=>if j=id then J σ' else K (.exit j) σ' | e=>K e σ') σ) fun σ'=>K .normal σ'
 | .loop body,K,σ=>ztc (fun K' σ'=>zmn body K' σ') K σ
 | .exit id,K,σ=>K (.exit id) σ
 | .ret,K,σ=>K .ret σ
 | .scope body,K,σ=>zmn body (fun e σ'=>match e with | .goto _=>False | e=>K e σ') σ
 | .label _,K,σ=>K .normal σ
 | _,_,_=>False
end
end
section
theorem RepI.mono {w w':World} {S S':Nat→Prop} (hS:∀ b,S b→S' b) (hc:∀ p u,S p.block→w.cell? p=some u→w'.cell? p=some u) {v:Value} {x:IV} (h:RepI w S v x):RepI w' S' v x:=by
 induction h with
 | val v=>exact .val v
 | any v=>exact .any v
 | ex v h1=>exact .ex v h1
 | emp A c=>exact .emp A c
 | sl b o c k n es us hn hk hcap hs hb hl h1 hu hr ih=>exact .sl b o c k n es us hn hk hcap hs (hS b hb) hl h1 (fun i u hi=>hc _ _ hb (hu i u hi)) ih
 | agg us cs hl h1 hr ih=>exact .agg us cs hl h1 ih
 | ref b o us cs hb hl h1 hu hr ih=>exact .ref b o us cs (hS b hb) hl h1 (fun i u hi=>hc _ _ hb (hu i u hi)) ih
 | fn f us cs hl hr ih=>exact .fn f us cs hl ih
 | nsl a n c es h ih=>exact .nsl a n c es ih
theorem RepA.mono {w w':World} {S S':Nat→Prop} {ρ ρ':Ly} {γ γ':Nat→Nat} (hI:∀ v x,RepI w S v x→RepI w' S' v x) (hγ:∀ o,γ o≤γ' o) (hρ:∀ o,γ' o=γ o→ρ' o=ρ o)
  (hi:∀ o,ρ.ig o≤ρ'.ig o∧(ρ'.ig o=ρ.ig o→ρ'.inn o=ρ.inn o)) {v:Value} {x:AV} (h:RepA w S ρ γ v x):RepA w' S' ρ' γ' v x:=by
 have key:∀ o g,g≤γ o→γ' o=g→γ o=g∧ρ' o=ρ o:=fun o g h1 h2=>by
  have:=hγ o;exact ⟨by omega,hρ o (by omega)⟩
 have key2:∀ o g,g≤ρ.ig o→ρ'.ig o=g→ρ.ig o=g∧ρ'.inn o=ρ.inn o:=fun o g h1 h2=>by
  have:=(hi o).1;exact ⟨by omega,(hi o).2 (by omega)⟩
 induction h with
 | im v x h=>exact .im v x (hI v x h)
 | own v o g i h1 hg h =>
  refine .own v o g i h1 (Nat.le_trans hg (hγ o)) fun e=>?_;obtain ⟨e1,e2⟩:=key o g hg e;rw [e2];exact h e1
 | osl v o g h1 hg h =>
  refine .osl v o g h1 (Nat.le_trans hg (hγ o)) fun e=>?_;obtain ⟨e1,e2⟩:=key o g hg e;rw [e2];exact h e1
 | elt v o g k i j h1 hg h =>
  refine .elt v o g k i j h1 (Nat.le_trans hg (hγ o)) fun e=>?_;obtain ⟨e1,e2⟩:=key o g hg e;rw [e2];exact h e1
 | sub v o g i h1 hg h =>
  refine .sub v o g i h1 (Nat.le_trans hg (hi o).1) fun e=>?_;obtain ⟨e1,e2⟩:=key2 o g hg e;rw [e2];exact h e1
 | osv v o g k m h1 hg h =>
  refine .osv v o g k m h1 (Nat.le_trans hg (hγ o)) fun e=>?_;obtain ⟨e1,e2⟩:=key o g hg e;rw [e2];exact h e1
 | elt2 v o g i k j c h1 hg h =>
  refine .elt2 v o g i k j c h1 (Nat.le_trans hg (hi o).1) fun e=>?_;obtain ⟨e1,e2⟩:=key2 o g hg e;rw [e2];exact h e1
 | full A n es h=>exact .full A n es (hI _ _ h)
 | fn f us cs hl hr ih=>exact .fn f us cs hl ih
 | agg us cs hl h1 hr ih=>exact .agg us cs hl h1 ih
 | tup us cs hl hr ih=>exact .tup us cs hl ih
def noInn:Kd→Bool
 | .grid _ _ _ _ _=>false
 | .bag _ _ _ _ _=>false
 | .mapI _ _=>false
 | _=>true
theorem fpk_flat {v:Value} {inn:List Value} {k:Kd} (h:noInn k=true) {b:Nat} (hb:b∈fpk v inn k):zba v=some b:=by
 cases k with
 | dead=>simp [fpk] at hb
 | grid e e' m gs q=>cases h
 | box t m=>simpa [fpk] using hb
 | row e m es=>simpa [fpk] using hb
 | map l=>simpa [fpk] using hb
 | bag t e m l q=>cases h
 | mapI l c=>cases h
 | que e m es=>simpa [fpk] using hb
theorem fpk_root {v:Value} {inn:List Value} {k:Kd} (h:k≠.dead) {b:Nat} (hb:zba v=some b):b∈fpk v inn k:=by
 cases k with
 | dead=>exact absurd rfl h
 | grid e e' m gs q=>simp [fpk,fpv,hb]
 | box t m=>simp [fpk,hb]
 | row e m es=>simp [fpk,hb]
 | map l=>simp [fpk,hb]
 | bag t e m l q=>simp [fpk,fpv,hb]
 | mapI l c=>simp [fpk,fpv,hb]
 | que e m es=>simp [fpk,hb]
theorem fpk_inn {v u:Value} {inn:List Value} {e e':TypeId} {m:Nat} {gs:List (List IV)} {q:Option Nat} {i b:Nat} (hu:inn[i]?=some u) (hb:zba u=some b):b∈fpk v inn (.grid e e' m gs q):=by
 unfold fpk fpv;exact List.mem_filterMap.2 ⟨u,List.mem_cons_of_mem _ (zkH hu),hb⟩
theorem Owns.root {σ:St} {ρ:Ly} {o b:Nat} (hl:live σ o) (hb:zba (ρ o)=some b):Owns σ ρ o b:=fpk_root hl hb
theorem Owns.lv {σ:St} {ρ:Ly} {o b:Nat} (h:Owns σ ρ o b):live σ o:=fun e=>by
 unfold Owns at h;rw [e] at h;simp [fpk] at h
theorem zhh {w:World} {base:Nat} {e:TypeId} {k n:Nat} {v:Value} {us:List Value} (h:w.ownsRow base e k v n us):v.ownBlock=zba v:=by
 rcases h.2 with ⟨rfl,_⟩ | ⟨_,_,_,rfl,_⟩<;>rfl
theorem ziq {w w':World} {base:Nat} {e:TypeId} {k n:Nat} {v:Value} {us:List Value} (h:w.ownsRow base e k v n us) (hb:∀ b,zba v=some b→w'.heap[b]?=w.heap[b]?):w'.ownsRow base e k v n us:=by
 refine ⟨h.1,?_⟩;rcases h.2 with h1 | ⟨g,cap,cur,e1,e2,e3,e4⟩
 ·exact .inl h1
 ·exact .inr ⟨g,cap,cur,e1,e2,(hb g (by rw [e1];rfl)).trans e3,e4⟩
theorem ziu.mono {w w':World} {S S':Nat→Prop} {v:Value} {e:TypeId} {k:Nat} {es:List (List IV)} (h:ziu w S v e k es) (hb:∀ b,zba v=some b→w'.heap[b]?=w.heap[b]?) (hI:∀ u x,RepI w S u x→RepI w' S' u x):ziu w' S' v e k es:=by
 obtain ⟨us,h1,h2,h3,h4,h5,h6,h7⟩:=h;exact ⟨us,h1,h2,h3,ziq h4 hb,h5,h6,fun i u x hu hx=>hI _ _ (h7 i u x hu hx)⟩
theorem zmb.mono {w w':World} {S S':Nat→Prop} {v:Value} {e:TypeId} {k:Nat} {es:List (List IV)} (h:zmb w S v e k es) (hb:∀ b,zba v=some b→w'.heap[b]?=w.heap[b]?) (hI:∀ u x,RepI w S u x→RepI w' S' u x):zmb w' S' v e k es:=by
 obtain ⟨us,h1,h2,h3,h4,h5,h6,h7⟩:=h;refine ⟨us,h1,h2,h3,h4,h5,fun i u x hu hx=>hI _ _ (h6 i u x hu hx),?_⟩;rcases h7 with h7 | ⟨q,off,cap,cur,e1,e2,e3⟩
 ·exact .inl h7
 ·exact .inr ⟨q,off,cap,cur,e1,(hb q (by rw [e1];rfl)).trans e2,e3⟩
theorem zmb.lt {w:World} {S:Nat→Prop} {v:Value} {e:TypeId} {k:Nat} {es:List (List IV)} (h:zmb w S v e k es) {b:Nat} (hb:zba v=some b):b<w.heap.size:=by
 obtain ⟨us,h1,h2,h3,h4,h5,h6,h7⟩:=h;rcases h7 with ⟨h7,_⟩ | ⟨q,off,cap,cur,e1,e2,e3⟩
 ·rw [h7] at hb;cases hb
 ·rw [e1] at hb;simp only [zba,zkF] at hb;subst hb;exact (Array.getElem?_eq_some_iff.1 e2).1
theorem ziu.que {w:World} {S:Nat→Prop} {v:Value} {e:TypeId} {k:Nat} {es:List (List IV)} (h:ziu w S v e k es):zmb w S v e k es:=by
 obtain ⟨us,h1,h2,h3,h4,h5,h6,h7⟩:=h;refine ⟨us,h1,h2,h3,h5,h6,h7,?_⟩;rcases h4.2 with ⟨e1,e2⟩ | ⟨q,cap,cur,e1,_,e3,e4,e5,e6,e7⟩
 ·exact .inl ⟨e1,List.eq_nil_of_length_eq_zero e2⟩
 ·refine .inr ⟨q,0,cap,cur,e1,e3,e4,e5,by omega,fun j u hu=>?_⟩;rw [← e7,List.getElem?_take] at hu;split at hu
  ·rw [Nat.zero_add,← Array.getElem?_toList];exact hu
  ·cases hu
theorem zkc.mono {w w':World} {S S':Nat→Prop} {v:Value} {inn:List Value} {e e':TypeId} {k:Nat} {gs:List (List IV)} {q:Option Nat} (h:zkc w S v inn e e' k gs q) (hb:∀ b,b∈fpv v inn→w'.heap[b]?=w.heap[b]?) (hI:∀ u x,RepI w S u x→RepI w' S' u x):zkc w' S' v inn e e' k gs q:=by
 obtain ⟨h0,h1,us,h2,h3,h4,h5⟩:=h;refine ⟨h0,h1,us,h2,ziq h3 fun b hb'=>hb b (by simp [fpv,hb']),h4,fun i u hu=>?_⟩;rcases h5 i u hu with h6 | ⟨h6,es,h7,h8⟩
 ·exact .inl h6
 ·exact .inr ⟨h6,es,h7,h8.mono (fun b hb'=>hb b (List.mem_filterMap.2 ⟨u,List.mem_cons_of_mem _ (zkH hu),hb'⟩)) hI⟩
theorem zdj.mono {w w':World} {S S':Nat→Prop} {v:Value} {inn:List Value}:∀ {k:Kd},zdj w S v inn k→(∀ b,b∈fpk v inn k→w'.heap[b]?=w.heap[b]?)→(∀ u x,RepI w S u x→RepI w' S' u x)→zdj w' S' v inn k
 | .dead,h,_,_=>h
 | .box _ _,h,_,_=>h
 | .row _ _ _,h,hb,hI=>ziu.mono h (fun b hb'=>hb b (by simp [fpk,hb'])) hI
 | .grid _ _ _ _ _,h,hb,hI=>zkc.mono h hb hI
 | .map _,⟨b,clock,es,h1,h2,h3⟩,hb,_=>⟨b,clock,es,h1,(hb b (by rw [h1];simp [fpk,zba])).trans h2,h3⟩
 | .bag _ _ _ _ _,h,_,_=>h
 | .mapI _ _,h,_,_=>h
 | .que _ _ _,h,hb,hI=>zmb.mono h (fun b hb'=>hb b (by simp [fpk,hb'])) hI
theorem born_modify (es:Array MapEntry) (j:Nat) (f:MapEntry→MapEntry) (hf:∀ e,(f e).born=e.born):(es.modify j f).toList.map (·.born)=es.toList.map (·.born):=by
 apply List.ext_getElem?;intro n;rw [List.getElem?_map,List.getElem?_map,Array.getElem?_toList,Array.getElem?_modify,Array.getElem?_toList];by_cases hn:j=n
 ·rw [if_pos hn,Option.map_map];congr 1;funext e;exact hf e
 ·rw [if_neg hn]
theorem zvj.nil (c:Nat):zvj #[] c:=⟨by simp,by simp⟩
theorem zvj.push {es:Array MapEntry} {c:Nat} (h:zvj es c) (k v:Value):zvj (es.push { key:=k,val:=v,born:=c }) (c+1):=by
 refine ⟨fun x hx=>?_,?_⟩
 ·rw [Array.toList_push] at hx;rcases List.mem_append.1 hx with hx | hx
  ·exact Nat.lt_succ_of_lt (h.1 x hx)
  ·rw [List.mem_singleton.1 hx];exact Nat.lt_succ_self _
 ·rw [Array.toList_push,List.map_append,List.nodup_append];refine ⟨h.2,by simp,fun a ha b hb=>?_⟩;obtain ⟨x,hx,rfl⟩:=List.mem_map.1 ha;have:=h.1 x hx;simp at hb;omega
theorem zvj.modify {es:Array MapEntry} {c:Nat} (h:zvj es c) (j:Nat) (f:MapEntry→MapEntry) (hf:∀ e,(f e).born=e.born):zvj (es.modify j f) c:=by
 have e:=born_modify es j f hf;refine ⟨fun x hx=>?_,by rw [e];exact h.2⟩;have:x.born∈es.toList.map (·.born):=by rw [← e];exact List.mem_map.2 ⟨x,hx,rfl⟩
 obtain ⟨y,hy,h2⟩:=List.mem_map.1 this;rw [← h2];exact h.1 y hy
theorem EntOk.mono {w w':World} {S S':Nat→Prop} {t e:TypeId} {k:Nat} {g:Nat×List IV×List (List IV)} {row:Value} (h:EntOk w S t e k g row) (hb:∀ b,(g.1=b∨zba row=some b)→w'.heap[b]?=w.heap[b]?) (hI:∀ u x,RepI w S u x→RepI w' S' u x):EntOk w' S' t e k g row:=by
 obtain ⟨us,h2,h3,h4,h5,h6⟩:=h;exact ⟨us,(hb g.1 (.inl rfl)).trans h2,h3,h4,fun i u x hu hx=>hI _ _ (h5 i u x hu hx),h6.mono (fun b hb'=>hb b (.inr hb')) hI⟩
theorem zsf.mono {w w':World} {S S':Nat→Prop} {v:Value} {inn:List Value} {t e:TypeId} {k:Nat} {l:List (Nat×List IV×List (List IV))} (h:zsf w S v inn t e k l) (hb:∀ b,b∈fpv v inn→w'.heap[b]?=w.heap[b]?) (hI:∀ u x,RepI w S u x→RepI w' S' u x):zsf w' S' v inn t e k l:=by
 obtain ⟨h0,h1,rows,h2,h3,h4⟩:=h;refine ⟨h0,h1,rows,h2,h3,fun i g row hg hr=>(h4 i g row hg hr).mono (fun b hb'=>hb b ?_) hI⟩;rcases hb' with hb' | hb'
 ·exact List.mem_filterMap.2 ⟨pv g.1,List.mem_cons_of_mem _ (by rw [h3];exact List.mem_append_left _ (List.mem_map.2 ⟨g,zkH hg,rfl⟩)),by rw [← hb'];rfl⟩
 ·exact List.mem_filterMap.2 ⟨row,List.mem_cons_of_mem _ (by rw [h3];exact List.mem_append_right _ (zkH hr)),hb'⟩
theorem GoOk.mono {w w':World} {S S':Nat→Prop} {v:Value} {inn:List Value} {left:List IV} {cur:Option IV} (h:GoOk w S v inn left cur) (hb:∀ b,b∈fpv v inn→w'.heap[b]?=w.heap[b]?) (hI:∀ u x,RepI w S u x→RepI w' S' u x):GoOk w' S' v inn left cur:=by
 obtain ⟨b,r,clock,since,c0,es,seen,rd,h1,h2,h3,h4,h5,h6,h7,h8,h9,a2,a6⟩:=h;exact ⟨b,r,clock,since,c0,es,seen,rd,h1,h2,h3,(hb b (by rw [h1];simp [fpv,zba])).trans h4,(hb r (by rw [h2];simp [fpv,zba])).trans h5,h6,h7,h8,h9,fun x hx=>hI _ _ (a2 x hx),a6⟩
theorem ziu.lt {w:World} {S:Nat→Prop} {v:Value} {e:TypeId} {k:Nat} {es:List (List IV)} (h:ziu w S v e k es) {b:Nat} (hb:zba v=some b):b<w.heap.size:=by
 obtain ⟨us,h1,h2,h3,h4,_⟩:=h;exact (h4.lt b ((zhh h4).trans hb)).2
theorem zdj.lt {w:World} {S:Nat→Prop} {v:Value} {inn:List Value}:∀ {k:Kd},zdj w S v inn k→∀ {b},b∈fpk v inn k→b<w.heap.size
 | .dead,h,_,_=>h.elim
 | .box _ _,h,_,_=>h.elim
 | .row _ _ _,h,b,hb=>ziu.lt h (by simpa [fpk] using hb)
 | .map _,⟨q,clock,es,h1,h2,h3⟩,b,hb=>by
  rw [h1] at hb;simp [fpk,zba] at hb;subst hb;exact (Array.getElem?_eq_some_iff.1 h2).1
 | .bag _ _ _ _ _,h,_,_=>h.elim
 | .mapI _ _,h,_,_=>h.elim
 | .que _ _ _,h,b,hb=>zmb.lt h (by simpa [fpk] using hb)
 | .grid e e' k gs q,⟨h0,h1,us,h2,h3,h4,h5⟩,b,hb=>by
  obtain ⟨u,hu,hub⟩:=List.mem_filterMap.1 (show b∈fpv v inn from hb);rcases List.mem_cons.1 hu with rfl | hu
  ·exact (h3.lt b ((zhh h3).trans hub)).2
  ·obtain ⟨i,hi⟩:=List.getElem?_of_mem hu;rcases h5 i u hi with h6 | ⟨h6,es,h7,h8⟩
   ·rw [h6.2] at hub;cases hub
   ·exact h8.lt hub
theorem zsf.lt {w:World} {S:Nat→Prop} {v:Value} {inn:List Value} {t e:TypeId} {k:Nat} {l:List (Nat×List IV×List (List IV))} (h:zsf w S v inn t e k l) {b:Nat} (hb:b∈fpv v inn):b<w.heap.size:=by
 obtain ⟨h0,h1,rows,h2,h3,h4⟩:=h;obtain ⟨u,hu,hub⟩:=List.mem_filterMap.1 hb;rcases List.mem_cons.1 hu with rfl | hu
 ·rw [h0] at hub;cases hub
 ·rw [h3] at hu;rcases List.mem_append.1 hu with hu | hu
  ·obtain ⟨g,hg,rfl⟩:=List.mem_map.1 hu;obtain ⟨i,hi⟩:=List.getElem?_of_mem hg;have hlt:i<rows.length:=by rw [h2];exact (zkI.1 hi).1
   obtain ⟨us,e2,_⟩:=h4 i g _ hi (zkM hlt);simp only [zba,zkF] at hub;subst hub;exact (Array.getElem?_eq_some_iff.1 e2).1
  ·obtain ⟨i,hi⟩:=List.getElem?_of_mem hu;have hlt:i<l.length:=by rw [← h2];exact (zkI.1 hi).1
   obtain ⟨us,e2,e3,e4,e5,e6⟩:=h4 i _ _ (zkM hlt) hi;exact e6.lt hub
theorem GoOk.lt {w:World} {S:Nat→Prop} {v:Value} {inn:List Value} {left:List IV} {cur:Option IV} (h:GoOk w S v inn left cur) {b:Nat} (hb:b∈fpv v inn):b<w.heap.size:=by
 obtain ⟨q,r,clock,since,c0,es,seen,rd,h1,h2,h3,h4,h5,_⟩:=h;rw [h1,h2] at hb;simp only [fpv,zba,List.filterMap_cons,List.filterMap_nil,List.mem_cons,List.not_mem_nil,or_false] at hb;rcases hb with rfl | rfl
 ·exact (Array.getElem?_eq_some_iff.1 h4).1
 ·exact (Array.getElem?_eq_some_iff.1 h5).1
structure zlm (σ σ':St):Prop where
 gn:σ'.gn=σ.gn
 ig:σ'.ig=σ.ig
 kd:σ'.kd=σ.kd
 ce:σ'.ce=σ.ce
theorem zlm.tmp (σ:St) (d:Nat) (c:Ct):zlm σ (upd σ (.tmp d) c):=⟨funext fun _=>gn_tmp σ d _ c,funext fun _=>ig_tmp σ d _ c,funext fun _=>kd_tmp σ d _ c,funext fun _=>funext fun _=>ce_tmp σ d _ _ c⟩
theorem Imm.same {B:Base} {σ σ':St} (h:σ'.kd=σ.kd) (ρ:Ly) (w:World):Imm B σ' ρ w=Imm B σ ρ w:=by
 unfold Imm Owns;rw [h]
theorem zmc.of_hold {B:Base} {σ:St} {ρ:Ly} {w:World} {o:Nat} {k:Kd} (hb:∀ t m,k≠.box t m) (h:zdj w (Imm B σ ρ w) (ρ o) (ρ.inn o) k):zmc B σ ρ w o k:=by
 cases k with
 | dead=>trivial
 | box t m=>exact absurd rfl (hb t m)
 | row e m es=>exact h
 | grid e e' m gs q=>exact h
 | map l=>exact h
 | bag t e m l q=>exact h.elim
 | mapI l c=>exact h.elim
 | que e m es=>exact h
theorem zmc.mono {B B':Base} {σ σ':St} {ρ ρ':Ly} {w w':World} {o:Nat} {k:Kd} (hk:zmc B σ ρ w o k) (hρ:ρ' o=ρ o) (hinn:ρ'.inn o=ρ.inn o) (hce:∀ i,σ'.ce o i=σ.ce o i) (hb:∀ b,b∈fpk (ρ o) (ρ.inn o) k→w'.heap[b]?=w.heap[b]?)
  (hI:∀ v x,RepI w (Imm B σ ρ w) v x→RepI w' (Imm B' σ' ρ' w') v x) (hA:∀ v x,RepA w (Imm B σ ρ w) ρ σ.gn v x→RepA w' (Imm B' σ' ρ' w') ρ' σ'.gn v x):zmc B' σ' ρ' w' o k:=by
 cases k with
 | dead=>trivial
 | box t m =>
  obtain ⟨b,us,h1,h3,h4,h5,h6⟩:=hk;refine ⟨b,us,hρ.trans h1,(hb b (by rw [h1];simp [fpk,zba])).trans h3,h4,h5,fun i u hu=>?_⟩;rw [hce];exact hA _ _ (h6 i u hu)
 | row e m es=>show zdj w' (Imm B' σ' ρ' w') (ρ' o) (ρ'.inn o) (.row e m es);rw [hρ,hinn];exact zdj.mono (k:=.row e m es) hk hb hI
 | grid e e' m gs q=>show zdj w' (Imm B' σ' ρ' w') (ρ' o) (ρ'.inn o) (.grid e e' m gs q);rw [hρ,hinn];exact zdj.mono (k:=.grid e e' m gs q) hk hb hI
 | map l=>show zdj w' (Imm B' σ' ρ' w') (ρ' o) (ρ'.inn o) (.map l);rw [hρ,hinn];exact zdj.mono (k:=.map l) hk hb hI
 | bag t e m l q =>
  show zsf w' (Imm B' σ' ρ' w') (ρ' o) (ρ'.inn o) t e m l∧_;rw [hρ,hinn,hce];exact ⟨zsf.mono hk.1 hb hI,fun p hp=>hA _ _ (hk.2 p hp)⟩
 | mapI l c =>
  show GoOk w' (Imm B' σ' ρ' w') (ρ' o) (ρ'.inn o) l c;rw [hρ,hinn];exact GoOk.mono hk hb hI
 | que e m es=>show zdj w' (Imm B' σ' ρ' w') (ρ' o) (ρ'.inn o) (.que e m es);rw [hρ,hinn];exact zdj.mono (k:=.que e m es) hk hb hI
theorem zmc.lt {B:Base} {σ:St} {ρ:Ly} {w:World} {o:Nat} {k:Kd} (hk:zmc B σ ρ w o k) {b:Nat} (hb:b∈fpk (ρ o) (ρ.inn o) k):b<w.heap.size:=by
 cases k with
 | dead=>simp [fpk] at hb
 | box t m =>
  obtain ⟨q,us,h1,h3,_⟩:=hk;rw [h1] at hb;simp [fpk,zba] at hb;subst hb;exact (Array.getElem?_eq_some_iff.1 h3).1
 | row e m es=>exact zdj.lt (S:=Imm B σ ρ w) (k:=.row e m es) hk hb
 | grid e e' m gs q=>exact zdj.lt (S:=Imm B σ ρ w) (k:=.grid e e' m gs q) hk hb
 | map l=>exact zdj.lt (S:=Imm B σ ρ w) (k:=.map l) hk hb
 | bag t e m l q=>exact zsf.lt hk.1 hb
 | mapI l c=>exact GoOk.lt hk hb
 | que e m es=>exact zdj.lt (S:=Imm B σ ρ w) (k:=.que e m es) hk hb
theorem put_getD (a:Act) (d:Tmp) (u:Value) (t:Nat) (hd:d<a.tmps.size):(a.put (some d) u).tmps.getD t undef=if t=d then u else a.tmps.getD t undef:=by
 simp only [Act.put,Array.getD_eq_getD_getElem?,Array.getElem?_setIfInBounds];by_cases h:t=d
 ·subst h;simp [hd]
 ·rw [if_neg (fun e=>h e.symm),if_neg h]
theorem SatR.stepZ {B:Base} {σ σ':St} {a:Act} {w w':World} {ρ ρ':Ly} (h:SatR B σ a w ρ) (D Z':Nat→Prop) (hav:∀ t,σ'.av t=σ.av t)
  (hout:∀ o,¬ D o→σ'.kd o=σ.kd o∧σ'.gn o=σ.gn o∧(∀ i,σ'.ce o i=σ.ce o i)∧ρ' o=ρ o∧ρ'.inn o=ρ.inn o∧ρ'.ig o=ρ.ig o)
  (hin:∀ o,D o→(σ.gn o≤σ'.gn o∧(σ'.gn o=σ.gn o→ρ' o=ρ o))∧ρ.ig o≤ρ'.ig o∧(ρ'.ig o=ρ.ig o→ρ'.inn o=ρ.inn o))
  (hig:∀ o,ρ'.ig o=σ'.ig o) (hw:Belo (fun b=>B.Z b∨∃ o,D o∧Owns σ ρ o b) w.heap.size w w') (hfp:∀ o b,D o→Owns σ' ρ' o b→w.heap.size≤b∨B.Z b∨∃ p,D p∧Owns σ ρ p b)
  (hdis:∀ o p b,D o→D p→Owns σ' ρ' o b→Owns σ' ρ' p b→o=p) (hz:∀ b,Z' b→b<w'.heap.size∧(w.heap.size≤b∨B.Z b∨∃ p,D p∧Owns σ ρ p b)∧∀ o,D o→¬ Owns σ' ρ' o b)
  (hob:(∀ v x,RepI w (Imm B σ ρ w) v x→RepI w' (Imm { B with Z:=Z' } σ' ρ' w') v x)→(∀ v x,RepA w (Imm B σ ρ w) ρ σ.gn v x→RepA w' (Imm { B with Z:=Z' } σ' ρ' w') ρ' σ'.gn v x)→∀ o,D o→zmc { B with Z:=Z' } σ' ρ' w' o (σ'.kd o)) :
  SatR { B with Z:=Z' } σ' a w' ρ'∧(∀ v x,RepI w (Imm B σ ρ w) v x→RepI w' (Imm { B with Z:=Z' } σ' ρ' w') v x)∧(∀ v x,RepA w (Imm B σ ρ w) ρ σ.gn v x→RepA w' (Imm { B with Z:=Z' } σ' ρ' w') ρ' σ'.gn v x)∧∀ b,Imm B σ ρ w b→Imm { B with Z:=Z' } σ' ρ' w' b:=by
 have hsame:∀ o b,¬ D o→(Owns σ' ρ' o b↔Owns σ ρ o b):=fun o b hd=>by
  obtain ⟨h1,_,_,h2,h3,_⟩:=hout o hd;unfold Owns;rw [h1,h2,h3]
 have hin3:∀ b,(w.heap.size≤b∨B.Z b∨∃ p,D p∧Owns σ ρ p b)→Mine B b:=fun b hb=>by
  rcases hb with h1 | h1 | ⟨p,_,h1⟩
  ·exact .inl (Nat.le_trans h.bel.size h1)
  ·exact (h.res b h1).1.1
  ·exact (h.own p b h1).1
 have hin4:∀ b,Imm B σ ρ w b→¬ (w.heap.size≤b∨B.Z b∨∃ p,D p∧Owns σ ρ p b):=fun b hi hb=>by
  rcases hb with h1 | h1 | ⟨p,_,h1⟩
  ·have:=hi.2.1;omega
  ·exact hi.2.2.2 h1
  ·exact hi.2.2.1 p h1
 have himm:∀ b,Imm B σ ρ w b→Imm { B with Z:=Z' } σ' ρ' w' b:=fun b hi=>⟨hi.1,Nat.lt_of_lt_of_le hi.2.1 hw.size,fun o ho=>by
  by_cases hd:D o
  ·exact hin4 b hi (hfp o b hd ho)
  ·exact hi.2.2.1 o ((hsame o b hd).1 ho),fun hb=>hin4 b hi (hz b hb).2.1⟩
 have hsb:∀ b,Imm B σ ρ w b→w'.heap[b]?=w.heap[b]?:=fun b hi=>hw.block b hi.2.1 fun hb=>by
  rcases hb with h1 | ⟨o,_,ho⟩
  ·exact hi.2.2.2 h1
  ·exact hi.2.2.1 o ho
 have hI:∀ v x,RepI w (Imm B σ ρ w) v x→RepI w' (Imm { B with Z:=Z' } σ' ρ' w') v x:=fun v x hr =>
  hr.mono himm fun p u hi hu=>(World.cell?_of_block (w:=w) (hsb p.block hi)).trans hu
 have hA:∀ v x,RepA w (Imm B σ ρ w) ρ σ.gn v x→RepA w' (Imm { B with Z:=Z' } σ' ρ' w') ρ' σ'.gn v x:=fun v x hr=>by
  refine hr.mono hI (fun o=>?_) (fun o e=>?_) fun o=>?_
  ·by_cases hd:D o
   ·exact (hin o hd).1.1
   ·rw [(hout o hd).2.1];exact Nat.le_refl _
  ·by_cases hd:D o
   ·exact (hin o hd).1.2 e
   ·exact (hout o hd).2.2.2.1
  ·by_cases hd:D o
   ·exact (hin o hd).2
   ·obtain ⟨_,_,_,_,h3,h4⟩:=hout o hd;exact ⟨by rw [h4];exact Nat.le_refl _,fun _=>h3⟩
 have hob:=hob hI hA
 have hobs:∀ o,zmc { B with Z:=Z' } σ' ρ' w' o (σ'.kd o):=fun o=>by
  by_cases hd:D o
  ·exact hob o hd
  ·obtain ⟨h1,h2,h3,h4,h5,h6⟩:=hout o hd;rw [h1];refine (h.obs o).mono h4 h5 h3 (fun b hb=>hw.block b (h.own o b hb).2 fun hn=>?_) hI hA;rcases hn with hn | ⟨p,hp,hpb⟩
   ·exact (h.res b hn).2 o hb
   ·have:=h.dis o p b hb hpb;subst this;exact hd hp
 have hclash:∀ o b,¬ D o→Owns σ ρ o b→¬ (w.heap.size≤b∨B.Z b∨∃ p,D p∧Owns σ ρ p b):=fun o b hd ho hb=>by
  rcases hb with h1 | h1 | ⟨p,hp,h1⟩
  ·have:=(h.own o b ho).2;omega
  ·exact (h.res b h1).2 o ho
  ·have:=h.dis o p b ho h1;subst this;exact hd hp
 refine ⟨⟨h.bel.trans ⟨hw.os,hw.tape,hw.output,hw.size,fun k hk hgk=>hw.block k (Nat.lt_of_lt_of_le hk h.bel.size) fun hn=>?_⟩,hobs,fun o b ho=>⟨?_,(hobs o).lt ho⟩,fun o p b ho hp=>?_,fun t=>?_,hig,fun b hb=>?_,fun o v hl hg0=>?_,h.siz,h.dfr⟩,hI,hA,himm⟩
 ·have h3:Mine B k:=by
   rcases hn with hn | ⟨o,_,ho⟩
   ·exact (h.res k hn).1.1
   ·exact (h.own o k ho).1
  rcases h3 with h3 | h3
  ·omega
  ·exact hgk h3
 ·by_cases hd:D o
  ·exact hin3 b (hfp o b hd ho)
  ·exact (h.own o b ((hsame o b hd).1 ho)).1
 ·by_cases h1:D o
  ·by_cases h2:D p
   ·exact hdis o p b h1 h2 ho hp
   ·exact absurd (hfp o b h1 ho) (hclash p b h2 ((hsame p b h2).1 hp))
  ·have ho':=(hsame o b h1).1 ho;by_cases h2:D p
   ·exact absurd (hfp p b h2 hp) (hclash o b h1 ho')
   ·exact h.dis o p b ho' ((hsame p b h2).1 hp)
 ·rw [hav];exact hA _ _ (h.tms t)
 ·obtain ⟨h1,h2,h3⟩:=hz b hb;refine ⟨⟨hin3 b h2,h1⟩,fun o ho=>?_⟩;by_cases hd:D o
  ·exact h3 o hd ho
  ·exact hclash o b hd ((hsame o b hd).1 ho) h2
 ·by_cases hd:D o
  ·obtain ⟨h1,h2⟩:=(hin o hd).1;rw [h2 (by omega)];exact h.rt o v hl (by omega)
  ·obtain ⟨_,h1,_,h2,_⟩:=hout o hd;rw [h2];exact h.rt o v hl (by rw [← h1];exact hg0)
theorem SatR.step {B:Base} {σ σ':St} {a:Act} {w w':World} {ρ ρ':Ly} (h:SatR B σ a w ρ) (D:Nat→Prop) (hav:∀ t,σ'.av t=σ.av t)
  (hout:∀ o,¬ D o→σ'.kd o=σ.kd o∧σ'.gn o=σ.gn o∧(∀ i,σ'.ce o i=σ.ce o i)∧ρ' o=ρ o∧ρ'.inn o=ρ.inn o∧ρ'.ig o=ρ.ig o)
  (hin:∀ o,D o→(σ.gn o≤σ'.gn o∧(σ'.gn o=σ.gn o→ρ' o=ρ o))∧ρ.ig o≤ρ'.ig o∧(ρ'.ig o=ρ.ig o→ρ'.inn o=ρ.inn o))
  (hig:∀ o,ρ'.ig o=σ'.ig o) (hw:Belo (fun b=>∃ o,D o∧Owns σ ρ o b) w.heap.size w w') (hfp:∀ o b,D o→Owns σ' ρ' o b→w.heap.size≤b∨∃ p,D p∧Owns σ ρ p b)
  (hdis:∀ o p b,D o→D p→Owns σ' ρ' o b→Owns σ' ρ' p b→o=p)
  (hob:(∀ v x,RepI w (Imm B σ ρ w) v x→RepI w' (Imm B σ' ρ' w') v x)→(∀ v x,RepA w (Imm B σ ρ w) ρ σ.gn v x→RepA w' (Imm B σ' ρ' w') ρ' σ'.gn v x)→∀ o,D o→zmc B σ' ρ' w' o (σ'.kd o)) :
  SatR B σ' a w' ρ'∧(∀ v x,RepI w (Imm B σ ρ w) v x→RepI w' (Imm B σ' ρ' w') v x)∧∀ v x,RepA w (Imm B σ ρ w) ρ σ.gn v x→RepA w' (Imm B σ' ρ' w') ρ' σ'.gn v x:=by
 obtain ⟨h1,h2,h3,_⟩:=h.stepZ D B.Z hav hout hin hig ⟨hw.os,hw.tape,hw.output,hw.size,fun k hk hn=>hw.block k hk fun hh=>hn (.inr hh)⟩ (fun o b hd ho=>(hfp o b hd ho).elim .inl fun h=>.inr (.inr h)) hdis
  (fun b hb=>⟨Nat.lt_of_lt_of_le (h.res b hb).1.2 hw.size,.inr (.inl hb),fun o hd ho=>by
   rcases hfp o b hd ho with h1 | ⟨p,_,h1⟩
   ·have:=(h.res b hb).1.2;omega
   ·exact (h.res b hb).2 p h1⟩) hob
 exact ⟨h1,h2,h3⟩
theorem SatR.slots {B:Base} {σ σ':St} {a a':Act} {w:World} {ρ:Ly} (h:SatR B σ a w ρ) (hs:zlm σ σ') (ht:∀ t,RepA w (Imm B σ ρ w) ρ σ.gn (a'.tmps.getD t undef) (σ'.av t)) (hz:a'.tmps.size=B.n) (hd:a'.defers=B.ds):SatR B σ' a' w ρ:=by
 have hown:∀ o b,Owns σ' ρ o b↔Owns σ ρ o b:=fun o b=>by unfold Owns;rw [hs.kd]
 refine ⟨h.bel,fun o=>?_,fun o b ho=>h.own o b ((hown o b).1 ho),fun o p b ho hp=>h.dis o p b ((hown o b).1 ho) ((hown p b).1 hp),fun t=>?_,fun o=>by rw [hs.ig];exact h.igs o,fun b hb=>⟨(h.res b hb).1,fun o ho=>(h.res b hb).2 o ((hown o b).1 ho)⟩,fun o v hl hg=>h.rt o v hl (by rw [← hs.gn];exact hg),hz,hd⟩
 ·rw [hs.kd];refine (h.obs o).mono rfl rfl (fun i=>by rw [hs.ce]) (fun _ _=>rfl) (fun v x hr=>by rw [Imm.same hs.kd];exact hr) fun v x hr=>by rw [Imm.same hs.kd,hs.gn];exact hr
 ·rw [Imm.same hs.kd,hs.gn];exact ht t
theorem SatR.put {B:Base} {σ:St} {a:Act} {w:World} {ρ:Ly} (h:SatR B σ a w ρ) {d:Option Tmp} (hd:∀ t,d=some t→t<B.n) {u:Value} {v:AV} (hv:RepA w (Imm B σ ρ w) ρ σ.gn u v) :
  SatR B (app σ (wrT d v)) (a.put d u) w ρ:=by
 cases d with
 | none=>exact h
 | some d =>
  have hlt:d<a.tmps.size:=by rw [h.siz];exact hd d rfl
  refine h.slots (zlm.tmp σ d (.av v)) (fun t=>?_) (by simp [Act.put,h.siz]) h.dfr;show RepA _ _ _ _ _ ((upd σ (.tmp d) (.av v)).av t);rw [put_getD a d u t hlt,av_tmp];by_cases e:t=d
  ·rw [if_pos e,if_pos e];exact hv
  ·rw [if_neg e,if_neg e];exact h.tms t
theorem SatR.world {B:Base} {σ:St} {a:Act} {w w':World} {ρ:Ly} (h:SatR B σ a w ρ) (hb:Below w.heap.size w w'):SatR B σ a w' ρ∧∀ v x,RepI w (Imm B σ ρ w) v x→RepI w' (Imm B σ ρ w') v x:=by
 obtain ⟨h1,h2,_⟩:=h.step (σ':=σ) (ρ':=ρ) (w':=w') (fun _=>False) (fun _=>rfl) (fun o _=>⟨rfl,rfl,fun _=>rfl,rfl,rfl,rfl⟩) (fun o hd=>hd.elim) h.igs (.of hb) (fun o b hd=>hd.elim) (fun o p b hd=>hd.elim) fun _ _ o hd=>hd.elim;exact ⟨h1,h2⟩
theorem SatR.kill {B:Base} {σ:St} {a:Act} {w:World} {ρ:Ly} (h:SatR B σ a w ρ) (d:Nat):SatR B (upd σ (.knd d) (.kd .dead)) a w ρ∧∀ v x,RepI w (Imm B σ ρ w) v x→RepI w (Imm B (upd σ (.knd d) (.kd .dead)) ρ w) v x:=by
 obtain ⟨h1,h2,_⟩:=h.step (σ':=upd σ (.knd d) (.kd .dead)) (ρ':=ρ) (w':=w) (fun o=>o=d) (fun t=>zix σ d t _) (fun o hd=>⟨by rw [zev,if_neg hd],zgj σ d o _,fun i=>zj1 σ d o i _,rfl,rfl,rfl⟩)
  (fun o _=>⟨⟨by rw [zgj];exact Nat.le_refl _,fun _=>rfl⟩,Nat.le_refl _,fun _=>rfl⟩) (fun o=>by rw [zj3];exact h.igs o) (Belo.refl _ _ _) (fun o b hd ho=>by
   subst hd
   exact absurd (by rw [zev,if_pos rfl]) ho.lv) (fun o p b hd hp _ _=>hd.trans hp.symm) fun _ _ o hd=>by subst hd;rw [zev,if_pos rfl];trivial
 exact ⟨h1,h2⟩
theorem SatR.kills {B:Base} {a:Act} {w:World} {ρ:Ly}:∀ (bs:List (Nat×Nat)) {σ:St},SatR B σ a w ρ→SatR B (app σ (fwr bs)) a w ρ∧∀ v x,RepI w (Imm B σ ρ w) v x→RepI w (Imm B (app σ (fwr bs)) ρ w) v x
 | [],σ,h=>⟨h,fun _ _ hr=>hr⟩
 | b::bs,σ,h=>by
  obtain ⟨h1,h2⟩:=h.kill b.1;obtain ⟨h3,h4⟩:=SatR.kills bs h1;exact ⟨h3,fun v x hr=>h4 v x (h2 v x hr)⟩
theorem zsv (b:Nat) (cs:List AV):∀ (i:Nat) (σ:St),(app σ (zgg b i cs)).gn=σ.gn:=by
 induction cs with
 | nil=>intro i σ;rfl
 | cons c cs ih=>intro i σ;rw [zgg,zbq,ih];exact funext fun t=>gn_cel σ b i t _
theorem celWr_ig (b:Nat) (cs:List AV):∀ (i:Nat) (σ:St),(app σ (zgg b i cs)).ig=σ.ig:=by
 induction cs with
 | nil=>intro i σ;rfl
 | cons c cs ih=>intro i σ;rw [zgg,zbq,ih];exact funext fun t=>ig_cel σ b i t _
theorem zp4 (b:Nat) (cs:List AV):∀ (i:Nat) (σ:St),(app σ (zgg b i cs)).kd=σ.kd:=by
 induction cs with
 | nil=>intro i σ;rfl
 | cons c cs ih=>intro i σ;rw [zgg,zbq,ih];exact funext fun t=>kd_cel σ b i t _
theorem zsr (b:Nat) (cs:List AV):∀ (i:Nat) (σ:St),(app σ (zgg b i cs)).av=σ.av:=by
 induction cs with
 | nil=>intro i σ;rfl
 | cons c cs ih=>intro i σ;rw [zgg,zbq,ih];exact funext fun t=>av_cel σ b i t _
theorem znn (b:Nat) (cs:List AV):∀ (i:Nat) (σ:St) (p j:Nat),(app σ (zgg b i cs)).ce p j=if p=b∧i≤j∧j<i+cs.length then cs.getD (j-i) (.im .any) else σ.ce p j:=by
 induction cs with
 | nil =>
  intro i σ p j;rw [if_neg (fun e=>by have:=e.2;simp only [List.length_nil] at this;omega)];rfl
 | cons c cs ih =>
  intro i σ p j;rw [zgg,zbq,ih,ce_cel];simp only [zkL];by_cases hp:p=b
  ·by_cases hj:j=i
   ·subst hj;rw [if_neg (by omega),if_pos ⟨hp,rfl⟩,if_pos ⟨hp,by omega,by omega⟩];simp
   ·by_cases h:i+1≤j∧j<i+1+cs.length
    ·rw [if_pos ⟨hp,h⟩,if_pos ⟨hp,by omega,by omega⟩];obtain ⟨m,hm⟩:∃ m,j-i=m+1:=⟨j-i-1,by omega⟩;rw [hm,show j-(i+1)=m from by omega];simp
    ·rw [if_neg (fun e=>h e.2),if_neg (fun e=>hj e.2),if_neg (fun e=>h (by omega))]
  ·rw [if_neg (fun e=>hp e.1),if_neg (fun e=>hp e.1),if_neg (fun e=>hp e.1)]
theorem zaz (σ:St) (u v:List (Loc×Ct)):app σ (u++v)=app (app σ u) v:=by
 induction u generalizing σ with
 | nil=>rfl
 | cons p u ih=>exact ih _
def ze4 (σ:St) (used:Option Nat) (d:Nat) (k:Kd) (cs:List AV):St :=
 app (app (match used with | some b=>upd σ (.knd b) (.kd .dead) | none=>σ) [(.gen d,.n (σ.gn d+1)),(.knd d,.kd k)]) (zgg d 0 cs)
def setρ (ρ:Ly) (d:Nat) (v:Value):Ly:={ ρ with root:=fun o=>if o=d then v else ρ o }
theorem setρ_eq (ρ:Ly) (d:Nat) (v:Value) (o:Nat):(setρ ρ d v) o=if o=d then v else ρ o:=rfl
theorem znt (σ:St) (used:Option Nat) (d:Nat) (k:Kd) (cs:List AV) (o:Nat):(ze4 σ used d k cs).gn o=if o=d then σ.gn d+1 else σ.gn o:=by
 unfold ze4;rw [zsv];simp only [zbq,ze1];rw [zgj,gn_gen];cases used with
 | none=>rfl
 | some b=>simp only [zgj]
theorem znl (σ:St) (used:Option Nat) (d:Nat) (k:Kd) (cs:List AV) (o:Nat):(ze4 σ used d k cs).kd o=if o=d then k else if used=some o then .dead else σ.kd o:=by
 unfold ze4;rw [zp4];simp only [zbq,ze1];rw [zev,kd_gen];cases used with
 | none=>simp
 | some b =>
  simp only [zev,zkF];by_cases e:o=d
  ·simp [e]
  ·by_cases e2:o=b
   ·subst e2;simp
   ·rw [if_neg e,if_neg e,if_neg e2,if_neg (fun h=>e2 h.symm)]
theorem newSt_av (σ:St) (used:Option Nat) (d:Nat) (k:Kd) (cs:List AV) (t:Nat):(ze4 σ used d k cs).av t=σ.av t:=by
 unfold ze4;rw [zsr];simp only [zbq,ze1];rw [zix,av_gen];cases used with
 | none=>rfl
 | some b=>simp only [zix]
theorem newSt_ce (σ:St) (used:Option Nat) (d:Nat) (k:Kd) (cs:List AV) (o i:Nat) (h:o≠d):(ze4 σ used d k cs).ce o i=σ.ce o i:=by
 unfold ze4;rw [znn,if_neg (fun e=>h e.1)];simp only [zbq,ze1];rw [zj1,ce_gen];cases used with
 | none=>rfl
 | some b=>simp only [zj1]
theorem newSt_new (σ:St) (used:Option Nat) (d:Nat) (k:Kd) (cs:List AV) (i:Nat) (h:i<cs.length):(ze4 σ used d k cs).ce d i=cs.getD i (.im .any):=by
 unfold ze4;rw [znn,if_pos ⟨rfl,by omega,by omega⟩];rfl
theorem newSt_ig (σ:St) (used:Option Nat) (d:Nat) (k:Kd) (cs:List AV) (o:Nat):(ze4 σ used d k cs).ig o=σ.ig o:=by
 unfold ze4;rw [celWr_ig];simp only [zbq,ze1];rw [zj3,ig_gen];cases used with
 | none=>rfl
 | some b=>simp only [zj3]
section
variable {B:Base} {σ:St} {a:Act} {w w':World} {ρ:Ly} {used:Option Nat} {d:Nat} {k:Kd} {cs:List AV} {hv:Value} {row:Option Nat}
structure zux (σ:St) (w w':World) (ρ:Ly) (used:Option Nat) (hv:Value) (row:Option Nat):Prop where
 grown:w.grownBy w' row
 used_:∀ b,row=some b→∃ o,used=some o∧Owns σ ρ o b
 lies:∀ b,zba hv=some b→row=some b∨w.heap.size≤b
theorem SatR.new (h:SatR B σ a w ρ) (m:zux σ w w' ρ used hv row) (hk:noInn k=true) (hobj:(∀ v x,RepI w (Imm B σ ρ w) v x→RepI w' (Imm B (ze4 σ used d k cs) (setρ ρ d hv) w') v x) →
  (∀ v x,RepA w (Imm B σ ρ w) ρ σ.gn v x→RepA w' (Imm B (ze4 σ used d k cs) (setρ ρ d hv) w') (setρ ρ d hv) (ze4 σ used d k cs).gn v x)→zmc B (ze4 σ used d k cs) (setρ ρ d hv) w' d k) :
  SatR B (ze4 σ used d k cs) a w' (setρ ρ d hv):=by
 have hD:∀ o,¬ (o=d∨used=some o)→o≠d∧used≠some o:=fun o hd=>⟨fun e=>hd (.inl e),fun e=>hd (.inr e)⟩;refine (h.step (fun o=>o=d∨used=some o) (fun t=>newSt_av ..) (fun o hd=>?_) (fun o hd=>?_) (fun o=>by rw [newSt_ig];exact h.igs o) ?_ (fun o b hd ho=>?_) (fun o p b hd hp ho hp'=>?_) fun hI hA o hd=>?_).1
 ·obtain ⟨h1,h2⟩:=hD o hd;exact ⟨by rw [znl,if_neg h1,if_neg h2],by rw [znt,if_neg h1],fun i=>newSt_ce _ _ _ _ _ _ _ h1,by rw [setρ_eq,if_neg h1],rfl,rfl⟩
 ·refine ⟨⟨by rw [znt];split<;>(try subst_vars)<;>omega,fun e=>?_⟩,Nat.le_refl _,fun _=>rfl⟩;rw [znt] at e;by_cases e2:o=d
  ·rw [if_pos e2,e2] at e;omega
  ·rw [setρ_eq,if_neg e2]
 ·refine ⟨m.grown.os,m.grown.tape,m.grown.output,m.grown.size,fun b hb hn=>m.grown.block b hb fun e=>?_⟩;obtain ⟨o,ho,hob⟩:=m.used_ b e.symm;exact hn ⟨o,.inr ho,hob⟩
 ·by_cases e:o=d
  ·subst e;unfold Owns at ho;rw [znl,if_pos rfl,setρ_eq,if_pos rfl] at ho;rcases m.lies b (fpk_flat hk ho) with h1 | h1
   ·obtain ⟨p,hp,hpb⟩:=m.used_ b h1;exact .inr ⟨p,.inr hp,hpb⟩
   ·exact .inl h1
  ·have hu:=hd.resolve_left e;exact absurd (by rw [znl,if_neg e,if_pos hu]) ho.lv
 ·have hone:∀ o,(o=d∨used=some o)→Owns (ze4 σ used d k cs) (setρ ρ d hv) o b→o=d:=fun o hd ho=>by
   by_cases e:o=d
   ·exact e
   ·exact absurd (by rw [znl,if_neg e,if_pos (hd.resolve_left e)]) ho.lv
  rw [hone o hd ho,hone p hp hp']
 ·by_cases e:o=d
  ·subst e;rw [znl,if_pos rfl];exact hobj hI hA
  ·rw [znl,if_neg e,if_pos (hd.resolve_left e)];trivial
end
end
section
def Eff (P:Program) (B:Base) (o:Oper) (rd:List Loc) (σ:St) (wr:List (Loc×Ct)):Prop :=
 ∀ σ',(∀ l∈rd,σ' l=σ l)→∀ a w,Sat B σ' a w→∀ (K:Act→World→Prop) (Q:Exit→Act→World→Prop),(∀ a' w',Sat B (app σ' wr) a' w'→K a' w')→o.wp P a w K Q
section
variable {P:Program} {B:Base} {o:Oper} {σ:St} {K:Fx→Prop}
theorem zay {a:Act} {w:World} {ρ:Ly} (h:SatR B σ a w ρ) (x:Operand):RepA w (Imm B σ ρ w) ρ σ.gn (a.eval x) (evA σ x):=by
 cases x with
 | tmp t=>exact h.tms t
 | const v=>exact .im _ _ (.val v)
 | global g=>exact .im _ _ (.any _)
 | func f=>exact .im _ _ (.fn f [] [] rfl (by simp))
theorem zao {σ':St} {x:Operand} (h:∀ l∈opd x,σ' l=σ l):evA σ' x=evA σ x:=by
 cases x with
 | tmp t =>
  have e:=h (.tmp t) (by simp [opd]);show σ'.av t=σ.av t;unfold St.av;rw [e]
 | const v=>rfl
 | global g=>rfl
 | func f=>rfl
theorem RepA.im_inv {w:World} {S:Nat→Prop} {ρ:Ly} {γ:Nat→Nat} {v:Value} {x:IV} (h:RepA w S ρ γ v (.im x)):RepI w S v x:=by
 cases h with
 | im _ _ h=>exact h
theorem zb5 {w:World} {S:Nat→Prop} {ρ:Ly} {γ:Nat→Nat} {v:Value} {x:AV} {k:IntKind} {n:Int} (e:asInt x=some (k,n)) (h:RepA w S ρ γ v x):v=.int k n:=by
 unfold asInt at e;split at e
 ·injection e with e
  injection e with e1 e2
  subst e1 e2;cases h.im_inv;rfl
 ·cases e
theorem zja {w:World} {S:Nat→Prop} {ρ:Ly} {γ:Nat→Nat} {v:Value} {x:AV} {b:Bool} (e:asBool x=some b) (h:RepA w S ρ γ v x):v=.bool b:=by
 unfold asBool at e;split at e
 ·injection e with e
  subst e;cases h.im_inv;rfl
 ·cases e
theorem zuv {w:World} {S:Nat→Prop} {ρ:Ly} {γ:Nat→Nat} {v:Value} {x:AV} {b:ByteArray} (e:asStr x=some b) (h:RepA w S ρ γ v x):v=.string b:=by
 unfold asStr at e;split at e
 ·injection e with e
  subst e;cases h.im_inv;rfl
 ·cases e
theorem zmz (hd:zce B.n o=true):∀ t,o.dst=some t→t<B.n:=fun t e=>by
 unfold zce at hd;rw [e] at hd;exact of_decide_eq_true hd
theorem Eff.pure (hd:zce B.n o=true) {rd:List Loc} {v:AV}
  (h:∀ σ',(∀ l∈rd,σ' l=σ l)→∀ a w ρ,SatR B σ' a w ρ→∃ u,(execOp a.eval o).run P w=.ok (.value u) w∧RepA w (Imm B σ' ρ w) ρ σ'.gn u v):Eff P B o rd σ (wrT o.dst v):=by
 intro σ' hag a w ⟨ρ,hs⟩ K Q hK;obtain ⟨u,hr,hv⟩:=h σ' hag a w ρ hs;unfold Oper.wp;rw [hr,Oper.upon_value];exact hK _ _ ⟨ρ,hs.put (zmz hd) hv⟩
theorem aMove_ok {x:Operand} (hop:o.op=.move x∨o.op=.assign x) (hd:zce B.n o=true):Eff P B o (opd x) σ (wrT o.dst (evA σ x)) :=
 Eff.pure hd fun σ' hag a w ρ hs=>⟨a.eval x,by rcases hop with e | e<;>simp [execOp,e],by rw [← zao hag];exact zay hs x⟩
theorem vB_rep {w:World} {S:Nat→Prop} {ρ:Ly} {γ:Nat→Nat} (b:Bool):RepA w S ρ γ (.bool b) (vB b):=.im _ _ (.val _)
theorem zcv {w:World} {S:Nat→Prop} {ρ:Ly} {γ:Nat→Nat} (v:Value):RepA w S ρ γ v (.im (.val v)):=.im _ _ (.val _)
theorem zaw {σ':St} {l m:List Loc} (h:∀ x∈l++m,σ' x=σ x):∀ x∈l,σ' x=σ x:=fun x hx=>h x (List.mem_append_left _ hx)
theorem za0 {σ':St} {l m:List Loc} (h:∀ x∈l++m,σ' x=σ x):∀ x∈m,σ' x=σ x:=fun x hx=>h x (List.mem_append_right _ hx)
theorem Both.out {b:Bool} {A C:Prop} (h:Both b A C):(b=true→A)∧(b=false→C):=by unfold Both at h;exact h
theorem Nf.out {α:Type} {a:α} {F:α→Prop} (h:Nf a F):F a:=by unfold Nf at h;obtain ⟨b,rfl,h⟩:=h;exact h
theorem Cut.out {body:(St→Prop)→Prop} {rest:St→Prop} (h:Cut body rest):∃ Post:St→Prop,body (fun σ'=>∃ σ1,Ent σ' σ1∧Post σ1)∧∀ σ,Post σ→∃ φ,Holds σ φ∧(φ→rest σ):=by unfold Cut at h;exact h
theorem Side.out {A C:Prop} (h:Side A C):A∧C:=by unfold Side at h;exact h
theorem aPick_ok {c x y:Operand} (hop:o.op=.pick c x y) (hd:zce B.n o=true) (h:aPick o σ K c x y):∃ fx,K fx∧Eff P B o fx.rd σ fx.wr:=by
 unfold aPick at h;split at h
 ·rename_i t ht
  have run:∀ σ',(∀ l∈opd c++opd x++opd y,σ' l=σ l)→∀ a w ρ,SatR B σ' a w ρ→(execOp a.eval o).run P w=.ok (.value (if t=true then a.eval x else a.eval y)) w:=fun σ' hag a w ρ hs=>by
   have h1:=zay hs c;rw [zao (zaw (zaw hag))] at h1;simp [execOp,hop,zja ht h1,Go.asBool]
  have h:=h.out;cases ht2:t with
  | true =>
   refine ⟨_,h.1 ht2,Eff.pure hd fun σ' hag a w ρ hs=>⟨_,run σ' hag a w ρ hs,?_⟩⟩;have h1:=zay hs x;rw [zao (za0 (zaw hag))] at h1;rw [ht2];exact h1
  | false =>
   refine ⟨_,h.2 ht2,Eff.pure hd fun σ' hag a w ρ hs=>⟨_,run σ' hag a w ρ hs,?_⟩⟩;have h1:=zay hs y;rw [zao (za0 hag)] at h1;rw [ht2];exact h1
 ·exact h.elim
theorem rng_wrap {k:IntKind} {n:Int} (h:rng k n):k.wrap n=n:=by
 unfold rng at h;split at h
 ·exact IntWalk.i64_in n (by unfold inR at h;exact h)
 ·simp [IntKind.wrap,IntKind.bits,IntKind.signed];omega
 ·simp [IntKind.wrap,IntKind.bits,IntKind.signed];omega
 ·exact h.elim
theorem za8.out {k:IntKind} {n:Int} {F:Int→Prop} (h:za8 k n F):F (k.wrap n):=by
 unfold za8 at h;rcases h with ⟨h1,h2⟩ | h
 ·rw [rng_wrap h1];exact h2
 ·exact h
theorem aUn_ok {op:UnOp} {x:Operand} {t:TypeId} (hop:o.op=.unOp op t x) (hd:zce B.n o=true) (h:aUn o σ K op x):∃ fx,K fx∧Eff P B o fx.rd σ fx.wr:=by
 unfold aUn at h;split at h
 ·rename_i b hb;refine ⟨_,h,Eff.pure hd fun σ' hag a w ρ hs=>⟨.bool !b,?_,vB_rep _⟩⟩;have h1:=zay hs x;rw [zao hag] at h1;simp [execOp,hop,zja hb h1,Op.unary]
 ·split at h
  ·rename_i k n hx;refine ⟨_,h.out,Eff.pure hd fun σ' hag a w ρ hs=>⟨.int k (k.wrap (0-n)),?_,zcv _⟩⟩;have h1:=zay hs x;rw [zao hag] at h1;simp [execOp,hop,zb5 hx h1,Op.unary,Op.intArith]
  ·exact h.elim
 ·exact h.elim
theorem aBin_ok {op:BinOp} {x y:Operand} {t t':TypeId} (hop:o.op=.binOp op t x y t') (hd:zce B.n o=true) (h:aBin P o σ K op t x y):∃ fx,K fx∧Eff P B o fx.rd σ fx.wr:=by
 unfold aBin at h;split at h
 ·rename_i hsh;have hop2:op=.shr:=by cases op<;>first | rfl | cases hsh
  subst hop2;split at h
  ·rename_i k a kb b k' hx hy hu;obtain ⟨hk,h⟩:=h.ok;simp only [Bool.and_eq_true,decide_eq_true_eq] at hk;obtain ⟨rfl,rfl⟩:=hk;obtain ⟨⟨h1,h2,h3,h4⟩,h⟩:=h.out;refine ⟨_,h,Eff.pure hd fun σ' hag c w ρ hs=>⟨_,?_,zcv _⟩⟩;have g1:=zay hs x;have g2:=zay hs y;rw [zao (zaw hag)] at g1;rw [zao (za0 hag)] at g2;have hmin:min b.toNat IntKind.u64.bits=b.toNat:=by simp [IntKind.bits];omega
   have hb:¬ b<0:=by omega
   have hrun:binOp .shr t (.int .u64 a) (.int kb b)=Pure.pure (.int .u64 (a / 2^b.toNat)):=by
    simp only [binOp,Op.shift,if_neg hb,hmin];rw [Int.fdiv_eq_ediv_of_nonneg a (by exact Int.le_of_lt (Int.pow_pos (by decide)))]
   simp only [execOp,hop,zb5 hx g1,zb5 hy g2,Sem.run_bind,eqGuard,Result.andThen_ok,hrun,Sem.run_pure];rfl
  ·exact h.elim
 split at h
 ·rename_i a b hx hy;obtain ⟨hk,h2⟩:=h.ok;clear h;rw [Bool.and_eq_true] at hk;have hop2:op=.add:=by cases op<;>first | rfl | cases hk.2
  subst hop2;obtain ⟨h1,h⟩:=h2.out;refine ⟨_,h,Eff.pure hd fun σ' hag c w ρ hs=>⟨_,?_,zcv _⟩⟩;have g1:=zay hs x;have g2:=zay hs y;rw [zao (zaw hag)] at g1;rw [zao (za0 hag)] at g2
  have hle:¬ (((a.size+b.size:Nat):Int) > IntKind.i64.max):=by
   have:IntKind.i64.max=9223372036854775807:=by rfl
   rw [this];omega
  simp only [execOp,hop,zuv hx g1,zuv hy g2,Sem.run_bind,eqGuard,Result.andThen_ok,binOp,Op.stringOp,if_neg hle,Sem.run_pure];rfl
 ·split at h
  ·rename_i k b k' d hx hy;obtain ⟨hk,h⟩:=h.ok;have hk:=of_decide_eq_true hk;subst hk
   have fin:∀ v:Value,(binOp op t (.int k b) (.int k d)=Pure.pure v)→Eff P B o (opd x++opd y) σ (wrT o.dst (.im (.val v))):=fun v hv =>
    Eff.pure hd fun σ' hag a w ρ hs=>by
     have h1:=zay hs x;have h2:=zay hs y;rw [zao (zaw hag)] at h1;rw [zao (za0 hag)] at h2;refine ⟨v,?_,zcv _⟩
     have hg:∀ W,(eqGuard op t x y (.int k b) (.int k d)).run P W=.ok () W:=fun W=>by
      unfold eqGuard;cases op<;>rfl
     simp only [execOp,hop,zb5 hx h1,zb5 hy h2,Sem.run_bind,hg,Result.andThen_ok,hv,Sem.run_pure]
   cases op<;>simp only at h
   case add=>exact ⟨_,h.out,fin _ (by simp [binOp,Op.intArith])⟩
   case sub=>exact ⟨_,h.out,fin _ (by simp [binOp,Op.intArith])⟩
   case mul=>exact ⟨_,h.out,fin _ (by simp [binOp,Op.intArith])⟩
   case quo =>
    obtain ⟨⟨h1,h2,h3⟩,h⟩:=h.out;exact ⟨_,h,fin _ (by simp [binOp,Op.intDiv,Int.tdiv_eq_ediv_of_nonneg h2,rng_wrap h1];omega)⟩
   case rem =>
    obtain ⟨⟨h1,h2,h3⟩,h⟩:=h.out;exact ⟨_,h,fin _ (by simp [binOp,Op.intDiv,Int.tmod_eq_emod_of_nonneg h2];omega)⟩
   case xor=>exact ⟨_,h,fin _ (by simp [binOp,Op.intBits,xorK])⟩
   case eql=>exact ⟨_,h,fin _ (by simp [binOp,Op.intCmp];rfl)⟩
   case neq=>exact ⟨_,h,fin _ (by simp [binOp,Op.intCmp,bne];rfl)⟩
   case lss=>exact ⟨_,h,fin _ (by simp [binOp,Op.intCmp])⟩
   case leq=>exact ⟨_,h,fin _ (by simp [binOp,Op.intCmp])⟩
   case gtr=>exact ⟨_,h,fin _ (by simp [binOp,Op.intCmp])⟩
   case geq=>exact ⟨_,h,fin _ (by simp [binOp,Op.intCmp])⟩
   all_goals exact h.elim
  ·split at h
   ·rename_i b d hx hy
    have fin:∀ v:Value,(∀ W,(binOp op t (.bool b) (.bool d)).run P W=.ok v W)→Eff P B o (opd x++opd y) σ (wrT o.dst (.im (.val v))):=fun v hv =>
     Eff.pure hd fun σ' hag a w ρ hs=>by
      have h1:=zay hs x;have h2:=zay hs y;rw [zao (zaw hag)] at h1;rw [zao (za0 hag)] at h2;refine ⟨v,?_,zcv _⟩
      have hg:∀ W,(eqGuard op t x y (.bool b) (.bool d)).run P W=.ok () W:=fun W=>by
       unfold eqGuard;cases op<;>rfl
      simp only [execOp,hop,zja hx h1,zja hy h2,Sem.run_bind,hg,Result.andThen_ok,hv,Sem.run_pure]
    have hbl:isBl P t=true→P.underlying t=some .bool:=fun e=>by
     unfold isBl at e;split at e
     ·assumption
     ·cases e
    cases op<;>simp only at h
    case eql=>obtain ⟨h1,h⟩:=h.ok;exact ⟨_,h,fin _ (fun W=>run_eql_bool W t b d (hbl h1))⟩
    case neq=>obtain ⟨h1,h⟩:=h.ok;exact ⟨_,h,fin _ (fun W=>run_neq_bool W t b d (hbl h1))⟩
    all_goals exact h.elim
   ·exact h.elim
theorem nilP_inv {w:World} {S:Nat→Prop} {ρ:Ly} {γ:Nat→Nat} {v:Value} {x:AV} {b:Bool} (e:nilP x=some b) (h:RepA w S ρ γ v x):∃ q:Option Addr,v=.pointer q∧q.isNone=b:=by
 unfold nilP at e;split at e
 ·injection e with e
  have h:=h.im_inv;cases h;exact ⟨none,rfl,e⟩
 ·injection e with e
  have h:=h.im_inv;cases h;exact ⟨_,rfl,e⟩
 ·injection e with e
  have h:=h.im_inv;cases h;exact ⟨_,rfl,e⟩
 ·cases e
theorem zwa {t:TypeId} (hp:isPt P t=true) (q:Option Addr) (W:World):(Op.equal t (.pointer q) (.pointer none)).run P W=.ok q.isNone W:=by
 unfold isPt at hp;split at hp
 ·rename_i e hu;unfold Op.equal Op.maxDepth Op.equalIn;rw [Sem.run_bind,run_underlying hu];cases q<;>simp
 ·cases hp
theorem aBinN_ok {op:BinOp} {t z:TypeId} {x y:Operand} (hop:o.op=.binOp op t x y z) (hp:isPt P t=true) (hd:zce B.n o=true) (h:aBinN o σ K op x y):∃ fx,K fx∧Eff P B o fx.rd σ fx.wr:=by
 unfold aBinN at h;split at h
 ·rename_i b hx hy
  have fin:∀ v:Value,(∀ q W,q.isNone=b→(binOp op t (.pointer q) (.pointer none)).run P W=.ok v W)→Eff P B o (opd x++opd y) σ (wrT o.dst (.im (.val v))):=fun v hv =>
   Eff.pure hd fun σ' hag a w ρ hs=>by
    have h1:=zay hs x;have h2:=zay hs y;rw [zao (zaw hag)] at h1;rw [zao (za0 hag)] at h2;obtain ⟨q,e1,e2⟩:=nilP_inv hx h1;obtain ⟨q',e3,e4⟩:=nilP_inv hy h2;cases q' with
    | some _=>cases e4
    | none =>
     refine ⟨v,?_,zcv _⟩
     have hg:∀ W,(eqGuard op t x y (.pointer q) (.pointer none)).run P W=.ok () W:=fun W=>by
      unfold eqGuard;cases op<;>rfl
     simp only [execOp,hop,e1,e3,Sem.run_bind,hg,Result.andThen_ok,hv q _ e2,Sem.run_pure]
  cases op<;>simp only at h
  case eql=>exact ⟨_,h,fin _ fun q W e=>by simp only [binOp,Sem.run_bind,zwa hp,Result.andThen_ok,Sem.run_pure,e]⟩
  case neq=>exact ⟨_,h,fin _ fun q W e=>by simp only [binOp,Sem.run_bind,zwa hp,Result.andThen_ok,Sem.run_pure,e]⟩
  all_goals exact h.elim
 ·exact h.elim
theorem isNilC_inv {w:World} {S:Nat→Prop} {ρ:Ly} {γ:Nat→Nat} {v:Value} {x:AV} (e:isNilC x=true) (h:RepA w S ρ γ v x):v=.slice none 0 0:=by
 unfold isNilC at e;split at e
 ·have h:=h.im_inv;cases h;rfl
 ·cases e
theorem nilS_inv {w:World} {S:Nat→Prop} {ρ:Ly} {γ:Nat→Nat} {v:Value} {x:AV} {b:Bool} (e:nilS x b) (h:RepA w S ρ γ v x):∃ (q:Option Addr) (n c:Nat),v=.slice q n c∧q.isNone=b:=by
 unfold nilS at e;split at e
 ·have h:=h.im_inv;rcases e with ⟨rfl,rfl⟩ | ⟨rfl,es,rfl⟩
  ·cases h;exact ⟨none,0,0,rfl,rfl⟩
  ·cases h;exact ⟨_,_,_,rfl,rfl⟩
 ·exact e.elim
theorem zuj {t:TypeId} (hp:isSl P t=true) (q:Option Addr) (n c:Nat) (W:World):(Op.equal t (.slice q n c) (.slice none 0 0)).run P W=.ok q.isNone W:=by
 unfold isSl at hp;split at hp
 ·rename_i e hu;unfold Op.equal Op.maxDepth Op.equalIn;rw [Sem.run_bind,run_underlying hu];cases q<;>simp
 ·cases hp
theorem aBinZ_ok {op:BinOp} {t z:TypeId} {x y:Operand} (hop:o.op=.binOp op t x y z) (hp:isSl P t=true) (hd:zce B.n o=true) (h:aBinZ o σ K op x y):∃ fx,K fx∧Eff P B o fx.rd σ fx.wr:=by
 unfold aBinZ at h;split at h
 ·rename_i hy;obtain ⟨b,hx,h⟩:=h
  have fin:∀ v:Value,(∀ q n c W,q.isNone=b→(binOp op t (.slice q n c) (.slice none 0 0)).run P W=.ok v W)→Eff P B o (opd x++opd y) σ (wrT o.dst (.im (.val v))):=fun v hv =>
   Eff.pure hd fun σ' hag a w ρ hs=>by
    have h1:=zay hs x;have h2:=zay hs y;rw [zao (zaw hag)] at h1;rw [zao (za0 hag)] at h2;obtain ⟨q,n,c,e1,e2⟩:=nilS_inv hx h1;have e3:=isNilC_inv hy h2;refine ⟨v,?_,zcv _⟩
    have hg:∀ W,(eqGuard op t x y (.slice q n c) (.slice none 0 0)).run P W=.ok () W:=fun W=>by
     unfold eqGuard;cases op<;>rfl
    simp only [execOp,hop,e1,e3,Sem.run_bind,hg,Result.andThen_ok,hv q n c _ e2,Sem.run_pure]
  cases op<;>simp only at h
  case eql=>exact ⟨_,h,fin _ fun q n c W e=>by simp only [binOp,Sem.run_bind,zuj hp,Result.andThen_ok,Sem.run_pure,e]⟩
  case neq=>exact ⟨_,h,fin _ fun q n c W e=>by simp only [binOp,Sem.run_bind,zuj hp,Result.andThen_ok,Sem.run_pure,e]⟩
  all_goals exact h.elim
 ·exact h.elim
theorem aConvert_ok {s d:TypeId} {x:Operand} (hop:o.op=.convert s d x) (hd:zce B.n o=true) (hsrc:∃ u,P.underlying s=some u) (h:aConvert P o σ K d x):∃ fx,K fx∧Eff P B o fx.rd σ fx.wr:=by
 unfold aConvert at h;split at h
 ·rename_i k0 n k hx hu;obtain ⟨h1,h⟩:=h.out;obtain ⟨u,hs0⟩:=hsrc;refine ⟨_,h,Eff.pure hd fun σ' hag a w ρ hs=>⟨.int k n,?_,zcv _⟩⟩;have h2:=zay hs x;rw [zao hag] at h2;simp [execOp,hop,zb5 hx h2,convert,run_underlying hu,run_underlying hs0,Conv.intToInt,rng_wrap h1]
 ·exact h.elim
end
end
section
section
variable {P:Program} {B:Base} {o:Oper} {σ:St} {K:Fx→Prop}
theorem agg_run {t:TypeId} {b:Bool} (h:zv1 P t=some b) (w:World):(isAgg t).run P w=.ok b w:=by
 unfold zv1 at h;cases hu:P.underlying t with
 | none=>rw [hu] at h;cases h
 | some d =>
  rw [hu] at h;simp only [Option.map_some,zkF] at h;cases d<;>simp_all [isAgg,run_underlying hu]
theorem ziy {t:TypeId} {m:Nat} (h:szOf P t=some m) (w:World):(Go.sizeOf t).run P w=.ok m w:=by
 unfold szOf at h;cases hi:P.info? t with
 | none=>rw [hi] at h;cases h
 | some i =>
  rw [hi] at h;simp only [Option.map_some,zkF] at h;simp [Go.sizeOf,typeInfo,hi,h]
theorem fld_spec {t:TypeId} {f off ft:Nat} (h:fldOf P t f=some (off,ft)):∃ fs x,P.underlying t=some (.struct fs)∧fs[f]?=some x∧x.offset=off∧x.type=ft:=by
 unfold fldOf at h;split at h
 ·rename_i fs hu;cases hx:fs[f]? with
  | none=>rw [hx] at h;cases h
  | some x =>
   rw [hx] at h;simp only [Option.map_some,zkF,zkG] at h;exact ⟨fs,x,hu,hx,h.1,h.2⟩
 ·cases h
theorem zd1 {t e:TypeId} (h:zir P t=some e):P.underlying t=some (.slice e):=by
 unfold zir at h;split at h
 ·rename_i e' hu;injection h with h
  rw [← h];exact hu
 ·cases h
theorem zd2 {σ':St} {b:Nat} (h:σ' (.gen b)=σ (.gen b)):σ'.gn b=σ.gn b:=by unfold St.gn;rw [h]
theorem zo0 {σ':St} {b:Nat} (h:σ' (.knd b)=σ (.knd b)):σ'.kd b=σ.kd b:=by unfold St.kd;rw [h]
theorem ce_same {σ':St} {b i:Nat} (h:σ' (.cel b i)=σ (.cel b i)):σ'.ce b i=σ.ce b i:=by unfold St.ce;rw [h]
theorem boxLen_same {σ':St} {b:Nat} (h:σ'.kd b=σ.kd b):zj8 σ' b=zj8 σ b:=by unfold zj8;rw [h]
theorem zwc:∀ {cs:List AV} {l:List IV},toIVs cs=some l→cs=l.map .im
 | [],l,h=>by simp only [toIVs,zkF] at h;subst h;rfl
 | .im x::cs,l,h=>by
  simp only [toIVs] at h;cases hc:toIVs cs with
  | none=>rw [hc] at h;cases h
  | some l' =>
   rw [hc] at h;simp only [Option.map_some,zkF] at h;subst h;rw [zwc hc];rfl
 | .own ..::_,_,h=>by cases h
 | .osl ..::_,_,h=>by cases h
 | .elt ..::_,_,h=>by cases h
 | .fn ..::_,_,h=>by cases h
 | .agg ..::_,_,h=>by cases h
 | .tup ..::_,_,h=>by cases h
def Reps (w:World) (S:Nat→Prop) (ρ:Ly) (γ:Nat→Nat) (us:List Value) (cs:List AV):Prop :=
 us.length=cs.length∧∀ (i:Nat) u x,us[i]?=some u→cs[i]?=some x→RepA w S ρ γ u x
def zj0 (w:World) (S:Nat→Prop) (us:List Value) (cs:List IV):Prop :=
 us.length=cs.length∧∀ (i:Nat) u x,us[i]?=some u→cs[i]?=some x→RepI w S u x
theorem Reps.ims {w:World} {S:Nat→Prop} {ρ:Ly} {γ:Nat→Nat} {us:List Value} {l:List IV} (h:Reps w S ρ γ us (l.map .im)):zj0 w S us l :=
 ⟨by simpa using h.1,fun i u x hu hx=>(h.2 i u (.im x) hu (by simp [hx])).im_inv⟩
theorem zqd {w:World} {S:Nat→Prop} {ρ:Ly} {γ:Nat→Nat} {us:List Value} {cs:List AV} (h:Reps w S ρ γ us cs) (h1:∀ u∈us,u.oneCell'=true):RepA w S ρ γ (.agg us.toArray) (aggA cs):=by
 unfold aggA;split
 ·rename_i l hl;have e:=zwc hl;rw [e] at h;have h:=h.ims;exact .im _ _ (.agg us l h.1 h1 h.2)
 ·exact .agg us cs h.1 h1 h.2
theorem zi0 {a:Act} {w:World} {ρ:Ly} (h:SatR B σ a w ρ) {v:Value} {b g i m:Nat} {t:TypeId} (hv:RepA w (Imm B σ ρ w) ρ σ.gn v (.own b g i)) (hg:σ.gn b=g) (hk:σ.kd b=.box t m) :
  ∃ (q:Nat) (us:List Value),v=.pointer (some ⟨q,i,none⟩)∧ρ b=.pointer (some ⟨q,0,none⟩)∧w.heap[q]?=some (.cells us.toArray t (0,0))∧us.length=m∧(∀ u∈us,u.oneCell'=true) ∧
   (∀ (j:Nat) u,us[j]?=some u→w.cell? ⟨q,j,none⟩=some u)∧∀ (j:Nat) u,us[j]?=some u→RepA w (Imm B σ ρ w) ρ σ.gn u (σ.ce b j):=by
 cases hv with
 | own _ _ _ _ h1 hgg hh =>
  obtain ⟨q,e1,e2⟩:=hh hg;have ho:=h.obs b;rw [hk] at ho;obtain ⟨q',us,e3,h3,h4,h5,h6⟩:=ho;rw [e1] at e3;injection e3 with e3
  injection e3 with e3
  injection e3 with e3
  subst e3;refine ⟨q,us,e2,e1,h3,h4,h5,fun j u hu=>?_,h6⟩;unfold World.cell?;simp only [h3];simpa using hu
theorem zjl {b i:Nat} (h:i<zj8 σ b):∃ t m,σ.kd b=.box t m∧i<m:=by
 unfold zj8 at h;split at h
 ·rename_i t m hk;exact ⟨t,m,hk,h⟩
 ·omega
theorem zpf {b:Nat} {t:TypeId} {m:Nat} (h:σ.kd b=.box t m):zj8 σ b=m:=by unfold zj8;rw [h]
theorem flat_get {α:Type} {k:Nat}:∀ {es:List (List α)} {i j:Nat} {e:List α},(∀ x∈es,x.length=k)→es[i]?=some e→j<k→es.flatten[i*k+j]?=e[j]?
 | [],i,j,e,_,h,_=>by simp at h
 | x::es,0,j,e,hk,h,hj=>by
  simp only [List.getElem?_cons_zero,zkF] at h;subst h;have:=hk x (by simp);rw [List.flatten_cons,Nat.zero_mul,Nat.zero_add,List.getElem?_append,if_pos (by omega)]
 | x::es,i+1,j,e,hk,h,hj=>by
  have hx:=hk x (by simp);rw [List.flatten_cons,List.getElem?_append,if_neg (by rw [hx,Nat.add_mul];omega),hx];have e1:(i+1)*k+j-k=i*k+j:=by rw [Nat.add_mul];omega
  rw [e1];exact flat_get (fun y hy=>hk y (by simp [hy])) (by simpa using h) hj
theorem zbb {α:Type} {k:Nat}:∀ {es:List (List α)},(∀ x∈es,x.length=k)→es.flatten.length=es.length*k
 | [],_=>by simp
 | x::es,h=>by
  rw [List.flatten_cons,zkJ,zbb fun y hy=>h y (by simp [hy]),h x (by simp),zkL,Nat.add_mul];omega
theorem esOf_cases {k:Kd} {es:List (List IV)} (h:esOf k=some es):∃ t n,k=.row t n es∨k=.que t n es:=by
 cases k with
 | row t n es'=>injection h with h;subst h;exact ⟨t,n,.inl rfl⟩
 | que t n es'=>injection h with h;subst h;exact ⟨t,n,.inr rfl⟩
 | _=>cases h
theorem es_form {a:Act} {w:World} {ρ:Ly} (h:SatR B σ a w ρ) {b:Nat} {es:List (List IV)} (hk:esOf (σ.kd b)=some es):∃ (k:Nat) (us:List Value),(∀ x∈es,x.length=k)∧us.length=es.flatten.length∧(∀ u∈us,u.oneCell'=true)∧(∀ (p:Nat) u x,us[p]?=some u→es.flatten[p]?=some x→RepI w (Imm B σ ρ w) u x) ∧
  ((ρ b=.slice none 0 0∧es.length=0)∨∃ q off cap,ρ b=.slice (some ⟨q,off,none⟩) es.length cap∧∀ (p:Nat) u,us[p]?=some u→w.cell? ⟨q,off+p,none⟩=some u):=by
 obtain ⟨t,n,hk | hk⟩:=esOf_cases hk
 ·have ho:=h.obs b;rw [hk] at ho;obtain ⟨us,h2,h3,h4,h5,h6,h7,h8⟩:=ho;refine ⟨n,us,h3,h6,h7,h8,?_⟩;rcases h5.2 with ⟨e,e0⟩ | ⟨q,cap,cur,e,e4⟩
  ·exact .inl ⟨e,e0⟩
  ·refine .inr ⟨q,0,cap,e,fun p u hu=>?_⟩;have:=h5.cells (g:=q) (by rw [e];rfl) p u hu
   rwa [addr_add] at this
 ·have ho:=h.obs b;rw [hk] at ho;obtain ⟨us,h2,h3,h4,h5,h6,h7,h8⟩:=ho;refine ⟨n,us,h3,h5,h6,h7,?_⟩;rcases h8 with ⟨e,e0⟩ | ⟨q,off,cap,cur,e,e1,e2,e3,e4,e5⟩
  ·exact .inl ⟨e,by rw [e0];rfl⟩
  ·exact .inr ⟨q,off,cap,e,fun p u hu=>by unfold World.cell?;simp only [e1];simpa using e5 p u hu⟩
theorem elt_read {a:Act} {w:World} {ρ:Ly} (h:SatR B σ a w ρ) {v:Value} {b g k i j:Nat} {es:List (List IV)} {e:List IV} (hv:RepA w (Imm B σ ρ w) ρ σ.gn v (.elt b g k i j)) (hg:σ.gn b=g) (hk:esOf (σ.kd b)=some es)
  (he:es[i]?=some e) (hek:e.length=k):∃ (q off:Nat) (us:List Value),v=.pointer (some ⟨q,off+(i*k+j),none⟩)∧us.length=es.flatten.length∧(∀ x∈es,x.length=k)∧(∀ u∈us,u.oneCell'=true) ∧
   (∀ (p:Nat) u,us[p]?=some u→w.cell? ⟨q,off+p,none⟩=some u)∧∀ (p:Nat) u x,us[p]?=some u→es.flatten[p]?=some x→RepI w (Imm B σ ρ w) u x:=by
 cases hv with
 | elt _ _ _ _ _ _ h1 hgg hh =>
  obtain ⟨q,off,n,c,e1,e2⟩:=hh hg;obtain ⟨kk,us,h3,h6,h7,h8,h9⟩:=es_form h hk;have hkk:kk=k:=by rw [← hek];exact (h3 e (zkH he)).symm
  subst hkk;rcases h9 with ⟨f1,f2⟩ | ⟨q',off',cap,f1,f2⟩
  ·rw [f1] at e1;cases e1
  ·rw [f1] at e1;injection e1 with e1 _ _
   injection e1 with e1
   injection e1 with e1 e3
   subst e1 e3;exact ⟨q',off',us,e2,h6,h3,h7,f2,h8⟩
theorem zee {a b:Nat} (h:Nat.blt a b=true):a<b:=by simp [Nat.blt] at h;omega
theorem zic {a b:Nat} (h:Nat.ble a b=true):a≤b:=by simpa using h
theorem zn0 {t:TypeId} (h:zv1 P t=some false) {ad:Addr} {w:World} {u:Value} (hu:w.cell? ad=some u):(Instr.loadAt t (.pointer (some ad))).run P w=.ok u w:=by
 simp [Instr.loadAt,Instr.sureAddr,loadVar,agg_run h,hu]
theorem zpx {t:TypeId} {us:List Value} (h:zv1 P t=some true) (hs:szOf P t=some us.length) {b q:Nat} {w:World} (hu:∀ (j:Nat) u,us[j]?=some u→w.cell? ⟨b,q+j,none⟩=some u):(Instr.loadAt t (.pointer (some ⟨b,q,none⟩))).run P w=.ok (.agg us.toArray) w:=by
 have:=run_loadCells_list (P:=P) (w:=w) ⟨b,q,none⟩ us (fun j u hj=>by rw [addr_add];exact hu j u hj);simp [Instr.loadAt,Instr.sureAddr,loadVar,agg_run h,ziy hs,this]
theorem zc3 {α:Type} {l:List α} {i m j:Nat} {x:α} (h:((l.drop i).take m)[j]?=some x):l[i+j]?=some x∧j<m:=by
 rw [List.getElem?_take] at h;split at h
 ·rename_i hj;rw [List.getElem?_drop] at h;exact ⟨h,hj⟩
 ·cases h
theorem zdc {σ':St} {l:List Loc} {b:Nat} {r:List Loc} (h:∀ x∈l++(.gen b::.knd b::r),σ' x=σ x):(∀ x∈l,σ' x=σ x)∧σ'.gn b=σ.gn b∧σ'.kd b=σ.kd b∧∀ x∈r,σ' x=σ x :=
 ⟨zaw h,zd2 (za0 h _ (by simp)),zo0 (za0 h _ (by simp)),fun x hx=>za0 h x (by simp [hx])⟩
theorem aLoad_ok {t:TypeId} {p:Operand} (hop:o.op=.load t p) (hd:zce B.n o=true) (h:aLoad P o σ K t p):∃ fx,K fx∧Eff P B o fx.rd σ fx.wr:=by
 have run:∀ (a:Act) w v,(Instr.loadAt t (a.eval p)).run P w=.ok v w→(execOp a.eval o).run P w=.ok (.value v) w:=fun a w v hv=>by simp [execOp,hop,hv]
 unfold aLoad at h;split at h
 ·rename_i hagg;split at h
  ·rename_i c cs hp;refine ⟨_,h,Eff.pure hd fun σ' hag a w ρ hs=>?_⟩;have h1:=zay hs p;rw [zao hag,hp] at h1;have h1:=h1.im_inv;generalize hv:a.eval p=v at h1;cases h1 with
   | ref b q us _ hS hl a2 hu hr =>
    have hlen:0<us.length:=by rw [hl];simp
    obtain ⟨u,hu0⟩:∃ u,us[0]?=some u:=⟨_,zkM hlen⟩;exact ⟨u,run a w u (by rw [hv];exact zn0 hagg (hu 0 u hu0)),.im _ _ (hr 0 u c hu0 rfl)⟩
  ·rename_i b g i hp;obtain ⟨hi,h⟩:=h.ok;obtain ⟨hg,h⟩:=h.out;obtain ⟨t',m,hk,him⟩:=zjl (zee hi);refine ⟨_,h,Eff.pure hd fun σ' hag a w ρ hs=>?_⟩;obtain ⟨ha,hg',hk',hr'⟩:=zdc hag;have h1:=zay hs p;rw [zao ha,hp] at h1;obtain ⟨q,us,e,_,_,hl,a2,hc,hr⟩:=zi0 hs h1 (hg'.trans hg) (hk'.trans hk);obtain ⟨u,hu⟩:∃ u,us[i]?=some u:=⟨_,zkM (by omega)⟩;refine ⟨u,run a w u (by rw [e];exact zn0 hagg (hc i u hu)),?_⟩;rw [← ce_same (hr' (.cel b i) (by simp))];exact hr i u hu
  ·rename_i b g k i j hp;split at h
   ·rename_i es hk;obtain ⟨e,c,⟨hg,he,hc,hek⟩,h⟩:=h;refine ⟨_,h,Eff.pure hd fun σ' hag a w ρ hs=>?_⟩;obtain ⟨ha,hg',hk',_⟩:=zdc hag;have h1:=zay hs p;rw [zao ha,hp] at h1;obtain ⟨q,off,us,ev,hl,hkk,a2,hcc,hr⟩:=elt_read hs h1 (hg'.trans hg) (by rw [hk'];exact hk) he hek;have hj:j<k:=by rw [← hek];exact (zkI.1 hc).1
    have hf:=flat_get hkk he hj;rw [hc] at hf;obtain ⟨u,hu⟩:∃ u,us[i*k+j]?=some u:=⟨_,zkM (by rw [hl];exact (zkI.1 hf).1)⟩;exact ⟨u,run a w u (by rw [ev];exact zn0 hagg (hcc _ u hu)),.im _ _ (hr _ u c hu hf)⟩
   ·exact h.elim
  ·exact h.elim
 ·rename_i hagg;split at h
  ·rename_i m hm;split at h
   ·rename_i cs hp;obtain ⟨hi,h⟩:=h.ok;have hi:=zic hi;refine ⟨_,h,Eff.pure hd fun σ' hag a w ρ hs=>?_⟩;have h1:=zay hs p;rw [zao hag,hp] at h1;have h1:=h1.im_inv;generalize hv:a.eval p=v at h1;cases h1 with
    | ref b q us _ hS hl a2 hu hr =>
     have hlt:(us.take m).length=m:=by rw [List.length_take];omega
     refine ⟨.agg (us.take m).toArray,run a w _ (by
      rw [hv]
      exact zpx hagg (by rw [hlt];exact hm) fun j u hj=>hu j u (by rw [List.getElem?_take] at hj;split at hj;exact hj;cases hj)),.im _ _ (.agg _ _ (by rw [hlt,List.length_take];omega) (fun u hu'=>a2 u (List.mem_of_mem_take hu')) fun j u x hj hx=>?_)⟩
     rw [List.getElem?_take] at hj hx;split at hj
     ·rename_i hjm;rw [if_pos hjm] at hx;exact hr j u x hj hx
     ·cases hj
   ·rename_i b g i hp;obtain ⟨hi,h⟩:=h.ok;obtain ⟨hg,h⟩:=h.out;rw [Bool.and_eq_true] at hi;have hm0:=zee hi.1;have hi:=zic hi.2;refine ⟨_,h,Eff.pure hd fun σ' hag a w ρ hs=>?_⟩;have hag':∀ x∈opd p++(.gen b::.knd b::(List.range m).map (fun j=>Loc.cel b (i+j))),σ' x=σ x:=fun x hx=>hag x (by simpa using hx);obtain ⟨ha,hg',hk',hr'⟩:=zdc hag';have h1:=zay hs p;rw [zao ha,hp] at h1;obtain ⟨t',m',hk,him⟩:=zjl (σ:=σ) (b:=b) (i:=i) (by omega);obtain ⟨q,us,e,_,_,hl,a2,hc,hr⟩:=zi0 hs h1 (hg'.trans hg) (hk'.trans hk);have hbl:=zpf hk;have hlt:((us.drop i).take m).length=m:=by rw [List.length_take,List.length_drop];omega
    refine ⟨.agg ((us.drop i).take m).toArray,run a w _ (by
     rw [e]
     exact zpx hagg (by rw [hlt];exact hm) fun j u hj=>hc (i+j) u (zc3 hj).1),zqd ⟨by rw [hlt];simp,fun j u x hj hx=>?_⟩ fun u hu=>a2 u (List.mem_of_mem_drop (List.mem_of_mem_take hu))⟩
    obtain ⟨h3,hjm⟩:=zc3 hj;simp only [List.getElem?_map,List.getElem?_range hjm,Option.map_some,zkF] at hx;rw [← hx,← ce_same (hr' (.cel b (i+j)) (by simp;exact hjm))];exact hr _ u h3
   ·rename_i b g k i j hp;split at h
    ·rename_i es hk;obtain ⟨e,⟨hg,he,hje,hek⟩,h⟩:=h;refine ⟨_,h,Eff.pure hd fun σ' hag a w ρ hs=>?_⟩;obtain ⟨ha,hg',hk',_⟩:=zdc hag;have h1:=zay hs p;rw [zao ha,hp] at h1;obtain ⟨q,off,us,ev,hl,hkk,a2,hcc,hr⟩:=elt_read hs h1 (hg'.trans hg) (by rw [hk'];exact hk) he hek;have hil:i<es.length:=(zkI.1 he).1;have hfl:=zbb hkk
     have hmul:i*k+k≤es.length*k:=by
      have:=Nat.mul_le_mul_right k (show i+1≤es.length from hil);rw [Nat.add_mul] at this;omega
     have hlt:((us.drop (i*k+j)).take m).length=m:=by rw [List.length_take,List.length_drop,hl,hfl];omega
     refine ⟨.agg ((us.drop (i*k+j)).take m).toArray,run a w _ (by
      rw [ev]
      exact zpx hagg (by rw [hlt];exact hm) fun p u hj=>by rw [Nat.add_assoc];exact hcc _ u (zc3 hj).1),.im _ _ (.agg _ _ (by rw [hlt,List.length_take,List.length_drop];omega) (fun u hu=>a2 u (List.mem_of_mem_drop (List.mem_of_mem_take hu))) fun p u x hj hx=>?_)⟩
     obtain ⟨h3,hpm⟩:=zc3 hj;obtain ⟨h4,_⟩:=zc3 hx;have hf:=flat_get hkk he (j:=j+p) (by omega);rw [h4,← Nat.add_assoc] at hf;exact hr _ u x h3 hf
    ·exact h.elim
   ·exact h.elim
  ·exact h.elim
 ·exact h.elim
theorem aFieldAddr_ok {t:TypeId} {p:Operand} {f:Nat} (hop:o.op=.fieldAddr t p f) (hd:zce B.n o=true) (h:zqr P o σ K t p f):∃ fx,K fx∧Eff P B o fx.rd σ fx.wr:=by
 unfold zqr at h;split at h
 ·rename_i off ft hf;split at h
  ·rename_i m hm;obtain ⟨h0,h⟩:=h.ok;have h0:=zee h0;obtain ⟨fs,x,hu,hx,hxo,hxt⟩:=fld_spec hf
   have run:∀ (a:Act) w q i,a.eval p=.pointer (some ⟨q,i,none⟩)→(execOp a.eval o).run P w=.ok (.value (.pointer (some ⟨q,i+off,none⟩))) w:=fun a w q i hv=>by
    have hsz:=ziy hm w;have hne:¬ m=0:=by omega
    simp [execOp,hop,hv,Instr.fieldAt,run_underlying hu,hx,Instr.sureAddr,fieldPlace,hxt,hsz,hne,addr_add,hxo]
   split at h
   ·rename_i cs hp;refine ⟨_,h,Eff.pure hd fun σ' hag a w ρ hs=>?_⟩;have h1:=zay hs p;rw [zao hag,hp] at h1;have h1:=h1.im_inv;generalize hv:a.eval p=v at h1;cases h1 with
    | ref b q us _ hS hl a2 hu hr =>
     refine ⟨_,run a w b q hv,.im _ _ (.ref b (q+off) (us.drop off) (cs.drop off) hS (by simp [hl]) (fun u hu'=>a2 u (List.mem_of_mem_drop hu')) (fun j u hj=>?_) fun j u y hj hy=>?_)⟩
     ·rw [List.getElem?_drop] at hj;have:=hu _ u hj
      rwa [← Nat.add_assoc] at this
     ·rw [List.getElem?_drop] at hj hy;exact hr _ u y hj hy
   ·rename_i b g i hp;obtain ⟨hg,h⟩:=h.out;refine ⟨_,h,Eff.pure hd fun σ' hag a w ρ hs=>?_⟩;have h1:=zay hs p;rw [zao (zaw hag),hp] at h1;have hg':=(zd2 (za0 hag (.gen b) (by simp))).trans hg;generalize hv:a.eval p=v at h1;cases h1 with
    | own _ _ _ _ a2 hgg hh =>
     obtain ⟨q,e1,e2⟩:=hh hg';exact ⟨_,run a w q i (hv.trans e2),.own _ b g (i+off) rfl hgg fun _=>⟨q,e1,rfl⟩⟩
   ·rename_i b g k i j hp;obtain ⟨hg,h⟩:=h.out;refine ⟨_,h,Eff.pure hd fun σ' hag a w ρ hs=>?_⟩;have h1:=zay hs p;rw [zao (zaw hag),hp] at h1;have hg':=(zd2 (za0 hag (.gen b) (by simp))).trans hg;generalize hv:a.eval p=v at h1;cases h1 with
    | elt _ _ _ _ _ _ a2 hgg hh =>
     obtain ⟨q,z,n,c,e1,e2⟩:=hh hg';exact ⟨_,run a w q (z+(i*k+j)) (hv.trans e2),.elt _ b g k i (j+off) rfl hgg fun _=>⟨q,z,n,c,e1,by rw [Nat.add_assoc,Nat.add_assoc]⟩⟩
   ·exact h.elim
  ·exact h.elim
 ·exact h.elim
theorem zhw {w:World} {S:Nat→Prop} {ρ:Ly} {γ:Nat→Nat} {v:Value} {x:AV} {cs:List AV} (e:zok x=some cs) (h:RepA w S ρ γ v x):Reps w S ρ γ v.cells.toList cs:=by
 unfold zok at e;split at e
 ·rename_i l;injection e with e
  subst e;cases h.im_inv with
  | agg us _ hl a2 hr =>
   refine ⟨by simpa [Value.cells] using hl,fun i u y hu hy=>?_⟩;simp only [List.getElem?_map] at hy;cases hc:l[i]? with
   | none=>rw [hc] at hy;cases hy
   | some c =>
    rw [hc] at hy;simp only [Option.map_some,zkF] at hy;rw [← hy];exact .im _ _ (hr i u c (by simpa [Value.cells] using hu) hc)
 ·rename_i z;split at e
  case isFalse=>cases e
  injection e with e
  subst e;cases h.im_inv with
  | val _ =>
   refine ⟨by simp,fun i u y hu hy=>?_⟩;simp only [List.getElem?_map,hu,Option.map_some,zkF] at hy;rw [← hy];exact .im _ _ (.val _)
 ·rename_i l;injection e with e
  subst e;cases h with
  | agg us _ hl a2 hr=>exact ⟨by simpa [Value.cells] using hl,fun i u y hu hy=>hr i u y (by simpa [Value.cells] using hu) hy⟩
 ·cases e
 ·cases e
 ·rename_i hn1 hn2 hn3 hn4 hn5;injection e with e
  subst e
  have hv:v.cells=#[v]:=by
   cases h with
   | im _ y hy =>
    cases hy with
    | val _=>exact absurd rfl (hn2 _)
    | any _=>exact absurd rfl hn4
    | ex _ h1=>revert h1;cases v<;>simp [Value.oneCell',Value.cells]
    | emp _ _=>rfl
    | sl _ _ _ _ _ _ _ _ _ _ _ _ _ _ _ _=>rfl
    | agg _ _ _ _ _=>exact absurd rfl (hn1 _)
    | ref _ _ _ _ _ _ _ _ _=>rfl
    | fn _ _ _ _ _=>rfl
    | nsl _ _ _ _ _=>rfl
   | own _ _ _ _ a2 _ _=>revert a2;cases v<;>simp [Value.oneCell',Value.cells]
   | osl _ _ _ a2 _ _=>revert a2;cases v<;>simp [Value.oneCell',Value.cells]
   | elt _ _ _ _ _ _ a2 _ _=>revert a2;cases v<;>simp [Value.oneCell',Value.cells]
   | sub _ _ _ _ a2 _ _=>revert a2;cases v<;>simp [Value.oneCell',Value.cells]
   | osv _ _ _ _ _ a2 _ _=>revert a2;cases v<;>simp [Value.oneCell',Value.cells]
   | full _ _ _ _=>rfl
   | elt2 _ _ _ _ _ _ _ a2 _ _=>revert a2;cases v<;>simp [Value.oneCell',Value.cells]
   | fn _ _ _ _ _=>rfl
   | agg _ _ _ _ _=>exact absurd rfl (hn3 _)
   | tup _ _ _ _=>exact absurd rfl (hn5 _)
  rw [hv];refine ⟨rfl,fun i u y hu hy=>?_⟩;cases i with
  | zero =>
   simp at hu hy;rw [← hu,← hy];exact h
  | succ i=>simp at hy
end
end
section
section
variable {P:Program} {B:Base} {o:Oper} {σ:St} {K:Fx→Prop}
theorem zh6 {w:World} {S:Nat→Prop} {ρ:Ly} {γ:Nat→Nat} {v:Value} {x:AV} {cs:List AV} (e:zok x=some cs) (h:RepA w S ρ γ v x):∀ u∈v.cells.toList,u.oneCell'=true:=by
 have one:v.oneCell'=true→∀ u∈v.cells.toList,u.oneCell'=true:=fun h1 u hu=>by
  have:v.cells=#[v]:=by revert h1;cases v<;>simp [Value.oneCell',Value.cells]
  rw [this] at hu;simp at hu;rw [hu];exact h1
 cases h with
 | im _ y hy =>
  cases hy with
  | val _ =>
   simp only [zok] at e;split at e
   ·rename_i hh;intro u hu;exact List.all_eq_true.1 hh u hu
   ·cases e
  | any _=>cases e
  | ex _ h1=>exact one h1
  | emp _ _=>exact one rfl
  | sl _ _ _ _ _ _ _ _ _ _ _ _ _ _ _ _=>exact one rfl
  | agg us _ _ h1 _=>intro u hu;exact h1 u (by simpa [Value.cells] using hu)
  | ref _ _ _ _ _ _ _ _ _=>exact one rfl
  | fn _ _ _ _ _=>exact one rfl
  | nsl _ _ _ _ _=>exact one rfl
 | own _ _ _ _ a2 _ _=>exact one a2
 | osl _ _ _ a2 _ _=>exact one a2
 | elt _ _ _ _ _ _ a2 _ _=>exact one a2
 | sub _ _ _ _ a2 _ _=>exact one a2
 | osv _ _ _ _ _ a2 _ _=>exact one a2
 | full _ _ _ _=>exact one rfl
 | elt2 _ _ _ _ _ _ _ a2 _ _=>exact one a2
 | fn _ _ _ _ _=>exact one rfl
 | agg us _ _ h1 _=>intro u hu;exact h1 u (by simpa [Value.cells] using hu)
 | tup _ _ _ _=>cases e
theorem zs8 {w:World} {S:Nat→Prop} {ρ:Ly} {γ:Nat→Nat} {v:Value} {x:AV} {cs:List AV} (e:aggCs x=some cs) (h:RepA w S ρ γ v x):∃ us:List Value,v=.agg us.toArray∧Reps w S ρ γ us cs∧∀ u∈us,u.oneCell'=true:=by
 unfold aggCs at e;split at e
 ·rename_i l;injection e with e
  subst e;cases h.im_inv with
  | agg us _ hl a2 hr =>
   refine ⟨us,rfl,⟨by simpa using hl,fun i u y hu hy=>?_⟩,a2⟩;simp only [List.getElem?_map] at hy;cases hc:l[i]? with
   | none=>rw [hc] at hy;cases hy
   | some c =>
    rw [hc] at hy;simp only [Option.map_some,zkF] at hy;rw [← hy];exact .im _ _ (hr i u c hu hc)
 ·rename_i vs;split at e
  case isFalse=>cases e
  rename_i hh;injection e with e
  subst e;cases h.im_inv with
  | val _ =>
   refine ⟨vs.toList,by simp,⟨by simp,fun i u y hu hy=>?_⟩,fun u hu=>List.all_eq_true.1 hh u hu⟩;simp only [List.getElem?_map,hu,Option.map_some,zkF] at hy;rw [← hy];exact .im _ _ (.val _)
 ·rename_i l;injection e with e
  subst e;cases h with
  | agg us _ hl a2 hr=>exact ⟨us,rfl,⟨hl,hr⟩,a2⟩
 ·cases e
theorem aField_ok {t:TypeId} {x:Operand} {f:Nat} (hop:o.op=.field t x f) (hd:zce B.n o=true) (h:aField P o σ K t x f):∃ fx,K fx∧Eff P B o fx.rd σ fx.wr:=False.elim h
theorem aExtract_ok {x:Operand} {i:Nat} (hop:o.op=.extract x i) (hd:zce B.n o=true) (h:aExtract o σ K x i):∃ fx,K fx∧Eff P B o fx.rd σ fx.wr:=by
 unfold aExtract at h;split at h
 ·rename_i l hx;split at h
  ·rename_i v hv;refine ⟨_,h,Eff.pure hd fun σ' hag a w ρ hs=>?_⟩;have h1:=zay hs x;rw [zao hag,hx] at h1;generalize he:a.eval x=z at h1;cases h1 with
   | tup us _ hl hr =>
    have hlt:i<us.length:=by rw [hl];exact (zkI.1 hv).1
    obtain ⟨u,hu⟩:∃ u,us[i]?=some u:=⟨_,zkM hlt⟩;exact ⟨u,by simp [execOp,hop,he,Instr.extract,hu],hr i u v hu hv⟩
  ·exact h.elim
 ·exact h.elim
theorem aMax_ok {c:Call} {x y:Operand} (hop:o.op=.call c) (hc:c.callee=.builtin .max) (ha:c.args.toList=[x,y]) (hd:zce B.n o=true) (h:aMax o σ K x y):∃ fx,K fx∧Eff P B o fx.rd σ fx.wr:=by
 unfold aMax at h;split at h
 ·rename_i k b k' d hx hy;obtain ⟨hk,h9⟩:=h.ok;have hk:=of_decide_eq_true hk;subst hk;refine ⟨_,h9,Eff.pure hd fun σ' hag a w ρ hs=>⟨_,?_,zcv _⟩⟩;have h1:=zay hs x;have h2:=zay hs y;rw [zao (zaw hag)] at h1;rw [zao (za0 hag)] at h2;have e:(max b d:Int)=if d > b then d else b:=by split<;>omega
  have hm:c.args.toList.map a.eval=[.int k b,.int k d]:=by rw [ha];simp [zb5 hx h1,zb5 hy h2]
  simp [execOp,hop,resolve,hc,invoke,builtin,Builtin.max_,hm,Builtin.max2,e]
 ·exact h.elim
theorem aMin_ok {c:Call} {x y:Operand} (hop:o.op=.call c) (hc:c.callee=.builtin .min) (ha:c.args.toList=[x,y]) (hd:zce B.n o=true) (h:aMin o σ K x y):∃ fx,K fx∧Eff P B o fx.rd σ fx.wr:=by
 unfold aMin at h;split at h
 ·rename_i k b k' d hx hy;obtain ⟨hk,h9⟩:=h.ok;have hk:=of_decide_eq_true hk;subst hk;refine ⟨_,h9,Eff.pure hd fun σ' hag a w ρ hs=>⟨_,?_,zcv _⟩⟩;have h1:=zay hs x;have h2:=zay hs y;rw [zao (zaw hag)] at h1;rw [zao (za0 hag)] at h2;have e:(min b d:Int)=if d<b then d else b:=by split<;>omega
  have hm:c.args.toList.map a.eval=[.int k b,.int k d]:=by rw [ha];simp [zb5 hx h1,zb5 hy h2]
  simp [execOp,hop,resolve,hc,invoke,builtin,Builtin.min_,hm,Builtin.min2,e]
 ·exact h.elim
theorem aMin3_ok {c:Call} {x y z:Operand} (hop:o.op=.call c) (hc:c.callee=.builtin .min) (ha:c.args.toList=[x,y,z]) (hd:zce B.n o=true) (h:aMin3 o σ K x y z):∃ fx,K fx∧Eff P B o fx.rd σ fx.wr:=by
 unfold aMin3 at h;split at h
 ·rename_i k b k' d k'' f hx hy hz;obtain ⟨hk,h9⟩:=h.ok;simp only [Bool.and_eq_true,decide_eq_true_eq] at hk;obtain ⟨hk1,hk2⟩:=hk;subst hk1 hk2;refine ⟨_,h9,Eff.pure hd fun σ' hag a w ρ hs=>⟨_,?_,zcv _⟩⟩;have h1:=zay hs x;have h2:=zay hs y;have h3:=zay hs z;rw [zao (zaw (zaw hag))] at h1;rw [zao (za0 (zaw hag))] at h2;rw [zao (za0 hag)] at h3;have e:(min (min b d) f:Int)=if f<(if d<b then d else b) then f else (if d<b then d else b):=by split<;>split<;>omega
  have hm:c.args.toList.map a.eval=[.int k b,.int k d,.int k f]:=by rw [ha];simp [zb5 hx h1,zb5 hy h2,zb5 hz h3]
  simp [execOp,hop,resolve,hc,invoke,builtin,Builtin.min_,hm,Builtin.min2,e]
 ·exact h.elim
theorem zwg {a:Act} {w:World} {ρ:Ly} (h:SatR B σ a w ρ) {b kk:Nat} {t:TypeId} {es:List (List IV)} (hk:σ.kd b=.row t kk es):∃ A c,ρ b=.slice A es.length c:=by
 have ho:=h.obs b;rw [hk] at ho;obtain ⟨us,_,_,_,h4,_⟩:=ho;rcases h4.2 with ⟨e,h0⟩ | ⟨g,cap,cur,e,_⟩
 ·exact ⟨none,0,by rw [e,h0]⟩
 ·exact ⟨_,cap,e⟩
theorem aLen_ok {c:Call} {t:TypeId} {ts:List TypeId} {x:Operand} (hop:o.op=.call c) (hc:c.callee=.builtin .len) (ha:c.args.toList=[x]) (ht:c.argTypes.toList=t::ts) (hd:zce B.n o=true) (h:aLen P o σ K t x):∃ fx,K fx∧Eff P B o fx.rd σ fx.wr:=by
 have ht0:c.argTypes[0]?=some t:=by rw [← Array.getElem?_toList,ht];rfl
 have hx0:∀ a:Act,(c.args.map a.eval)[0]?=some (a.eval x):=fun a=>by rw [← Array.getElem?_toList,Array.toList_map,ha];rfl
 unfold aLen at h;split at h
 ·rename_i e he;have hu:=zd1 he
  have run:∀ (a:Act) w A n cp,a.eval x=.slice A n cp→(execOp a.eval o).run P w=.ok (.value (.int .i64 n)) w:=fun a w A n cp hv=>by
   simp only [execOp,hop,resolve,hc,invoke,builtin,Builtin.len_,ht0,hx0,Sem.run_bind,Sem.run_pure,Result.andThen_ok,run_underlying hu,hv,goInt]
  split at h
  ·rename_i es hx;have h:=h.out;refine ⟨_,h,Eff.pure hd fun σ' hag a w ρ hs=>?_⟩;have h1:=zay hs x;rw [zao hag,hx] at h1;have h1:=h1.im_inv;generalize hv:a.eval x=v at h1;cases h1 with
   | emp A cp=>exact ⟨_,run a w _ _ _ hv,zcv _⟩
   | sl b q cp k n _ us hn=>exact ⟨_,run a w _ _ _ hv,by rw [hn];exact zcv _⟩
  ·rename_i A n cp hx;refine ⟨_,h,Eff.pure hd fun σ' hag a w ρ hs=>?_⟩;have h1:=zay hs x;rw [zao hag,hx] at h1;have h1:=h1.im_inv;generalize hv:a.eval x=v at h1;cases h1 with
   | val _=>exact ⟨_,run a w _ _ _ hv,zcv _⟩
  ·rename_i b g hx;split at h
   ·rename_i es hk;obtain ⟨hg,h⟩:=h.out;have h:=h.out;refine ⟨_,h,Eff.pure hd fun σ' hag a w ρ hs=>?_⟩;obtain ⟨ha',hg',hk',_⟩:=zdc hag;have h1:=zay hs x;rw [zao ha',hx] at h1
    obtain ⟨A,cp,hρ⟩:∃ A cp,ρ b=.slice A es.length cp:=by
     obtain ⟨_,_,_,_,_,_,h9⟩:=es_form hs (show esOf (σ'.kd b)=some es by rw [hk'];exact hk);rcases h9 with ⟨f1,f2⟩ | ⟨_,_,_,f1,_⟩
     ·exact ⟨_,_,by rw [f1,f2]⟩
     ·exact ⟨_,_,f1⟩
    generalize hv:a.eval x=v at h1;cases h1 with
    | osl _ _ _ a2 hgg hh =>
     rw [hh (hg'.trans hg),hρ] at hv;exact ⟨_,run a w _ _ _ hv,zcv _⟩
   ·exact h.elim
  ·exact h.elim
 ·split at h
  ·rename_i s hx;obtain ⟨hstr,h⟩:=h.ok
   have hu:P.underlying t=some .string:=by
    unfold isStr at hstr;split at hstr
    ·assumption
    ·cases hstr
   refine ⟨_,h,Eff.pure hd fun σ' hag a w ρ hs=>⟨_,?_,zcv _⟩⟩;have h1:=zay hs x;rw [zao hag] at h1;simp only [execOp,hop,resolve,hc,invoke,builtin,Builtin.len_,ht0,hx0,Sem.run_bind,Sem.run_pure,Result.andThen_ok,run_underlying hu,zuv hx h1,goInt]
  ·exact h.elim
theorem zpy {t:TypeId} {x i:Operand} (hop:o.op=.indexAddr t x i) (hd:zce B.n o=true) (h:znr P o σ K t x i):∃ fx,K fx∧Eff P B o fx.rd σ fx.wr:=by
 unfold znr at h;split at h
 ·rename_i kk n et hi het;have hu:=zd1 het
  have run:∀ (a:Act) w q l (cp:Nat×Nat) k,a.eval x=.slice (some ⟨q,0+l,none⟩) cp.1 cp.2→a.eval i=.int kk n→0≤n→n.toNat<cp.1→szOf P et=some k→(execOp a.eval o).run P w=.ok (.value (.pointer (some ⟨q,0+l+n.toNat*k,none⟩))) w:=fun a w q l cp k hv hn h0 hlt hk=>by
   have hz:=ziy hk w;have h3:0≤n∧n<cp.1:=⟨h0,by omega⟩;simp only [execOp,hop,hv,hn,Instr.indexAt,asIntOf,Sem.run_bind,Sem.run_pure,Result.andThen_ok,run_underlying hu,if_pos h3,hz,addr_add]
  split at h
  ·rename_i es hx;obtain ⟨e,⟨h0,he,hk⟩,h⟩:=h;refine ⟨_,h,Eff.pure hd fun σ' hag a w ρ hs=>?_⟩;have h1:=zay hs x;have h2:=zay hs i;rw [zao (zaw hag),hx] at h1;rw [zao (za0 hag)] at h2;have hn:=zb5 hi h2;have h1:=h1.im_inv;generalize hv:a.eval x=v at h1;cases h1 with
   | emp A cp=>simp at he
   | sl b q cp k m _ us hm hkk hcap hsm hS hl a2 huc hr =>
    have hek:e.length=k:=hkk e (zkH he);have hil:n.toNat<es.length:=(zkI.1 he).1;have hfl:=zbb hkk
    have hmul:n.toNat*k+k≤es.length*k:=by
     have:=Nat.mul_le_mul_right k (show n.toNat+1≤es.length from hil);rw [Nat.add_mul] at this;omega
    have hrun:=run a w b q (m,cp) k (by rw [hv,Nat.zero_add]) hn h0 (by omega) (by rw [hk,hek]);rw [Nat.zero_add] at hrun;refine ⟨_,hrun,.im _ _ (.ref b (q+n.toNat*k) ((us.drop (n.toNat*k)).take k) e hS (by rw [List.length_take,List.length_drop,hl,hfl,hek];omega) (fun u hu'=>a2 u (List.mem_of_mem_drop (List.mem_of_mem_take hu'))) (fun j u hj=>?_) fun j u y hj hy=>?_)⟩
    ·have:=huc _ u (zc3 hj).1
     rwa [← Nat.add_assoc] at this
    ·obtain ⟨h3,hjk⟩:=zc3 hj;have hf:=flat_get hkk he hjk;rw [hy] at hf;exact hr _ u y h3 hf
  ·rename_i b g hx;split at h
   ·rename_i es hkd;split at h
    ·rename_i k hk;obtain ⟨⟨h0,hg,hlt⟩,h⟩:=h.out;refine ⟨_,h,Eff.pure hd fun σ' hag a w ρ hs=>?_⟩;obtain ⟨ha',hg',hk',_⟩:=zdc hag;have h1:=zay hs x;have h2:=zay hs i;rw [zao (zaw ha'),hx] at h1;rw [zao (za0 ha')] at h2;have hn:=zb5 hi h2
     obtain ⟨q,off,cp',hform⟩:∃ q off cp',ρ b=.slice (some ⟨q,off,none⟩) es.length cp':=by
      obtain ⟨_,_,_,_,_,_,h9⟩:=es_form hs (show esOf (σ'.kd b)=some es by rw [hk'];exact hkd);rcases h9 with ⟨_,f2⟩ | ⟨q,off,cp',f1,_⟩
      ·omega
      ·exact ⟨q,off,cp',f1⟩
     generalize hv:a.eval x=v at h1;cases h1 with
     | osl _ _ _ a2 hgg hh =>
      rw [hh (hg'.trans hg),hform] at hv;have hrun:=run a w q off (es.length,cp') k (by rw [hv,Nat.zero_add]) hn h0 hlt hk;rw [Nat.zero_add] at hrun;exact ⟨_,hrun,.elt _ b g k n.toNat 0 rfl hgg fun _=>⟨q,off,_,cp',hform,by rw [Nat.add_zero]⟩⟩
    ·exact h.elim
   ·exact h.elim
  ·exact h.elim
 ·exact h.elim
theorem zpl {α:Type} {k:Nat}:∀ {es:List (List α)} {n:Nat},(∀ x∈es,x.length=k)→(es.take n).flatten=es.flatten.take (n*k)
 | [],n,_=>by simp
 | x::es,0,_=>by simp
 | x::es,n+1,h=>by
  have hx:=h x (by simp);rw [List.take_succ_cons,List.flatten_cons,zpl fun y hy=>h y (by simp [hy]),List.flatten_cons,List.take_append,hx,Nat.add_mul,Nat.one_mul,Nat.add_sub_cancel,List.take_of_length_le (l:=x) (by omega)]
theorem zuz {α:Type} {k:Nat}:∀ {es:List (List α)} {n:Nat},(∀ x∈es,x.length=k)→(es.drop n).flatten=es.flatten.drop (n*k)
 | [],n,_=>by simp
 | x::es,0,_=>by simp
 | x::es,n+1,h=>by
  have hx:=h x (by simp);rw [List.drop_succ_cons,zuz fun y hy=>h y (by simp [hy]),List.flatten_cons,List.drop_append,hx,Nat.add_mul,Nat.one_mul,Nat.add_sub_cancel,List.drop_of_length_le (l:=x) (by omega),List.nil_append]
theorem flat_cut {α:Type} {k:Nat} {es:List (List α)} {l r:Nat} (h:∀ x∈es,x.length=k) (_:l≤r):((es.take r).drop l).flatten=(es.flatten.take (r*k)).drop (l*k):=by
 rw [zuz fun x hx=>h x (List.mem_of_mem_take hx),zpl h]
theorem optI_same {σ':St} {d:Int} {x:Option Operand} (h:∀ l∈(x.map opd).getD [],σ' l=σ l):optI σ' d x=optI σ d x:=by
 cases x with
 | none=>rfl
 | some y =>
  show (Sym.asInt (evA σ' y)).map (·.2)=(Sym.asInt (evA σ y)).map (·.2);rw [zao (x:=y) (by simpa using h)]
theorem aSlice_ok {t:TypeId} {x:Operand} {lo hi:Option Operand} (hop:o.op=.slice t x lo hi none) (hd:zce B.n o=true) (h:aSlice P o σ K t x lo hi):∃ fx,K fx∧Eff P B o fx.rd σ fx.wr:=by
 unfold aSlice at h;split at h
 ·rename_i et het;have hu:=zd1 het;split at h
  case h_2=>exact h.elim
  rename_i k hz;split at h
  ·rename_i es hx;split at h
   ·rename_i l r hl hr;obtain ⟨⟨h0,hlr,hre,hk⟩,h⟩:=h.out;have h:=h.out;refine ⟨_,h,Eff.pure hd fun σ' hag a w ρ hs=>?_⟩;have hag1:=zaw (zaw hag);have hl':=optI_same (d:=0) (za0 (zaw hag));have hr':=optI_same (d:=es.length) (za0 hag);rw [hl] at hl';rw [hr] at hr'
    have bound:∀ (y:Operand) (n:Int) (m:Nat) (c:BoundsCode),(Sym.asInt (evA σ' y)).map (·.2)=some n→0≤n→n≤m→(Instr.sliceBound (a.eval y) m c).run P w=.ok n.toNat w:=fun y n m c e e0 em=>by
     have h2:=zay hs y;cases hy:Sym.asInt (evA σ' y) with
     | none=>rw [hy] at e;cases e
     | some p =>
      obtain ⟨k1,n1⟩:=p;rw [hy] at e;simp only [Option.map_some,zkF] at e;subst e;have h3:0≤n1∧n1≤m:=⟨e0,em⟩;simp only [zb5 hy h2,Instr.sliceBound,asIntOf,Sem.run_bind,Sem.run_pure,Result.andThen_ok,if_pos h3]
    have bnds:∀ n cp:Nat,n=es.length→n≤cp→(Instr.sliceBounds true n cp (lo.map a.eval) (hi.map a.eval) none).run P w=.ok (l.toNat,r.toNat,cp) w:=fun n cp e1 e2=>by
     have bh:∀ y c,hi=some y→(Instr.sliceBound (a.eval y) cp c).run P w=.ok r.toNat w:=fun y c e=>bound y r cp c (by rw [← hr',e];rfl) (by omega) (by omega);have bl:∀ y c,lo=some y→(Instr.sliceBound (a.eval y) r.toNat c).run P w=.ok l.toNat w:=fun y c e=>bound y l r.toNat c (by rw [← hl',e];rfl) h0 (by omega)
     have nh:hi=none→r.toNat=n:=fun e=>by
      rw [e] at hr';simp only [optI,zkF] at hr';rw [← hr',e1];rfl
     have nl:lo=none→l.toNat=0:=fun e=>by
      rw [e] at hl';simp only [optI,zkF] at hl';rw [← hl'];rfl
     unfold Instr.sliceBounds;cases hi with
     | none =>
      have e3:=nh rfl;cases lo with
      | none =>
       have e4:=nl rfl;simp [e3,e4]
      | some y =>
       have b1:=fun c=>bl y c rfl;rw [e3] at b1;simp [e3,b1]
     | some z =>
      have b2:=fun c=>bh z c rfl;cases lo with
      | none =>
       have e4:=nl rfl;simp [e4,b2]
      | some y =>
       have b1:=fun c=>bl y c rfl;simp [b1,b2]
    have run:∀ A n cp,a.eval x=.slice A n cp→n=es.length→n≤cp→(execOp a.eval o).run P w=.ok (.value (.slice (if cp=l.toNat then A else A.map (·.add (l.toNat*k))) (r.toNat-l.toNat) (cp-l.toNat))) w:=fun A n cp hv hn hcp=>by
     have hz:=ziy hz w;have hb:=bnds n cp hn hcp;simp only [execOp,hop,hv,Instr.sliceAt,Instr.slice,Sem.run_bind,Sem.run_pure,Result.andThen_ok,run_underlying hu,Option.map_none,hb,hz]
    have h1:=zay hs x;rw [zao hag1] at h1;cases hxx:evA σ x with
    | im y =>
     rw [hxx] at h1 hx;have hx:nz y=.sl es:=hx;have h1:=h1.im_inv
     have nilcase:∀ A cp,a.eval x=.slice A 0 cp→es=[]→∃ u,(execOp a.eval o).run P w=.ok (.value u) w∧RepA w (Imm B σ' ρ w) ρ σ'.gn u (.im (.sl ((es.take r.toNat).drop l.toNat))):=fun A cp e1 e2=>by
      have hr:=run A 0 cp e1 (by rw [e2];rfl) (Nat.zero_le _);have er:r.toNat=0:=by rw [e2] at hre;simp at hre;omega
      have el:l.toNat=0:=by omega
      rw [er,el] at hr;exact ⟨_,hr,by rw [e2];simp only [List.take_nil,List.drop_nil];exact .im _ _ (.emp _ _)⟩
     have slcase:∀ v,a.eval x=v→RepI w (Imm B σ' ρ w) v (.sl es)→∃ u,(execOp a.eval o).run P w=.ok (.value u) w∧RepA w (Imm B σ' ρ w) ρ σ'.gn u (.im (.sl ((es.take r.toNat).drop l.toNat))):=fun v hv h1=>by
      cases h1 with
      | emp A cp=>exact nilcase _ _ hv rfl
      | sl b q cp k' m _ us hm hkk hcap hsm hS hll a2 huc hrr =>
       by_cases hemp:r.toNat=l.toNat
       ·have hrun:=run _ m cp hv hm.symm hcap;have e0:(es.take r.toNat).drop l.toNat=[]:=List.drop_eq_nil_of_le (by rw [List.length_take];omega);rw [e0];rw [hemp,Nat.sub_self] at hrun;exact ⟨_,hrun,.im _ _ (.emp _ _)⟩
       ·have hrun:=run _ m cp hv hm.symm hcap;have hne:¬ cp=l.toNat:=by omega
        rw [if_neg hne,Option.map_some,addr_add] at hrun;have hsub:∀ e∈(es.take r.toNat).drop l.toNat,e∈es:=fun e he=>List.mem_of_mem_take (List.mem_of_mem_drop he);have hfc:((es.take r.toNat).drop l.toNat).flatten=(es.flatten.take (r.toNat*k)).drop (l.toNat*k):=flat_cut hk (by omega);have hfl:=zbb hk;refine ⟨_,hrun,.im _ _ (.sl b (q+l.toNat*k) (cp-l.toNat) k (r.toNat-l.toNat) _ ((us.take (r.toNat*k)).drop (l.toNat*k)) ?_ (fun e he=>hk e (hsub e he)) (by omega) (by omega) hS ?_ (fun u hu'=>a2 u (List.mem_of_mem_take (List.mem_of_mem_drop hu'))) (fun j u hj=>?_) fun j u y hj hy=>?_)⟩
        ·rw [List.length_drop,List.length_take];omega
        ·rw [hfc,List.length_drop,List.length_take,List.length_drop,List.length_take,hll]
        ·rw [List.getElem?_drop,List.getElem?_take] at hj;split at hj
         ·have:=huc _ u hj
          rwa [← Nat.add_assoc] at this
         ·cases hj
        ·rw [hfc,List.getElem?_drop,List.getElem?_take] at hy;rw [List.getElem?_drop,List.getElem?_take] at hj;split at hj
         ·rename_i hlt;rw [if_pos hlt] at hy;exact hrr _ u y hj hy
         ·cases hj
     generalize hv:a.eval x=v at h1;cases h1 with
     | val _ =>
      obtain ⟨rfl,rfl⟩:v=.slice none 0 0∧es=[]:=by
       unfold nz nz1 at hx;split at hx
       ·cases hx
       ·split at hx
        ·cases hx
        ·cases hx
       ·split at hx
        ·rename_i e;injection e with e
         injection hx with hx
         exact ⟨e,hx.symm⟩
        ·cases hx
        ·rename_i e;cases e
        ·cases hx
      exact nilcase _ _ hv rfl
     | emp A cp =>
      injection hx with hx
      exact slcase _ hv (hx ▸ .emp A cp)
     | sl b q cp k' m ees us hm hkk hcap hsm hS hll a2 huc hrr =>
      injection hx with hx
      exact slcase _ hv (hx ▸ .sl b q cp k' m ees us hm hkk hcap hsm hS hll a2 huc hrr)
     | nsl _ _ _ ees hh =>
      injection hx with hx
      exact slcase _ hv (hx ▸ hh)
     | _=>cases hx
    | _=>rw [hxx] at hx;cases hx
   ·exact h.elim
  ·exact h.elim
 ·exact h.elim
end
end
section
section
variable {P:Program} {B:Base} {o:Oper} {σ:St} {K:Fx→Prop}
theorem zc7 {d:Tmp} (hd:zce B.n o=true) (e:o.dst=some d):d<B.n:=zmz hd d e
theorem making_alloc (σ:St) (w:World) (ρ:Ly) (ob:Obj):zux σ w (w.alloc ob) ρ none (.pointer (some ⟨w.heap.size,0,none⟩)) none :=
 ⟨World.grownBy_alloc w ob none,(fun b e=>by cases e),fun b e=>.inr (by simp only [zba,zkF] at e;omega)⟩
theorem SatR.box {a:Act} {w:World} {ρ:Ly} (h:SatR B σ a w ρ) (d:Nat) (t:TypeId) {us:List Value} {cs:List AV} (hr:Reps w (Imm B σ ρ w) ρ σ.gn us cs) (h1:∀ u∈us,u.oneCell'=true) :
  SatR B (ze4 σ none d (.box t cs.length) cs) a (w.alloc (.cells us.toArray t)) (setρ ρ d (.pointer (some ⟨w.heap.size,0,none⟩))):=by
 have m:=making_alloc σ w ρ (.cells us.toArray t);refine h.new m rfl fun hI hA=>⟨w.heap.size,us,by simp [setρ],heap_alloc_new w _,hr.1,h1,fun i u hu=>?_⟩;have hi:i<cs.length:=by rw [← hr.1];exact (zkI.1 hu).1
 obtain ⟨c,hc⟩:∃ c,cs[i]?=some c:=⟨_,zkM hi⟩;rw [newSt_new σ none d _ cs i hi,zj6 hc];exact hA _ _ (hr.2 i u c hu hc)
theorem zwo {a:Act} {w:World} {ρ:Ly} {used:Option Nat} {d:Nat} {k:Kd} {cs:List AV} {hv:Value} (h:SatR B (ze4 σ used d k cs) a w (setρ ρ d hv)) (q:Nat) (e:hv=.pointer (some ⟨q,0,none⟩)) (hd:d<B.n) :
  SatR B (app (ze4 σ used d k cs) [(.tmp d,.av (.own d (σ.gn d+1) 0))]) (a.put (some d) hv) w (setρ ρ d hv) :=
 h.put (d:=some d) (fun t e=>by injection e with e;subst e;exact hd) (.own _ _ _ _ (by rw [e];rfl) (by rw [znt,if_pos rfl];omega) fun _=>⟨q,by simp [setρ,e],by rw [e]⟩)
theorem zkq {a:Act} {w:World} {ρ:Ly} {used:Option Nat} {d:Nat} {k:Kd} {cs:List AV} {hv:Value} (h:SatR B (ze4 σ used d k cs) a w (setρ ρ d hv)) (h1:hv.oneCell'=true) (hd:d<B.n) :
  SatR B (app (ze4 σ used d k cs) [(.tmp d,.av (.osl d (σ.gn d+1)))]) (a.put (some d) hv) w (setρ ρ d hv) :=
 h.put (d:=some d) (fun t e=>by injection e with e;subst e;exact hd) (.osl _ _ _ h1 (by rw [znt,if_pos rfl];omega) fun _=>by simp [setρ])
theorem zh8 {a:Act} {w:World} {ρ:Ly} {used:Option Nat} {d b:Nat} {k:Kd} {cs:List AV} {hv:Value} (h:SatR B (ze4 σ used b k cs) a w (setρ ρ b hv)) (h1:hv.oneCell'=true) (hd:d<B.n) :
  SatR B (app (ze4 σ used b k cs) [(.tmp d,.av (.osl b (σ.gn b+1)))]) (a.put (some d) hv) w (setρ ρ b hv) :=
 h.put (d:=some d) (fun t e=>by injection e with e;subst e;exact hd) (.osl _ _ _ h1 (by rw [znt,if_pos rfl];omega) fun _=>by simp [setρ])
theorem zo5 {k:Kd} {d:Nat} {cs:List AV} {v:AV} {σ':St} (hg:σ'.gn d=σ.gn d):app σ' (zdz σ d k++zgg d 0 cs++[(.tmp d,.av v)])=app (ze4 σ' none d k cs) [(.tmp d,.av v)]:=by
 rw [zaz,zaz];unfold ze4 zdz;rw [hg]
theorem aAlloc_ok {t:TypeId} (hop:o.op=.alloc t) (hd:zce B.n o=true) (h:aAlloc P o σ K t):∃ fx,K fx∧Eff P B o fx.rd σ fx.wr:=by
 unfold aAlloc at h;split at h
 ·rename_i d cs hdst hz;obtain ⟨hall,h⟩:=h.ok;refine ⟨_,h,fun σ' hag a w ⟨ρ,hs⟩ K' Q hK=>?_⟩;have hg:=zd2 (hag (.gen d) (by simp))
  obtain ⟨z,hzr,hzc⟩:∃ z:Value,(∀ w,(zeroValue t).run P w=.ok z w)∧z.cells.toList=cs:=by
   unfold zeroOf at hz;split at hz
   ·rename_i i hi;cases hz0:i.zero with
    | none=>rw [hz0] at hz;cases hz
    | some z =>
     rw [hz0] at hz;simp only [Option.map_some,zkF] at hz;exact ⟨z,fun w=>by simp [zeroValue,typeInfo,hi,hz0],hz⟩
   ·cases hz
  have run:(execOp a.eval o).run P w=.ok (.value (.pointer (some ⟨w.heap.size,0,none⟩))) (w.alloc (.cells cs.toArray t)):=by
   rw [← hzc];simp [execOp,hop,Instr.alloc,hzr,newVar,newRow]
  unfold Oper.wp;rw [run,Oper.upon_value,hdst];refine hK _ _ ⟨setρ ρ d (.pointer (some ⟨w.heap.size,0,none⟩)),?_⟩
  have hr:Reps w (Imm B σ' ρ w) ρ σ'.gn cs (cs.map fun v=>.im (.val v)):=⟨by simp,fun i u y hu hy=>by
   simp only [List.getElem?_map,hu,Option.map_some,zkF] at hy
   rw [← hy]
   exact .im _ _ (.val _)⟩
  have hb:=hs.box d t hr (fun u hu=>List.all_eq_true.1 hall u hu);rw [zkK] at hb;show SatR B (app σ' (zdz σ d (.box t cs.length)++zgg d 0 (cs.map fun v=>.im (.val v))++[(.tmp d,.av (.own d (σ.gn d+1) 0))])) _ _ _;rw [zo5 hg,← hg];exact zwo hb _ rfl (zc7 hd hdst)
 ·exact h.elim
theorem SatR.store {a:Act} {w w':World} {ρ:Ly} (h:SatR B σ a w ρ) {b q i m:Nat} {t:TypeId} {cs:List AV} {us vs:List Value} (hk:σ.kd b=.box t m) (hρ:ρ b=.pointer (some ⟨q,0,none⟩)) (hl:us.length=m)
  (h1:∀ u∈us,u.oneCell'=true) (hus:∀ (j:Nat) u,us[j]?=some u→RepA w (Imm B σ ρ w) ρ σ.gn u (σ.ce b j)) (hg:w.grownBy w' (some q))
  (hw':w'.heap[q]?=some (.cells (us.take i++vs++us.drop (i+vs.length)).toArray t (0,0))) (hfit:i+vs.length≤m) (hv:Reps w (Imm B σ ρ w) ρ σ.gn vs cs) (hv1:∀ u∈vs,u.oneCell'=true):SatR B (app σ (zgg b i cs)) a w' ρ:=by
 have hgn:=zsv b cs i σ;have hkd:=zp4 b cs i σ;have hlive:live σ b:=by unfold live;rw [hk];exact fun e=>by cases e
 have hqb:Owns σ ρ b q:=.root hlive (by rw [hρ];rfl);have hown:∀ o c,Owns (app σ (zgg b i cs)) ρ o c↔Owns σ ρ o c:=fun o c=>by unfold Owns;rw [hkd]
 refine (h.step (fun o=>o=b) (fun t=>by rw [zsr]) (fun o hd=>⟨by rw [hkd],by rw [hgn],fun j=>by rw [znn,if_neg (fun z=>hd z.1)],rfl,rfl,rfl⟩) (fun o _=>⟨⟨by rw [hgn];exact Nat.le_refl _,fun _=>rfl⟩,Nat.le_refl _,fun _=>rfl⟩)
  (fun o=>by rw [celWr_ig];exact h.igs o) ⟨hg.os,hg.tape,hg.output,hg.size,fun c hc hn=>hg.block c hc fun e=>?_⟩ (fun o c hd ho=>.inr ⟨o,hd,(hown o c).1 ho⟩) (fun o p c hd hp _ _=>hd.trans hp.symm) fun hI hA o hd=>?_).1
 ·injection e with e
  subst e;exact hn ⟨b,rfl,hqb⟩
 ·subst hd;rw [hkd,hk];refine ⟨q,_,hρ,hw',by simp;omega,fun u hu=>?_,fun j u hu=>?_⟩
  ·rcases List.mem_append.1 hu with hu | hu
   ·rcases List.mem_append.1 hu with hu | hu
    ·exact h1 u (List.mem_of_mem_take hu)
    ·exact hv1 u hu
   ·exact h1 u (List.mem_of_mem_drop hu)
  ·rw [znn];have hvl:=hv.1;rw [List.append_assoc,List.getElem?_append,List.length_take] at hu;by_cases hj:j<i
   ·rw [if_pos (by omega),List.getElem?_take,if_pos hj] at hu;rw [if_neg (by omega)];exact hA _ _ (hus j u hu)
   ·rw [if_neg (by omega),List.getElem?_append,Nat.min_eq_left (by omega)] at hu;by_cases hj2:j-i<vs.length
    ·rw [if_pos hj2] at hu;rw [if_pos ⟨rfl,by omega,by omega⟩];obtain ⟨c,hc⟩:∃ c,cs[j-i]?=some c:=⟨_,zkM (by omega)⟩;rw [zj6 hc];exact hA _ _ (hv.2 _ u c hu hc)
    ·rw [if_neg hj2,List.getElem?_drop] at hu;rw [if_neg (by omega)];have e3:i+vs.length+(j-i-vs.length)=j:=by omega
     rw [e3] at hu;exact hA _ _ (hus j u hu)
theorem aStore_ok {t:TypeId} {p x:Operand} (hop:o.op=.store t p x) (hd:zce B.n o=true) (h:aStore P o σ K t p x):∃ fx,K fx∧Eff P B o fx.rd σ fx.wr:=by
 unfold aStore at h;split at h
 ·rename_i m cs hm hcs;obtain ⟨hlen,h⟩:=h.ok;have hlen:cs.length=m:=by simpa using hlen
  split at h
  ·rename_i b g i hp;obtain ⟨hi,h⟩:=h.ok;obtain ⟨hg,h⟩:=h.out;rw [Bool.and_eq_true] at hi;have hm0:=zee hi.1;have hi:=zic hi.2;refine ⟨_,h,fun σ' hag a w ⟨ρ,hs⟩ K' Q hK=>?_⟩;obtain ⟨ha,hg',hk',_⟩:=zdc hag;have h1:=zay hs p;have h2:=zay hs x;rw [zao (zaw ha),hp] at h1;rw [zao (za0 ha)] at h2;have hr:=zhw hcs h2;have hone:=zh6 hcs h2;obtain ⟨t',n,hkd,hin⟩:=zjl (σ:=σ) (b:=b) (i:=i) (by omega);have hbl:=zpf hkd;obtain ⟨q,us,e1,e2,e3,e4,e5,_,e7⟩:=zi0 hs h1 (hg'.trans hg) (hk'.trans hkd);have hvl:(a.eval x).cells.toList.length=m:=by rw [hr.1,hlen]
   have hrow:=run_storeCells_at (P:=P) q i t' (a.eval x).cells.toList 0 us.toArray w e3 (by simp;simp at hvl;omega) hone;simp only [Nat.add_zero] at hrow;have hz:=ziy hm w;have hsz:(a.eval x).cells.size=m:=by rw [← hvl];simp
   have run:(execOp a.eval o).run P w=.ok .skip (w.setRow q (us.take i++(a.eval x).cells.toList++us.drop (i+(a.eval x).cells.toList.length)).toArray):=by
    simp only [execOp,hop,Instr.storeAt,e1,Instr.sureAddr,storeVar,Sem.run_bind,Sem.run_pure,Result.andThen_ok,hz,hsz];rw [if_neg (by simp),hrow];simp
   unfold Oper.wp;rw [run,Oper.upon_skip];refine hK _ _ ⟨ρ,?_⟩;have hst:=hs.store (vs:=(a.eval x).cells.toList) (w':=w.setRow q (us.take i++(a.eval x).cells.toList++us.drop (i+(a.eval x).cells.toList.length)).toArray) (hk'.trans hkd) e2 e4 e5 e7 ⟨rfl,rfl,rfl,by simp,fun k _ hk=>setRow_other w q k _ (fun e=>hk (by rw [e]))⟩ (setRow_heap w q us.toArray _ t' _ e3) (by omega) hr hone;rw [zaz];exact hst.put (zmz hd) (zcv _)
  ·exact h.elim
 ·exact h.elim
end
end
section
section
variable {P:Program} {B:Base} {o:Oper} {σ:St} {K:Fx→Prop}
theorem zoe (bs:List (Nat×Nat)):∀ (σ:St) (o:Nat),(app σ (fwr bs)).kd o=if o∈bs.map (·.1) then .dead else σ.kd o:=by
 induction bs with
 | nil=>intro σ o;simp [fwr,app]
 | cons b bs ih =>
  intro σ o;show (app (upd σ (.knd b.1) (.kd .dead)) (fwr bs)).kd o=_;rw [ih,zev,List.map_cons];by_cases h:o∈bs.map (·.1)
  ·rw [if_pos h,if_pos (List.mem_cons_of_mem _ h)]
  ·rw [if_neg h];by_cases e:o=b.1
   ·rw [if_pos e,if_pos (by rw [e];exact List.mem_cons_self)]
   ·rw [if_neg e,if_neg (fun hm=>by rcases List.mem_cons.1 hm with h1 | h1;exact e h1;exact h h1)]
theorem fwr_live {bs:List (Nat×Nat)} {o:Nat} (h:live (app σ (fwr bs)) o):live σ o∧o∉bs.map (·.1):=by
 unfold live at h;rw [zoe] at h;by_cases e:o∈bs.map (·.1)
 ·rw [if_pos e] at h;exact absurd rfl h
 ·rw [if_neg e] at h;exact ⟨h,e⟩
theorem zr2 (bs:List (Nat×Nat)):∀ (σ:St),(app σ (fwr bs)).gn=σ.gn:=by
 induction bs with
 | nil=>intro σ;rfl
 | cons b bs ih =>
  intro σ;show (app (upd σ (.knd b.1) (.kd .dead)) (fwr bs)).gn=_;rw [ih];exact funext fun t=>zgj σ b.1 t _
theorem fwr_av (bs:List (Nat×Nat)) (t:Nat):∀ (σ:St),(app σ (fwr bs)).av t=σ.av t:=by
 induction bs with
 | nil=>intro σ;rfl
 | cons b bs ih=>intro σ;show (app (upd σ (.knd b.1) (.kd .dead)) (fwr bs)).av t=_;rw [ih,zix]
theorem gok_mem:∀ {bs:List (Nat×Nat)},gok σ bs→∀ p∈bs,σ.gn p.1=p.2
 | (b,g)::bs,h,p,hp=>by
  rcases List.mem_cons.1 hp with rfl | hp
  ·exact h.1
  ·exact gok_mem h.2 p hp
theorem zqy.out {bs:List (Nat×Nat)} {A:Prop} (h:zqy σ bs A):(∀ p∈bs,σ.gn p.1=p.2)∧A:=by
 unfold zqy at h;split at h
 ·exact ⟨fun p hp=>by simp at hp,h⟩
 ·exact ⟨gok_mem h.out.1,h.out.2⟩
theorem zmi {w:World} {S:Nat→Prop} {v:Value} {x:IV} (h:RepI w S v x):RepI w S v (nz1 x):=by
 unfold nz1;split
 ·cases h with
  | val _=>exact .emp _ _
 ·exact .any _
 ·cases h with
  | nsl _ _ _ _ h=>exact h
 ·exact h
theorem nz_rep {w:World} {S:Nat→Prop} {v:Value} {x:IV} (h:RepI w S v x):RepI w S v (nz x):=by
 unfold nz;split
 ·rename_i cs;cases h with
  | agg us _ hl h1' hr =>
   refine .agg us _ (by simpa using hl) h1' fun i u x hu hx=>?_;simp only [List.getElem?_map] at hx;cases hc:cs[i]? with
   | none=>rw [hc] at hx;cases hx
   | some c =>
    rw [hc] at hx;simp only [Option.map_some,zkF] at hx;rw [← hx];exact zmi (hr i u c hu hc)
 ·rename_i vs;split
  case isFalse=>exact .any _
  rename_i hall;cases h with
  | val _ =>
   have:=RepI.agg (w:=w) (S:=S) vs.toList (vs.toList.map fun v=>nz1 (.val v)) (by simp) (fun u hu=>List.all_eq_true.1 hall u hu) fun i u x hu hx=>by
    simp only [List.getElem?_map,hu,Option.map_some,zkF] at hx;rw [← hx];exact zmi (.val _)
   simpa using this
 ·exact zmi h
theorem zst {ρ:Ly} {bs:List (Nat×Nat)} {o q:Nat} (h:Owns (app σ (fwr bs)) ρ o q):Owns σ ρ o q∧o∉bs.map (·.1):=by
 have hl:=(fwr_live h.lv).2;unfold Owns at h ⊢;rw [zoe,if_neg hl] at h;exact ⟨h,hl⟩
theorem kill_blk {a:Act} {w:World} {ρ:Ly} (h:SatR B σ a w ρ) {b q:Nat} {bs:List (Nat×Nat)} (hb:Owns σ ρ b q) (hm:b∈bs.map (·.1)):Imm B (app σ (fwr bs)) ρ w q:=by
 have hq:=h.own b q hb;refine ⟨.inr hq.1,hq.2,fun o ho=>?_,fun hz=>(h.res q hz).2 b hb⟩;obtain ⟨h1,h2⟩:=zst ho;have:=h.dis o b q h1 hb;subst this;exact h2 hm
theorem ziu.repI {w w':World} {S S':Nat→Prop} {v:Value} {e:TypeId} {k:Nat} {es:List (List IV)} (h:ziu w S v e k es) (hb:∀ b,zba v=some b→S' b∧w'.heap[b]?=w.heap[b]?) (hI:∀ u x,RepI w S u x→RepI w' S' u x):RepI w' S' v (.sl es):=by
 obtain ⟨us,hk0,hkk,hsm,hown0,hlen,a2,hr⟩:=h;have hown:=ziq hown0 fun b h=>(hb b h).2;rcases hown.2 with ⟨e1,e2⟩ | ⟨q,cap,cur,e1,_,_,hcap,_⟩
 ·have:es=[]:=List.eq_nil_of_length_eq_zero e2;subst this;rw [e1];exact .emp _ _
 ·have hc:=hown.cells (g:=q) (by rw [e1];rfl);have hS:=(hb q (by rw [e1];rfl)).1;rw [e1];refine .sl q 0 cap k _ es us rfl hkk hcap hsm hS hlen a2 (fun i u hu=>?_) fun i u x hu hx=>hI _ _ (hr i u x hu hx);have:=hc i u hu
  rwa [addr_add] at this
theorem zkc.repI {w w':World} {S S':Nat→Prop} {v:Value} {inn:List Value} {e e':TypeId} {k:Nat} {gs:List (List IV)} (h:zkc w S v inn e e' k gs none) (hb:∀ b,b∈fpv v inn→S' b∧w'.heap[b]?=w.heap[b]?) (hI:∀ u x,RepI w S u x→RepI w' S' u x):RepI w' S' v (.sl gs):=by
 obtain ⟨h0,h1,us,h2,h3,h4,h5⟩:=h;have hus:us.length=gs.length:=by have:=h3.1;omega
 have hcell:∀ (i:Nat) x,gs[i]?=some x→∃ u es,us[i]?=some u∧x=[.sl es]∧RepI w' S' u (.sl es):=fun i x hx=>by
  have hi:i<inn.length:=by rw [h1];exact (zkI.1 hx).1
  obtain ⟨u,hu⟩:∃ u,inn[i]?=some u:=⟨_,zkM hi⟩;rcases h5 i u hu with ⟨h6,_⟩ | ⟨h6,es,h7,h8⟩
  ·cases h6
  ·rw [hx] at h7;injection h7 with h7
   exact ⟨u,es,h6,h7,h8.repI (fun b hb'=>hb b (List.mem_filterMap.2 ⟨u,List.mem_cons_of_mem _ (zkH hu),hb'⟩)) hI⟩
 have hkk:∀ x∈gs,x.length=1:=fun x hx=>by
  obtain ⟨i,hi⟩:=List.getElem?_of_mem hx;obtain ⟨u,es,_,rfl,_⟩:=hcell i x hi;rfl
 have hfl:=zbb hkk;have hown:=ziq h3 fun b hb'=>(hb b (by simp [fpv,hb'])).2;rcases hown.2 with ⟨e1,e2⟩ | ⟨q,cap,cur,e1,_,_,hcap,_⟩
 ·have:gs=[]:=List.eq_nil_of_length_eq_zero e2;subst this;rw [e1];exact .emp _ _
 ·have hc:=hown.cells (g:=q) (by rw [e1];rfl);have hS:=(hb q (by simp [fpv,e1,zba])).1;rw [e1];refine .sl q 0 cap 1 _ gs us rfl hkk hcap h2 hS (by omega) h4 (fun i u hu=>?_) fun i u x hu hx=>?_
  ·have:=hc i u hu
   rwa [addr_add] at this
  ·have hi:i<gs.length:=by rw [← hus];exact (zkI.1 hu).1
   obtain ⟨y,hy⟩:∃ y,gs[i]?=some y:=⟨_,zkM hi⟩;obtain ⟨u',es,hu',rfl,hr⟩:=hcell i y hy;rw [hu] at hu';injection hu' with hu'
   subst hu';have hf:=flat_get hkk hy (j:=0) (by omega);rw [Nat.mul_one,Nat.add_zero,hx] at hf;simp at hf;rw [hf];exact hr
theorem fz1_ok {a:Act} {w:World} {ρ:Ly} (h:SatR B σ a w ρ) {v:Value} {c:AV} {x:IV} {bs bs':List (Nat×Nat)} (hgk:∀ p∈bs',σ.gn p.1=p.2) (hv:RepA w (Imm B σ ρ w) ρ σ.gn v c) (e:fz1 σ c=some (x,bs)) (hs:∀ b∈bs,b∈bs'):RepI w (Imm B (app σ (fwr bs')) ρ w) v x:=by
 have hI:=(h.kills bs').2;unfold fz1 at e;split at e
 ·simp only [zkF,zkG] at e;rw [← e.1];exact zmi (hI _ _ hv.im_inv)
 ·rename_i b g
  have key:∀ {k:Kd},σ.kd b=k→k≠.dead→(b,g)∈bs'→v=ρ b∧∀ q,q∈fpk (ρ b) (ρ.inn b) k→Imm B (app σ (fwr bs')) ρ w q∧w.heap[q]?=w.heap[q]?:=fun hk hd hmem=>by
   have hg:=hgk _ hmem;have hmem:b∈bs'.map (·.1):=List.mem_map.2 ⟨_,hmem,rfl⟩;refine ⟨?_,fun q hq=>⟨kill_blk h (b:=b) (by unfold Owns;rw [hk];exact hq) hmem,rfl⟩⟩;cases hv with
   | osl _ _ _ _ _ hh=>exact hh hg
  have ho:=h.obs b;split at e
  ·rename_i t k es hk;simp only [zkF,zkG] at e;obtain ⟨rfl,rfl⟩:=e;obtain ⟨h1,h2⟩:=key hk (fun z=>by cases z) (hs (b,g) (by simp));rw [hk] at ho;rw [h1];exact ziu.repI ho (fun q hq=>h2 q (by simp [fpk,hq])) hI
  ·rename_i t t' k gs hk;simp only [zkF,zkG] at e;obtain ⟨rfl,rfl⟩:=e;obtain ⟨h1,h2⟩:=key hk (fun z=>by cases z) (hs (b,g) (by simp));rw [hk] at ho;rw [h1];exact zkc.repI ho (fun q hq=>h2 q hq) hI
  ·rename_i l hk;simp only [zkF,zkG] at e;obtain ⟨rfl,rfl⟩:=e;exact .any _
  ·cases e
 ·rename_i b g i;have ho:=h.obs b;split at e
  ·rename_i t t' k gs hk hbe;simp only [zkF,zkG] at e;obtain ⟨rfl,rfl⟩:=e;have hmem:b∈bs'.map (·.1):=List.mem_map.2 ⟨_,hs (b,σ.gn b) (by simp),rfl⟩;have hg:σ.ig b=g:=Nat.eq_of_beq_eq_true hbe
   have hin:(ρ.inn b)[i]?=some v:=by
    cases hv with
    | sub _ _ _ _ _ _ hh=>exact hh ((h.igs b).trans hg)
   have hblk:∀ q,q∈fpk (ρ b) (ρ.inn b) (.grid t t' k gs none)→Imm B (app σ (fwr bs')) ρ w q:=fun q hq=>kill_blk h (b:=b) (by unfold Owns;rw [hk];exact hq) hmem;rw [hk] at ho;obtain ⟨h0,h1,us,h2,h3,h4,h5⟩:=ho;rcases h5 i v hin with ⟨h6,_⟩ | ⟨h6,es,h7,h8⟩
   ·cases h6
   ·have er:rowAt gs i=es:=by unfold rowAt;rw [h7]
    rw [er];exact h8.repI (fun q hq=>⟨hblk q (List.mem_filterMap.2 ⟨v,List.mem_cons_of_mem _ (zkH hin),hq⟩),rfl⟩) hI
  ·cases e
 ·cases e
theorem zww {a:Act} {w:World} {ρ:Ly} (h:SatR B σ a w ρ) {bs':List (Nat×Nat)} (hgk:∀ p∈bs',σ.gn p.1=p.2):∀ {us:List Value} {cs:List AV} {xs:List IV} {bs:List (Nat×Nat)},Reps w (Imm B σ ρ w) ρ σ.gn us cs→fzL σ cs=some (xs,bs)→(∀ b∈bs,b∈bs')→zj0 w (Imm B (app σ (fwr bs')) ρ w) us xs
 | [],[],xs,bs,_,e,_=>by
  simp only [fzL,zkF,zkG] at e;rw [← e.1];exact ⟨rfl,fun i u x hu=>by simp at hu⟩
 | u::us,c::cs,xs,bs,hr,e,hs=>by
  simp only [fzL] at e;split at e
  ·rename_i x b1 xs1 bs1 h1 h2;simp only [zkF,zkG] at e;obtain ⟨rfl,rfl⟩:=e;have r1:=fz1_ok h hgk (hr.2 0 u c rfl rfl) h1 fun b hb=>hs b (List.mem_append_left _ hb);have r2:=zww h hgk (us:=us) (cs:=cs) ⟨by simpa using hr.1,fun i u c hu hc=>hr.2 (i+1) u c (by simpa using hu) (by simpa using hc)⟩ h2 fun b hb=>hs b (List.mem_append_right _ hb);refine ⟨by simp [r2.1],fun i u' x' hu hx=>?_⟩;cases i with
   | zero=>simp at hu hx;rw [← hu,← hx];exact r1
   | succ i=>exact r2.2 i u' x' (by simpa using hu) (by simpa using hx)
  ·cases e
 | [],_::_,_,_,hr,_,_=>by have:=hr.1;simp at this
 | _::_,[],_,_,hr,_,_=>by have:=hr.1;simp at this
theorem zq8 {w:World} {ρ:Ly} {us:List Value} {b:Nat} {t:TypeId} (hk:σ.kd b=.box t us.length) (h:∀ (j:Nat) u,us[j]?=some u→RepA w (Imm B σ ρ w) ρ σ.gn u (σ.ce b j)):Reps w (Imm B σ ρ w) ρ σ.gn us (zrd σ b):=by
 have hl:=zpf hk;unfold zrd;rw [hl];refine ⟨by simp,fun i u c hu hc=>?_⟩;have hi:i<us.length:=(zkI.1 hu).1;simp only [List.getElem?_map,List.getElem?_range hi,Option.map_some,zkF] at hc;rw [← hc];exact h i u hu
theorem zj0.drop {w:World} {S:Nat→Prop} {us:List Value} {xs:List IV} (h:zj0 w S us xs) (i:Nat):zj0 w S (us.drop i) (xs.drop i) :=
 ⟨by simp [h.1],fun j u x hu hx=>h.2 (i+j) u x (by rwa [List.getElem?_drop] at hu) (by rwa [List.getElem?_drop] at hx)⟩
theorem fz2_ok {a:Act} {w:World} {ρ:Ly} (h:SatR B σ a w ρ) {v:Value} {c:AV} {x:IV} {bs bs':List (Nat×Nat)} (hgk:∀ p∈bs',σ.gn p.1=p.2) (hv:RepA w (Imm B σ ρ w) ρ σ.gn v c) (e:fz2 σ c=some (x,bs)) (hs:∀ b∈bs,b∈bs'):RepI w (Imm B (app σ (fwr bs')) ρ w) v x:=by
 have hI:=(h.kills bs').2;unfold fz2 at e;split at e
 ·simp only [zkF,zkG] at e;rw [← e.1];exact nz_rep (hI _ _ hv.im_inv)
 ·rename_i cs;cases hf:fzL σ cs with
  | none=>rw [hf] at e;cases e
  | some p =>
   rw [hf] at e;simp only [Option.map_some,zkF,zkG] at e;cases hv with
   | agg us _ hl a2 hr =>
    have r:=zww h (bs':=bs') hgk ⟨hl,hr⟩ (xs:=p.1) (bs:=p.2) hf (by rw [e.2];exact hs);rw [← e.1];exact .agg us _ r.1 a2 r.2
 ·rename_i b g i;split at e
  ·rename_i t m hkd;cases hf:fzL σ (zrd σ b) with
   | none=>rw [hf] at e;cases e
   | some p =>
    rw [hf] at e;simp only [Option.map_some,zkF,zkG] at e;obtain ⟨e1,e2⟩:=e;have hmem:=hs (b,g) (by rw [← e2];simp);have hg:=hgk _ hmem;have hmem:b∈bs'.map (·.1):=List.mem_map.2 ⟨_,hmem,rfl⟩;have hsub:∀ b∈p.2,b∈bs':=fun c hc=>hs c (by rw [← e2];simp [hc]);have hl:live σ b:=by unfold live;rw [hkd];exact fun z=>by cases z
    obtain ⟨q,us,e3,e4,e5,e6,e7,e8,e9⟩:=zi0 h hv hg hkd;have r:=(zww h (bs':=bs') hgk (zq8 (by rw [e6];exact hkd) e9) (xs:=p.1) (bs:=p.2) hf hsub).drop i;have hb:zba (ρ b)=some q:=by rw [e4];rfl
    rw [← e1,e3];exact .ref q i (us.drop i) _ (kill_blk h (.root hl hb) hmem) r.1 (fun u hu=>e7 u (List.mem_of_mem_drop hu)) (fun j u hu=>e8 _ u (by rwa [List.getElem?_drop] at hu)) r.2
  ·cases e
 ·exact fz1_ok h hgk hv e hs
theorem fzM_ok {a:Act} {w:World} {ρ:Ly} (h:SatR B σ a w ρ) {bs':List (Nat×Nat)} (hgk:∀ p∈bs',σ.gn p.1=p.2):∀ {us:List Value} {cs:List AV} {xs:List IV} {bs:List (Nat×Nat)},Reps w (Imm B σ ρ w) ρ σ.gn us cs→fzM σ cs=some (xs,bs)→(∀ b∈bs,b∈bs')→zj0 w (Imm B (app σ (fwr bs')) ρ w) us xs
 | [],[],xs,bs,_,e,_=>by
  simp only [fzM,zkF,zkG] at e;rw [← e.1];exact ⟨rfl,fun i u x hu=>by simp at hu⟩
 | u::us,c::cs,xs,bs,hr,e,hs=>by
  simp only [fzM] at e;split at e
  ·rename_i x b1 xs1 bs1 h1 h2;simp only [zkF,zkG] at e;obtain ⟨rfl,rfl⟩:=e;have r1:=fz2_ok h hgk (hr.2 0 u c rfl rfl) h1 fun b hb=>hs b (List.mem_append_left _ hb);have r2:=fzM_ok h hgk (us:=us) (cs:=cs) ⟨by simpa using hr.1,fun i u c hu hc=>hr.2 (i+1) u c (by simpa using hu) (by simpa using hc)⟩ h2 fun b hb=>hs b (List.mem_append_right _ hb);refine ⟨by simp [r2.1],fun i u' x' hu hx=>?_⟩;cases i with
   | zero=>simp at hu hx;rw [← hu,← hx];exact r1
   | succ i=>exact r2.2 i u' x' (by simpa using hu) (by simpa using hx)
  ·cases e
 | [],_::_,_,_,hr,_,_=>by have:=hr.1;simp at this
 | _::_,[],_,_,hr,_,_=>by have:=hr.1;simp at this
theorem fz_ok {a:Act} {w:World} {ρ:Ly} (h:SatR B σ a w ρ) {v:Value} {c:AV} {x:IV} {bs bs':List (Nat×Nat)} (hgk:∀ p∈bs',σ.gn p.1=p.2) (hv:RepA w (Imm B σ ρ w) ρ σ.gn v c) (e:fz σ c=some (x,bs)) (hs:∀ b∈bs,b∈bs'):RepI w (Imm B (app σ (fwr bs')) ρ w) v x:=by
 unfold fz at e;split at e
 ·rename_i f caps;cases hf:fzM σ caps with
  | none=>rw [hf] at e;cases e
  | some p =>
   rw [hf] at e;simp only [Option.map_some,zkF,zkG] at e;cases hv with
   | fn _ us _ hl hr =>
    have r:=fzM_ok h (bs':=bs') hgk ⟨hl,hr⟩ (xs:=p.1) (bs:=p.2) hf (by rw [e.2];exact hs);rw [← e.1];exact .fn f us _ r.1 r.2
 ·exact fz2_ok h hgk hv e hs
def zcz (σ σ':St) (bs:List (Nat×Nat)):Prop:=∀ l∈frd σ bs,σ' l=σ l
theorem zcz.left {σ':St} {b c:List (Nat×Nat)} (h:zcz σ σ' (b++c)):zcz σ σ' b:=fun l hl=>h l (by unfold frd at *;rw [List.flatMap_append];exact List.mem_append_left _ hl)
theorem zcz.right {σ':St} {b c:List (Nat×Nat)} (h:zcz σ σ' (b++c)):zcz σ σ' c:=fun l hl=>h l (by unfold frd at *;rw [List.flatMap_append];exact List.mem_append_right _ hl)
theorem zcz.head {σ':St} {p:Nat×Nat} {c:List (Nat×Nat)} (h:zcz σ σ' (p::c)):σ'.gn p.1=σ.gn p.1∧σ'.kd p.1=σ.kd p.1∧zrd σ' p.1=zrd σ p.1∧σ'.ig p.1=σ.ig p.1:=by
 have h1:=zd2 (h (.gen p.1) (by simp [frd]));have h2:=zo0 (h (.knd p.1) (by simp [frd]))
 have h3:σ'.ig p.1=σ.ig p.1:=by
  have:=h (.ign p.1) (by simp [frd]);unfold St.ig;rw [this]
 refine ⟨h1,h2,?_,h3⟩;unfold zrd;rw [boxLen_same h2];refine List.map_congr_left fun i hi=>ce_same (h (.cel p.1 i) ?_);simp only [frd,List.flatMap_cons,List.cons_append,List.mem_cons,List.mem_append];refine .inr (.inr (.inr (.inl ?_)));unfold boxRd;exact List.mem_map.2 ⟨i,hi,rfl⟩
theorem fz1_same {σ':St} {c:AV} {x:IV} {bs:List (Nat×Nat)} (e:fz1 σ c=some (x,bs)) (h:zcz σ σ' bs):fz1 σ' c=some (x,bs):=by
 unfold fz1 at e ⊢;split at e
 ·exact e
 ·rename_i b g;split at e
  ·rename_i t k es hk;simp only [zkF,zkG] at e;obtain ⟨rfl,rfl⟩:=e;rw [show σ'.kd b=_ from (zcz.head h).2.1.trans hk]
  ·rename_i t t' k gs hk;simp only [zkF,zkG] at e;obtain ⟨rfl,rfl⟩:=e;rw [show σ'.kd b=_ from (zcz.head h).2.1.trans hk]
  ·rename_i l hk;simp only [zkF,zkG] at e;obtain ⟨rfl,rfl⟩:=e;rw [show σ'.kd b=_ from (zcz.head h).2.1.trans hk]
  ·cases e
 ·rename_i b g i;split at e
  ·rename_i t t' k gs hk hbe;simp only [zkF,zkG] at e;obtain ⟨rfl,rfl⟩:=e;have hh:=zcz.head h;rw [show σ'.kd b=_ from hh.2.1.trans hk,show Nat.beq (σ'.ig b) g=true by rw [show σ'.ig b=σ.ig b from hh.2.2.2];exact hbe,show σ'.gn b=σ.gn b from hh.1]
  ·cases e
 ·cases e
theorem zn1 {σ':St}:∀ {cs:List AV} {xs:List IV} {bs:List (Nat×Nat)},fzL σ cs=some (xs,bs)→zcz σ σ' bs→fzL σ' cs=some (xs,bs)
 | [],_,_,e,_=>e
 | c::cs,xs,bs,e,h=>by
  simp only [fzL] at e;split at e
  ·rename_i x b1 xs1 bs1 h1 h2;simp only [zkF,zkG] at e;obtain ⟨rfl,rfl⟩:=e;simp only [fzL,fz1_same h1 h.left,zn1 h2 h.right]
  ·cases e
theorem fz2_same {σ':St} {c:AV} {x:IV} {bs:List (Nat×Nat)} (e:fz2 σ c=some (x,bs)) (h:zcz σ σ' bs):fz2 σ' c=some (x,bs):=by
 unfold fz2 at e ⊢;split at e
 ·exact e
 ·rename_i cs;cases hf:fzL σ cs with
  | none=>rw [hf] at e;cases e
  | some p =>
   rw [hf] at e;simp only [Option.map_some,zkF,zkG] at e;obtain ⟨rfl,rfl⟩:=e;rw [zn1 (xs:=p.1) (bs:=p.2) hf h];rfl
 ·rename_i b g i;split at e
  ·rename_i t m hkd;cases hf:fzL σ (zrd σ b) with
   | none=>rw [hf] at e;cases e
   | some p =>
    rw [hf] at e;simp only [Option.map_some,zkF,zkG] at e;obtain ⟨rfl,rfl⟩:=e;have hh:=zcz.head h;rw [show σ'.kd b=_ from hh.2.1.trans hkd];simp only;rw [show zrd σ' b=_ from hh.2.2.1,zn1 (xs:=p.1) (bs:=p.2) hf (zcz.right (b:=[(b,g)]) h)];rfl
  ·cases e
 ·exact fz1_same e h
theorem fzM_same {σ':St}:∀ {cs:List AV} {xs:List IV} {bs:List (Nat×Nat)},fzM σ cs=some (xs,bs)→zcz σ σ' bs→fzM σ' cs=some (xs,bs)
 | [],_,_,e,_=>e
 | c::cs,xs,bs,e,h=>by
  simp only [fzM] at e;split at e
  ·rename_i x b1 xs1 bs1 h1 h2;simp only [zkF,zkG] at e;obtain ⟨rfl,rfl⟩:=e;simp only [fzM,fz2_same h1 h.left,fzM_same h2 h.right]
  ·cases e
theorem zmy {σ':St} {c:AV} {x:IV} {bs:List (Nat×Nat)} (e:fz σ c=some (x,bs)) (h:zcz σ σ' bs):fz σ' c=some (x,bs):=by
 unfold fz at e ⊢;split at e
 ·rename_i f caps;cases hf:fzM σ caps with
  | none=>rw [hf] at e;cases e
  | some p =>
   rw [hf] at e;simp only [Option.map_some,zkF,zkG] at e;obtain ⟨rfl,rfl⟩:=e;rw [fzM_same (xs:=p.1) (bs:=p.2) hf h];rfl
 ·exact fz2_same e h
theorem SatR.reav {B:Base} {σ:St} {a:Act} {w:World} {ρ:Ly} (h:SatR B σ a w ρ) {t:Nat} {v:AV} (hv:RepA w (Imm B σ ρ w) ρ σ.gn (a.tmps.getD t undef) v):SatR B (upd σ (.tmp t) (.av v)) a w ρ:=by
 refine h.slots (zlm.tmp σ t (.av v)) (fun s=>?_) h.siz h.dfr;rw [av_tmp];by_cases e:s=t
 ·rw [if_pos e,e];exact hv
 ·rw [if_neg e];exact h.tms s
theorem SatR.reavs {B:Base} {a:Act} {w:World} {ρ:Ly}:∀ (ws:List (Nat×IV)) {σ:St},SatR B σ a w ρ→(∀ p∈ws,RepI w (Imm B σ ρ w) (a.tmps.getD p.1 undef) p.2) →
  SatR B (app σ (wrI ws)) a w ρ∧Imm B (app σ (wrI ws)) ρ w=Imm B σ ρ w∧(app σ (wrI ws)).gn=σ.gn
 | [],_,h,_=>⟨h,rfl,rfl⟩
 | p::ws,σ,h,hp=>by
  have hs:=zlm.tmp σ p.1 (.av (.im p.2));have h1:=h.reav (t:=p.1) (.im _ _ (hp p (List.mem_cons_self ..)));have hi:Imm B (upd σ (.tmp p.1) (.av (.im p.2))) ρ w=Imm B σ ρ w:=Imm.same hs.kd _ _;obtain ⟨h2,h3,h4⟩:=SatR.reavs ws h1 fun q hq=>by rw [hi];exact hp q (List.mem_cons_of_mem _ hq)
  exact ⟨h2,h3.trans hi,h4.trans hs.gn⟩
theorem capF_same {own:List Nat} {σ':St}:∀ {l:List Operand} {vs:List AV} {bs:List (Nat×Nat)} {ws:List (Nat×IV)},capF σ own l=some (vs,bs,ws)→zcz σ σ' bs→(∀ x∈l,evA σ' x=evA σ x)→capF σ' own l=some (vs,bs,ws)
 | [],_,_,_,h,_,_=>h
 | x::l,vs,bs,ws,h,hs,he=>by
  unfold capF at h ⊢;split at h
  ·rename_i vs0 bs0 ws0 h0;have hrec:zcz σ σ' bs0→capF σ' own l=some (vs0,bs0,ws0):=fun hs0=>capF_same h0 hs0 fun y hy=>he y (List.mem_cons_of_mem _ hy);have hx:=he x (List.mem_cons_self ..);split at h
   ·rename_i t;have hx:σ'.av t=σ.av t:=hx;split at h
    ·rename_i hown;split at h
     ·rename_i y b hy;simp only [zkF,zkG] at h;obtain ⟨rfl,rfl,rfl⟩:=h;rw [hrec fun l' hl'=>hs l' (by unfold frd at hl' ⊢;rw [List.flatMap_append];exact List.mem_append_right _ hl')];simp only [hown];rw [hx,fz2_same hy fun l' hl'=>hs l' (by unfold frd at hl' ⊢;rw [List.flatMap_append];exact List.mem_append_left _ hl')]
     ·cases h
    ·rename_i hown;simp only [zkF,zkG] at h;obtain ⟨rfl,rfl,rfl⟩:=h;rw [hrec hs];simp only [hown];rw [hx]
   ·rename_i hne;simp only [zkF,zkG] at h;obtain ⟨rfl,rfl,rfl⟩:=h;rw [hrec hs];cases x with
    | tmp t=>exact absurd rfl (hne _)
    | _=>rfl
  ·cases h
theorem capF_ok {own:List Nat} {a:Act} {w:World} {ρ:Ly} (h:SatR B σ a w ρ) {bs':List (Nat×Nat)} (hgk:∀ p∈bs',σ.gn p.1=p.2):∀ {l:List Operand} {vs:List AV} {bs:List (Nat×Nat)} {ws:List (Nat×IV)},capF σ own l=some (vs,bs,ws)→(∀ b∈bs,b∈bs') →
  Reps w (Imm B (app σ (fwr bs')) ρ w) ρ (app σ (fwr bs')).gn (l.map a.eval) vs∧∀ p∈ws,RepI w (Imm B (app σ (fwr bs')) ρ w) (a.tmps.getD p.1 undef) p.2
 | [],_,_,_,e,_=>by
  simp only [capF,zkF,zkG] at e;obtain ⟨rfl,rfl,rfl⟩:=e;exact ⟨⟨rfl,fun i u y hu=>by simp at hu⟩,fun p hp=>by simp at hp⟩
 | x::l,vs,bs,ws,e,hb=>by
  unfold capF at e;obtain ⟨hk,_⟩:=h.kills bs';have hgn:(app σ (fwr bs')).gn=σ.gn:=zr2 bs' σ
  have cons:∀ {u:Value} {y:AV} {us:List Value} {ys:List AV},RepA w (Imm B (app σ (fwr bs')) ρ w) ρ (app σ (fwr bs')).gn u y→Reps w (Imm B (app σ (fwr bs')) ρ w) ρ (app σ (fwr bs')).gn us ys→Reps w (Imm B (app σ (fwr bs')) ρ w) ρ (app σ (fwr bs')).gn (u::us) (y::ys):=fun h1 h2 =>
   ⟨by simp [h2.1],fun i u' y' hu hy=>by
    cases i with
    | zero=>simp at hu hy;rw [← hu,← hy];exact h1
    | succ i=>exact h2.2 i u' y' (by simpa using hu) (by simpa using hy)⟩
  split at e
  ·rename_i vs0 bs0 ws0 h0;split at e
   ·rename_i t;split at e
    ·split at e
     ·rename_i y b hy;simp only [zkF,zkG] at e;obtain ⟨rfl,rfl,rfl⟩:=e;obtain ⟨r1,r2⟩:=capF_ok h hgk h0 fun p hp=>hb p (List.mem_append_right _ hp);have h1:=fz2_ok h (bs':=bs') hgk (h.tms t) hy fun p hp=>hb p (List.mem_append_left _ hp)
      exact ⟨cons (.im _ _ h1) r1,fun p hp=>by
       rcases List.mem_cons.1 hp with rfl | hp
       ·exact h1
       ·exact r2 p hp⟩
     ·cases e
    ·simp only [zkF,zkG] at e;obtain ⟨rfl,rfl,rfl⟩:=e;obtain ⟨r1,r2⟩:=capF_ok h hgk h0 hb;have:=hk.tms t;rw [fwr_av] at this;exact ⟨cons this r1,r2⟩
   ·rename_i hne;simp only [zkF,zkG] at e;obtain ⟨rfl,rfl,rfl⟩:=e;obtain ⟨r1,r2⟩:=capF_ok h hgk h0 hb;have:=zay hk x;cases x with
    | tmp t=>exact absurd rfl (hne _)
    | _=>exact ⟨cons this r1,r2⟩
  ·cases e
theorem aMakeFunc_ok {own:List Nat} {fn:Fn} {first captured:Array Operand} (hop:o.op=.makeFunc fn first captured) (hd:zce B.n o=true) (h:zt8 own o σ K fn first captured):∃ fx,K fx∧Eff P B o fx.rd σ fx.wr:=by
 unfold zt8 at h;split at h
 ·rename_i g;split at h
  ·rename_i vs bs ws hcap;obtain ⟨h0,h⟩:=h.ok;obtain ⟨hgk0,h⟩:=h.out;refine ⟨_,h,fun σ' hag a w ⟨ρ,hs⟩ K' Q hK=>?_⟩;have hf:first=#[]:=by simpa using h0
   subst hf;have hsame:zcz σ σ' bs:=za0 hag
   have hgk:∀ p∈bs,σ'.gn p.1=p.2:=fun p hp=>by
    rw [← hgk0 p hp];exact zd2 (hsame (.gen p.1) (by unfold frd;exact List.mem_flatMap.2 ⟨p,hp,by simp⟩))
   have hcap':=capF_same hcap hsame fun x hx=>zao fun l hl=>zaw hag l (by unfold opdL;exact List.mem_flatMap.2 ⟨x,hx,hl⟩);obtain ⟨hsk,_⟩:=hs.kills bs;obtain ⟨r1,r2⟩:=capF_ok hs (bs':=bs) hgk hcap' fun _ h=>h;obtain ⟨h5,h6,h7⟩:=hsk.reavs ws r2
   have run:(execOp a.eval o).run P w=.ok (.value (.func (.func g) #[] (captured.toList.map a.eval).toArray)) w:=by
    simp [execOp,hop,Instr.makeFunc];rw [← Array.toList_map]
   unfold Oper.wp;rw [run,Oper.upon_value];refine hK _ _ ⟨ρ,?_⟩;rw [zaz,zaz];exact h5.put (fun t e=>zc7 hd e) (.fn g _ _ (by simpa using r1.1) fun i u y hu hy=>by rw [h6,h7];exact r1.2 i u y hu hy)
  ·exact h.elim
 ·exact h.elim
theorem aBox_ok {own:List Nat} {t:TypeId} {x:Operand} (hop:o.op=.box t x) (hd:zce B.n o=true) (h:aBox own o σ K t x):∃ fx,K fx∧Eff P B o fx.rd σ fx.wr:=by
 unfold aBox at h;split at h
 ·rename_i d cs hdst hcs
  have run:∀ (a:Act) w,(execOp a.eval o).run P w=.ok (.value (.pointer (some ⟨w.heap.size,0,none⟩))) (w.alloc (.cells (a.eval x).cells.toList.toArray t)):=fun a w=>by
   simp [execOp,hop,Instr.box,newVar,newRow]
  split at h
  ·split at h
   ·rename_i xs bs hfz;obtain ⟨hgk0,h⟩:=h.out;refine ⟨_,h,fun σ' hag a w ⟨ρ,hs⟩ K' Q hK=>?_⟩;have hsame:zcz σ σ' bs:=za0 hag
    have hgk:∀ p∈bs,σ'.gn p.1=p.2:=fun p hp=>by
     rw [← hgk0 p hp];exact zd2 (hsame (.gen p.1) (by unfold frd;exact List.mem_flatMap.2 ⟨p,hp,by simp⟩))
    have h1:=zay hs x;rw [zao (zaw hag)] at h1;have hr:=zhw hcs h1;have hone:=zh6 hcs h1;have hf:=zww hs (bs':=bs) hgk hr (zn1 hfz hsame) fun _ h=>h;obtain ⟨hsk,_⟩:=hs.kills bs;have hbel:Below w.heap.size w (w.alloc (.cells (a.eval x).cells.toList.toArray t)):=(Below.refl _ _).alloc (Nat.le_refl _) _;obtain ⟨hsw,hI⟩:=hsk.world hbel;unfold Oper.wp;rw [run,Oper.upon_value,hdst];refine hK _ _ ⟨ρ,?_⟩;rw [zaz];refine hsw.put (d:=some d) (fun t e=>by injection e with e;subst e;exact zc7 hd hdst) (.im _ _ (.ref _ _ _ _ ⟨.inr (.inl hs.bel.size),by simp,fun p hpb=>?_,fun hz=>?_⟩ hf.1 hone (fun i u hu=>?_) fun i u y hu hy=>hI _ _ (hf.2 i u y hu hy)))
    ·have:=(hsk.own p _ hpb).2;omega
    ·have:=(hsk.res _ hz).1.2;omega
    ·rw [Nat.zero_add];unfold World.cell?;simp only [heap_alloc_new];simpa using hu
   ·exact h.elim
  refine ⟨_,h,fun σ' hag a w ⟨ρ,hs⟩ K' Q hK=>?_⟩;have h1:=zay hs x;rw [zao (zaw hag)] at h1;have hg:=zd2 (za0 hag (.gen d) (by simp));have hr:=zhw hcs h1;have hone:=zh6 hcs h1;unfold Oper.wp;rw [run,Oper.upon_value,hdst];refine hK _ _ ⟨setρ ρ d (.pointer (some ⟨w.heap.size,0,none⟩)),?_⟩;show SatR B (app σ' (zdz σ d (.box t cs.length)++zgg d 0 cs++[(.tmp d,.av (.own d (σ.gn d+1) 0))])) _ _ _;rw [zo5 hg,← hg];exact zwo (hs.box d t hr hone) _ rfl (zc7 hd hdst)
 ·exact h.elim
end
end
section
section
variable {P:Program} {B:Base} {o:Oper} {σ:St} {K:Fx→Prop}
theorem zi1 {t:TypeId} {k by_:Nat} (hz:zOk P t k=true) (hk:szOf P t=some k) (hb:byteOf P t=some by_):∃ i z,P.info? t=some i∧i.zero=some z∧i.size=k∧i.bytes=by_∧z.cells.size=k:=by
 unfold szOf at hk;unfold byteOf at hb;cases hi:P.info? t with
 | none=>rw [hi] at hk;cases hk
 | some i =>
  rw [hi] at hk hb;simp only [Option.map_some,zkF] at hk hb;unfold zOk at hz;split at hz
  ·rename_i zs hzs;unfold zeroOf at hzs;simp only [hi] at hzs;cases hz0:i.zero with
   | none=>rw [hz0] at hzs;cases hzs
   | some z =>
    rw [hz0] at hzs;simp only [Option.map_some,zkF] at hzs;refine ⟨i,z,rfl,hz0,hk,hb,?_⟩;rw [← hzs] at hz;simpa using hz
  ·cases hz
theorem zt6 {w:World} {S:Nat→Prop} {v:Value} {es:List (List IV)} {k:Nat} (h:RepI w S v (.sl es)) (hk:∀ e∈es,e.length=k) :
  ∃ (A:Option Addr) (c:Nat) (us:List Value),v=.slice A es.length c∧us.length=es.flatten.length∧(∀ u∈us,u.oneCell'=true)∧es.length≤17592186044416 ∧
   (0<es.length→∃ b q,A=some ⟨b,q,none⟩∧∀ (j:Nat) u,us[j]?=some u→w.cell? ⟨b,q+j,none⟩=some u)∧∀ (i:Nat) u x,us[i]?=some u→es.flatten[i]?=some x→RepI w S u x:=by
 cases h with
 | emp A c=>exact ⟨A,c,[],rfl,rfl,by simp,by simp,fun h=>by simp at h,by simp⟩
 | sl b q c k' n _ us hn hkk hcap hs hS hl h1 hu hr=>exact ⟨_,c,us,by rw [hn],hl,h1,by omega,fun _=>⟨b,q,rfl,hu⟩,hr⟩
theorem zfy {w:World} (base:Nat) (t ty e:TypeId) (i:TypeInfo) (z:Value) (size bytes:Nat) (ht:P.underlying t=some (.slice e)) (hi:P.info? e=some i) (hz:i.zero=some z)
  (hsize:i.size=size) (hby:i.bytes=bytes) (hzs:z.cells.size=size) (hsz:0<size) (v:Value) (n:Nat) (xs:List Value) (hown:w.ownsRow base e size v n xs)
  (A:Option Addr) (m c:Nat) (news:List Value) (hl:news.length=m*size) (hs:0<m→∃ b q,A=some ⟨b,q,none⟩∧∀ (j:Nat) u,news[j]?=some u→w.cell? ⟨b,q+j,none⟩=some u) (h1:∀ u∈news,u.oneCell'=true)
  (a2:n+m≤maxLen) (hbytes:(n+m)*bytes≤140737488355328) (hbase:base≤w.heap.size) :
  ∃ v' w',(Builtin.append_ #[t,t] ty #[v,.slice A m c]).run P w=.ok v' w'∧w'.ownsRow base e size v' (n+m) (xs++news)∧w.grownBy w' v.ownBlock ∧
   (v'.ownBlock=v.ownBlock∨v'.ownBlock=some w.heap.size):=by
 cases A with
 | none =>
  have hm:m=0:=by
   rcases Nat.eq_zero_or_pos m with h0 | h0
   ·exact h0
   ·obtain ⟨b,q,h,_⟩:=hs h0;cases h
  subst hm;have hn:news=[]:=List.eq_nil_of_length_eq_zero (by simpa using hl);subst hn;refine ⟨v,w,?_,by simpa using hown,World.grownBy.refl w _,.inl rfl⟩;rcases hown.2 with ⟨rfl,rfl⟩ | ⟨g,cap,cur,rfl,_,_,hnc,_⟩
  ·simp [Builtin.append_,run_underlying ht,sizeOf,typeInfo,hi,Builtin.lenOf,Builtin.firstCells]
  ·simp [Builtin.append_,run_underlying ht,sizeOf,typeInfo,hi,Builtin.lenOf,Builtin.firstCells,hnc,storeCells]
 | some ad =>
  have hcells:∀ (j:Nat) u,news[j]?=some u→w.cell? (ad.add j)=some u:=by
   intro j u hu;rcases Nat.eq_zero_or_pos m with h0 | h0
   ·subst h0;have hn:news=[]:=List.eq_nil_of_length_eq_zero (by simpa using hl);subst hn;simp at hu
   ·obtain ⟨b,q,h,hcc⟩:=hs h0;injection h with h
    subst h;rw [addr_add];exact hcc j u hu
  obtain ⟨v',w',hrun,h2,h3,_,h5⟩:=run_append_own_at (P:=P) w base t ty e i z size bytes ht hi hz hsize hby hzs hsz v n xs hown ad m c news hl hcells h1 a2 hbytes hbase;exact ⟨v',w',hrun,h2,h3,h5⟩
theorem row_one {w:World} {base:Nat} {e:TypeId} {k n:Nat} {v:Value} {us:List Value} (h:w.ownsRow base e k v n us):v.oneCell'=true:=by
 rcases h.2 with ⟨rfl,_⟩ | ⟨_,_,_,rfl,_⟩<;>rfl
theorem ztn {w:World} (t ty e:TypeId) (i:TypeInfo) (z:Value) (size bytes:Nat) (ht:P.underlying t=some (.slice e)) (hi:P.info? e=some i) (hz:i.zero=some z)
  (hsize:i.size=size) (hby:i.bytes=bytes) (hzs:z.cells.size=size) (A:Option Addr) (n:Nat) (olds:List Value) (hlo:olds.length=n*size)
  (ho:0<n→∃ b q,A=some ⟨b,q,none⟩∧∀ (j:Nat) u,olds[j]?=some u→w.cell? ⟨b,q+j,none⟩=some u)
  (A':Option Addr) (m c:Nat) (news:List Value) (hl:news.length=m*size) (hs:0<m→∃ b q,A'=some ⟨b,q,none⟩∧∀ (j:Nat) u,news[j]?=some u→w.cell? ⟨b,q+j,none⟩=some u) (hm:0<m)
  (a2:n+m≤maxLen) (hbytes:(n+m)*bytes≤140737488355328) :
  ∃ v' w',(Builtin.append_ #[t,t] ty #[.slice A n n,.slice A' m c]).run P w=.ok v' w'∧w'.ownsRow 0 e size v' (n+m) (olds++news)∧w.grownBy w' none∧v'.ownBlock=some w.heap.size:=by
 subst hsize;subst hby;obtain ⟨b',q',rfl,hnc⟩:=hs hm;have hnews:∀ j u,news[j]?=some u→w.cell? ((⟨b',q',none⟩:Addr).add j)=some u:=fun j u h=>by rw [addr_add];exact hnc j u h
 have hsmall:n+m≤9223372036854775807:=by simp only [maxLen] at a2;omega
 have hlen:(olds++news).length=(n+m)*i.size:=by rw [zkJ,hlo,hl,Nat.add_mul]
 have hge:=grownCap_ge w (n+m) n e;have hcm:grownCap w (n+m) n e≤maxLen:=grownCap_le_maxLen w (n+m) n e a2;cases A with
 | none =>
  have hn:n=0:=by
   rcases Nat.eq_zero_or_pos n with h0 | h0
   ·exact h0
   ·obtain ⟨_,_,h,_⟩:=ho h0;cases h
  subst hn;have hx:olds=[]:=List.eq_nil_of_length_eq_zero (by simpa using hlo);subst hx;have hr:=run_append_nil (P:=P) w t ty e i z ht hi hz ⟨b',q',none⟩ m c news hl hnews hm (by omega) (by simp only [Nat.zero_add] at hbytes;omega);simp only [Nat.zero_add,List.nil_append] at hlen hge hcm ⊢;refine ⟨_,_,hr,⟨hlen,.inr ⟨w.heap.size,_,_,rfl,Nat.zero_le _,heap_alloc_new w.drew _,hge,hcm,?_,?_⟩⟩,⟨rfl,rfl,rfl,by simp,fun k hk _=>heap_alloc_old w.drew _ hk⟩,rfl⟩
  ·simp only [Array.size_append,List.size_toArray,size_zeroCells,hzs,hl,← Nat.add_mul];congr 1;omega
  ·simp only [Array.toList_append];rw [← hlen];exact List.take_left
 | some b0 =>
  have holds:∀ j u,olds[j]?=some u→w.cell? (b0.add j)=some u:=fun j u h=>by
   rcases Nat.eq_zero_or_pos n with h0 | h0
   ·subst h0;have hx:olds=[]:=List.eq_nil_of_length_eq_zero (by simpa using hlo);subst hx;simp at h
   ·obtain ⟨b,q,e,h2⟩:=ho h0;injection e with e
    subst e;rw [addr_add];exact h2 j u h
  have hr:=run_append_grow (P:=P) w t ty e i z ht hi hz b0 n n olds hlo holds ⟨b',q',none⟩ m c news hl hnews (by omega) (by omega) (growslice_fits (by omega) hbytes);refine ⟨_,_,hr,⟨hlen,.inr ⟨w.heap.size,_,_,rfl,Nat.zero_le _,heap_alloc_new w.drew _,hge,hcm,?_,?_⟩⟩,⟨rfl,rfl,rfl,by simp,fun k hk _=>heap_alloc_old w.drew _ hk⟩,rfl⟩
  ·simp only [Array.size_append,List.size_toArray,size_zeroCells,hzs,hlo,hl,← Nat.add_mul];congr 1;omega
  ·simp only [Array.toList_append,List.append_assoc];rw [← List.append_assoc,← hlen];exact List.take_left
theorem SatR.rowed {a:Act} {w w':World} {ρ:Ly} (h:SatR B σ a w ρ) {used:Option Nat} {d k:Nat} {e:TypeId} {es new:List (List IV)} {v v':Value} {us news:List Value} (hu:∀ q,zba v=some q→∃ b,used=some b∧Owns σ ρ b q)
  (hk0:0<k) (hes:∀ x∈es,x.length=k) (hnew:∀ x∈new,x.length=k) (hlim:es.length+new.length≤17592186044416) (hown0:w.ownsRow 0 e k v es.length us)
  (hown:w'.ownsRow 0 e k v' (es.length+new.length) (us++news)) (hg:w.grownBy w' v.ownBlock) (hlie:v'.ownBlock=v.ownBlock∨v'.ownBlock=some w.heap.size)
  (hl:us.length=es.flatten.length) (hl2:news.length=new.flatten.length) (h1:∀ u∈us,u.oneCell'=true) (h2:∀ u∈news,u.oneCell'=true)
  (hr:∀ (i:Nat) u x,us[i]?=some u→es.flatten[i]?=some x→RepI w (Imm B σ ρ w) u x) (hr2:∀ (i:Nat) u x,news[i]?=some u→new.flatten[i]?=some x→RepI w (Imm B σ ρ w) u x) :
  SatR B (ze4 σ used d (.row e k (es++new)) []) a w' (setρ ρ d v'):=by
 have m:zux σ w w' ρ used v' v.ownBlock:=by
  refine ⟨hg,fun b hb=>?_,fun b hb=>?_⟩
  ·rw [zhh hown0] at hb;exact hu b hb
  ·rw [← zhh hown] at hb;rcases hlie with e1 | e1
   ·exact .inl (by rw [← e1];exact hb)
   ·rw [e1] at hb;injection hb with hb
    exact .inr (by omega)
 refine h.new m rfl fun hI _=>⟨us++news,hk0,fun x hx=>?_,by simpa using hlim,?_,by simp [hl,hl2],fun u hu'=>?_,fun i u x hu' hx=>?_⟩
 ·rcases List.mem_append.1 hx with hx | hx
  ·exact hes x hx
  ·exact hnew x hx
 ·simpa [setρ] using hown
 ·rcases List.mem_append.1 hu' with hu' | hu'
  ·exact h1 u hu'
  ·exact h2 u hu'
 ·rw [List.flatten_append,List.getElem?_append] at hx;rw [List.getElem?_append,hl] at hu';split at hu'
  ·rename_i hlt;rw [if_pos hlt] at hx;exact hI _ _ (hr i u x hu' hx)
  ·rename_i hlt;rw [if_neg hlt] at hx;exact hI _ _ (hr2 _ u x hu' hx)
theorem zlx {b k:Nat} {t:TypeId} {es:List (List IV)} (hk:σ.kd b=.row t k es):live σ b:=by unfold live;rw [hk];exact fun z=>by cases z
theorem que_append {w:World} {S:Nat→Prop} {v:Value} (t ty e:TypeId) {k:Nat} {es new:List (List IV)} (i:TypeInfo) (z:Value) (bytes:Nat) (ht:P.underlying t=some (.slice e)) (hi:P.info? e=some i) (hz:i.zero=some z)
  (hsize:i.size=k) (hby:i.bytes=bytes) (hzs:z.cells.size=k) (hQ:zmb w S v e k es) (hnew:∀ x∈new,x.length=k) (hm0:0<new.length)
  (A:Option Addr) (c:Nat) (news:List Value) (hl:news.length=new.flatten.length) (hs:0<new.length→∃ b q,A=some ⟨b,q,none⟩∧∀ (j:Nat) u,news[j]?=some u→w.cell? ⟨b,q+j,none⟩=some u) (h1:∀ u∈news,u.oneCell'=true)
  (hr:∀ (i:Nat) u x,news[i]?=some u→new.flatten[i]?=some x→RepI w S u x)
  (a2:es.length+new.length≤maxLen) (hlim:es.length+new.length≤17592186044416) (hbytes:(es.length+new.length)*bytes≤140737488355328) :
  ∃ v' w',(Builtin.append_ #[t,t] ty #[v,.slice A new.length c]).run P w=.ok v' w'∧w.grownBy w' (zba v)∧(∀ q,zba v'=some q→zba v=some q∨w.heap.size≤q)∧v'.oneCell'=true ∧
   ∀ S',(∀ u x,RepI w S u x→RepI w' S' u x)→zmb w' S' v' e k (es++new):=by
 obtain ⟨us,k0,hk,hlen,hul,hu1,hur,hv⟩:=hQ;have hfl:=zbb hk;have hfn:=zbb hnew;have hnl:news.length=new.length*k:=by rw [hl,hfn]
 have husl:us.length=es.length*k:=by rw [hul,hfl]
 obtain ⟨b',q',hA,hcells⟩:=hs hm0
 have grown:∀ v' w',w'.ownsRow 0 e k v' (es.length+new.length) (us++news)→∀ S',(∀ u x,RepI w S u x→RepI w' S' u x)→zmb w' S' v' e k (es++new):=fun v' w' hown S' hI=>by
  refine ziu.que ⟨us++news,k0,fun x hx=>(List.mem_append.1 hx).elim (hk x) (hnew x),by simpa using hlim,by simpa using hown,by simp [hul,hl],fun u hu=>(List.mem_append.1 hu).elim (hu1 u) (h1 u),fun i u x hu hx=>hI _ _ ?_⟩;rw [List.flatten_append,List.getElem?_append] at hx;rw [List.getElem?_append,hul] at hu;split at hu
  ·rename_i hlt;rw [if_pos hlt] at hx;exact hur i u x hu hx
  ·rename_i hlt;rw [if_neg hlt] at hx;exact hr _ u x hu hx
 rcases hv with ⟨rfl,rfl⟩ | ⟨q,off,cap,cur,rfl,e2,e3,e4,e5,e6⟩
 ·obtain rfl:us=[]:=List.eq_nil_of_length_eq_zero (by simpa using husl);obtain ⟨v',w',hrun,hown,hgrow,hlie⟩:=zfy (P:=P) (w:=w) 0 t ty e i z k bytes ht hi hz hsize hby hzs k0 (.slice none 0 0) 0 [] (World.ownsRow_nil _ _ _ _) A new.length c news hnl hs h1 (by simpa using a2) (by simpa using hbytes) (Nat.zero_le _);refine ⟨v',w',hrun,hgrow,fun q hq=>?_,row_one hown,grown v' w' (by simpa using hown)⟩;rw [← zhh hown] at hq;rcases hlie with g | g
  ·rw [g] at hq;cases hq
  ·rw [g] at hq;injection hq with hq
   exact .inr (by omega)
 ·subst hA;have hnews:∀ j u,news[j]?=some u→w.cell? ((⟨b',q',none⟩:Addr).add j)=some u:=fun j u h=>by rw [addr_add];exact hcells j u h
  by_cases hroom:es.length+new.length≤cap
  ·have hfc:=run_firstCells_some (P:=P) w i.size new.length ⟨b',q',none⟩ new.length c news (by rw [hsize];exact hnl) hnews;have hmul:(es.length+new.length)*k≤cap*k:=Nat.mul_le_mul_right _ hroom;rw [Nat.add_mul] at hmul;have hst:=run_storeCells_at (P:=P) q (off+es.length*k) e news 0 cur w e2 (by omega) h1;simp only [Nat.add_zero] at hst;subst hsize
   refine ⟨.slice (some ⟨q,off,none⟩) (es.length+new.length) cap,w.setRow q (cur.toList.take (off+es.length*i.size)++news++cur.toList.drop (off+es.length*i.size+news.length)).toArray,by
    simp [Builtin.append_,run_underlying ht,sizeOf,typeInfo,hi,Builtin.lenOf,hroom,hfc,Addr.add_lit,hst],⟨rfl,rfl,rfl,by simp,fun k hk hne=>setRow_other w q k _ (fun e=>hne (by rw [e];rfl))⟩,fun q' hq=>.inl hq,rfl,fun S' hI=>⟨us++news,k0,fun x hx=>(List.mem_append.1 hx).elim (hk x) (hnew x),by simpa using hlim,by simp [hul,hl],fun u hu=>(List.mem_append.1 hu).elim (hu1 u) (h1 u),fun j u x hu hx=>hI _ _ ?_,.inr ⟨q,off,cap,_,by rw [zkJ],setRow_heap w q cur _ e _ e2,by rw [zkJ];exact hroom,e4,?_,fun j u hu=>?_⟩⟩⟩
   ·rw [List.flatten_append,List.getElem?_append] at hx;rw [List.getElem?_append,hul] at hu;split at hu
    ·rename_i hlt;rw [if_pos hlt] at hx;exact hur j u x hu hx
    ·rename_i hlt;rw [if_neg hlt] at hx;exact hr _ u x hu hx
   ·simp only [List.size_toArray,zkJ,List.length_take,List.length_drop,Array.length_toList];omega
   ·have hcl:cur.toList.length=cur.size:=rfl;rw [List.getElem?_toArray,List.append_assoc,List.getElem?_append,List.length_take,hcl];rw [List.getElem?_append] at hu;split at hu
    ·rename_i hlt;rw [if_pos (by omega),List.getElem?_take,if_pos (by omega),Array.getElem?_toList];exact e6 j u hu
    ·rename_i hlt;have hjl:j-us.length<news.length:=(zkI.1 hu).1;rw [if_neg (by omega),List.getElem?_append,if_pos (by omega)];rw [← hu];congr 1;omega
  ·have holds:∀ j u,us[j]?=some u→w.cell? ((⟨q,off,none⟩:Addr).add j)=some u:=fun j u h=>by
    rw [addr_add];unfold World.cell?;simp only [e2];simpa using e6 j u h
   obtain ⟨v',w',hrun,hown,hgrow⟩:=run_append_arg_grows (P:=P) w t ty e i z k bytes ht hi hz hsize hby hzs k0 ⟨q,off,none⟩ es.length cap us husl holds ⟨b',q',none⟩ new.length c news hnl hnews (by omega) a2 hbytes
   have hown0:w'.ownsRow 0 e k v' (es.length+new.length) (us++news):=by
    refine ⟨hown.1,?_⟩;rcases hown.2 with g | ⟨g,cap',cur',f1,f2,f3⟩
    ·exact .inl g
    ·exact .inr ⟨g,cap',cur',f1,Nat.zero_le _,f3⟩
   refine ⟨v',w',hrun,⟨hgrow.os,hgrow.tape,hgrow.output,hgrow.size,fun k hk _=>hgrow.block k hk (by simp)⟩,fun p hp=>?_,row_one hown0,grown v' w' hown0⟩;rcases hown.2 with ⟨g,_⟩ | ⟨g,cap',cur',f1,f2,f3⟩
   ·rw [g] at hp;cases hp
   ·rw [f1] at hp;simp only [zba,zkF] at hp;exact .inr (by omega)
theorem SatR.qued {a:Act} {w w':World} {ρ:Ly} (h:SatR B σ a w ρ) {used row:Option Nat} {d k:Nat} {e:TypeId} {es:List (List IV)} {v':Value} (hu:∀ q,row=some q→∃ b,used=some b∧Owns σ ρ b q) (hg:w.grownBy w' row)
  (hlie:∀ q,zba v'=some q→row=some q∨w.heap.size≤q) (hQ:∀ S',(∀ u x,RepI w (Imm B σ ρ w) u x→RepI w' S' u x)→zmb w' S' v' e k es):SatR B (ze4 σ used d (.que e k es) []) a w' (setρ ρ d v') :=
 h.new ⟨hg,hu,hlie⟩ rfl fun hI _=>by
  show zmb w' _ (setρ ρ d v' d) e k es;rw [show setρ ρ d v' d=v' by simp [setρ]];exact hQ _ hI
theorem live_que {b k:Nat} {t:TypeId} {es:List (List IV)} (hk:σ.kd b=.que t k es):live σ b:=by unfold live;rw [hk];exact fun z=>by cases z
theorem aAppend_ok {c:Call} {t:TypeId} {x y:Operand} (hop:o.op=.call c) (hc:c.callee=.builtin .append) (hargs:c.args=#[x,y]) (hts:c.argTypes=#[t,t]) (hd:zce B.n o=true) (h:aAppend P o σ K t x y):∃ fx,K fx∧Eff P B o fx.rd σ fx.wr:=by
 unfold aAppend at h;split at h
 ·rename_i d et hdst het;have hund:=zd1 het;split at h
  ·rename_i k by_ new hk hby hy
   have exec:∀ (a:Act) w v' w',(Builtin.append_ #[t,t] o.type #[a.eval x,a.eval y]).run P w=.ok v' w'→(execOp a.eval o).run P w=.ok (.value v') w':=fun a w v' w' hv=>by
    simp [execOp,hop,resolve,hc,hargs,hts,invoke,builtin,hv]
   split at h
   ·rename_i hx;obtain ⟨hchk,h⟩:=h.ok;rw [Bool.and_eq_true] at hchk;have hk0:=zee hchk.1;obtain ⟨i,z,hi,hz,hsize,hbytes,hzs⟩:=zi1 hchk.2 hk hby;obtain ⟨⟨hnew,hcap⟩,h⟩:=h.out;have h:=h.out;refine ⟨_,h,fun σ' hag a w ⟨ρ,hs⟩ K' Q hK=>?_⟩;have h1:=zay hs x;have h2:=zay hs y;rw [zao (zaw (zaw hag)),hx] at h1;have h1:=h1.im_inv
    have hy':fz σ' (evA σ' y)=some (.sl new,[]):=by
     rw [zao (za0 (zaw hag))];exact zmy hy fun l hl=>by simp [frd] at hl
    have h2:=fz_ok hs (bs':=[]) (by simp) h2 hy' (by simp);have hg:=zd2 (za0 hag (.gen d) (by simp));obtain ⟨A,cp,news,hv,hnl,hn1,hnlim,hcells,hrep⟩:=zt6 h2 hnew
    have hxv:a.eval x=.slice none 0 0:=by
     generalize a.eval x=v at h1;cases h1 with
     | val _=>rfl
    have hfl:=zbb hnew;obtain ⟨v',w',hrun,hown,hgrow,hlie⟩:=zfy (P:=P) (w:=w) 0 t o.type et i z k by_ hund hi hz hsize hbytes hzs hk0 (.slice none 0 0) 0 [] (World.ownsRow_nil _ _ _ _) A new.length cp news (by rw [hnl,hfl]) hcells hn1 (by unfold maxLen;unfold za7 at hcap;omega) (by simpa using hcap.1) (Nat.zero_le _);unfold Oper.wp;rw [exec a w v' w' (by rw [hxv,hv];exact hrun),Oper.upon_value,hdst];refine hK _ _ ⟨setρ ρ d v',?_⟩;have hst:=hs.rowed (used:=none) (d:=d) (es:=[]) (us:=[]) (fun q hq=>by cases hq) hk0 (by simp) hnew (by simpa using hcap.2) (World.ownsRow_nil _ _ _ _) (by simpa using hown) hgrow hlie rfl hnl (by simp) hn1 (by simp) hrep;show SatR B (app σ' (zdz σ d (.row et k new)++[(.tmp d,.av (.osl d (σ.gn d+1)))])) _ _ _;have:=zo5 (k:=.row et k new) (cs:=[]) (v:=.osl d (σ.gn d+1)) hg;simp only [zgg,List.append_nil] at this;rw [this,← hg];exact zkq hst (row_one hown) (zc7 hd hdst)
   ·rename_i b g hx;split at h
    ·rename_i et' k' es hkd;obtain ⟨hchk,h⟩:=h.ok;simp only [Bool.and_eq_true] at hchk;have hk0:=zee hchk.1.1.1;have het':et'=et:=by simpa using hchk.1.1.2
     have hkk:k'=k:=by simpa using hchk.1.2
     subst het' hkk;obtain ⟨i,z,hi,hz,hsize,hbytes,hzs⟩:=zi1 hchk.2 hk hby;obtain ⟨⟨hg0,hnew,hcap⟩,h⟩:=h.out;have h:=h.out;refine ⟨_,h,fun σ' hag a w ⟨ρ,hs⟩ K' Q hK=>?_⟩;obtain ⟨ha,hg',hk',hr'⟩:=zdc hag;have h1:=zay hs x;have h2:=zay hs y;rw [zao (zaw ha),hx] at h1
     have hy':fz σ' (evA σ' y)=some (.sl new,[]):=by
      rw [zao (za0 ha)];exact zmy hy fun l hl=>by simp [frd] at hl
     have h2:=fz_ok hs (bs':=[]) (by simp) h2 hy' (by simp);obtain ⟨A,cp,news,hv,hnl,hn1,hnlim,hcells,hrep⟩:=zt6 h2 hnew;have hfl:=zbb hnew;have ho:=hs.obs b;rw [hk'.trans hkd] at ho;obtain ⟨us,_,hes,_,hown0,hul,hu1,hur⟩:=ho
     have hxv:a.eval x=ρ b:=by
      generalize a.eval x=v at h1;cases h1 with
      | osl _ _ _ _ _ hh=>exact hh (hg'.trans hg0)
     obtain ⟨v',w',hrun,hown,hgrow,hlie⟩:=zfy (P:=P) (w:=w) 0 t o.type et' i z k' by_ hund hi hz hsize hbytes hzs hk0 (ρ b) es.length us hown0 A new.length cp news (by rw [hnl,hfl]) hcells hn1 (by unfold maxLen;unfold za7 at hcap;omega) hcap.1 (Nat.zero_le _);unfold Oper.wp;rw [exec a w v' w' (by rw [hxv,hv];exact hrun),Oper.upon_value,hdst];refine hK _ _ ⟨setρ ρ b v',?_⟩;have hst:=hs.rowed (used:=some b) (d:=b) (fun q hq=>⟨b,rfl,.root (zlx (hk'.trans hkd)) hq⟩) hk0 hes hnew hcap.2 hown0 hown hgrow hlie hul hnl hu1 hn1 hur hrep
     have hap:app σ' ((.knd b,.kd .dead)::(zdz σ b (.row et' k' (es++new))++[(.tmp d,.av (.osl b (σ.gn b+1)))]))=app (ze4 σ' (some b) b (.row et' k' (es++new)) []) [(.tmp d,.av (.osl b (σ'.gn b+1)))]:=by
      rw [zbq,zaz];unfold ze4 zdz;rw [hg'];rfl
     show SatR B (app σ' ((.knd b,.kd .dead)::(zdz σ b (.row et' k' (es++new))++[(.tmp d,.av (.osl b (σ.gn b+1)))]))) _ _ _;rw [hap];exact zh8 hst (row_one hown) (zc7 hd hdst)
    ·rename_i et' k' es hkd;obtain ⟨hchk,h⟩:=h.ok;simp only [Bool.and_eq_true] at hchk;have het':et'=et:=by simpa using hchk.1.1.2
     have hkk:k'=k:=by simpa using hchk.1.2
     subst het' hkk;obtain ⟨i,z,hi,hz,hsize,hbytes,hzs⟩:=zi1 hchk.2 hk hby;obtain ⟨⟨hg0,hm0,hnew,hcap⟩,h⟩:=h.out;have h:=h.out;refine ⟨_,h,fun σ' hag a w ⟨ρ,hs⟩ K' Q hK=>?_⟩;obtain ⟨ha,hg',hk',hr'⟩:=zdc hag;have h1:=zay hs x;have h2:=zay hs y;rw [zao (zaw ha),hx] at h1
     have hy':fz σ' (evA σ' y)=some (.sl new,[]):=by
      rw [zao (za0 ha)];exact zmy hy fun l hl=>by simp [frd] at hl
     have h2:=fz_ok hs (bs':=[]) (by simp) h2 hy' (by simp);obtain ⟨A,cp,news,hv,hnl,hn1,hnlim,hcells,hrep⟩:=zt6 h2 hnew;have ho:=hs.obs b;rw [hk'.trans hkd] at ho;have hQ:zmb w (Imm B σ' ρ w) (ρ b) et' k' es:=ho
     have hxv:a.eval x=ρ b:=by
      generalize a.eval x=v at h1;cases h1 with
      | osl _ _ _ _ _ hh=>exact hh (hg'.trans hg0)
     obtain ⟨v',w',hrun,hgrow,hlie,hone,hQ'⟩:=que_append (P:=P) (w:=w) t o.type et' i z by_ hund hi hz hsize hbytes hzs hQ hnew hm0 A cp news hnl hcells hn1 hrep (by unfold maxLen;unfold za7 at hcap;omega) hcap.2 hcap.1;unfold Oper.wp;rw [exec a w v' w' (by rw [hxv,hv];exact hrun),Oper.upon_value,hdst];refine hK _ _ ⟨setρ ρ b v',?_⟩;have hst:=hs.qued (used:=some b) (d:=b) (fun q hq=>⟨b,rfl,.root (live_que (hk'.trans hkd)) hq⟩) hgrow hlie hQ'
     have hap:app σ' ((.knd b,.kd .dead)::(zdz σ b (.que et' k' (es++new))++[(.tmp d,.av (.osl b (σ.gn b+1)))]))=app (ze4 σ' (some b) b (.que et' k' (es++new)) []) [(.tmp d,.av (.osl b (σ'.gn b+1)))]:=by
      rw [zbq,zaz];unfold ze4 zdz;rw [hg'];rfl
     show SatR B (app σ' ((.knd b,.kd .dead)::(zdz σ b (.que et' k' (es++new))++[(.tmp d,.av (.osl b (σ.gn b+1)))]))) _ _ _;rw [hap];exact zh8 hst hone (zc7 hd hdst)
    ·exact h.elim
   ·rename_i es hx;obtain ⟨hchk,h⟩:=h.ok;rw [Bool.and_eq_true] at hchk;have hk0:=zee hchk.1;obtain ⟨i,z,hi,hz,hsize,hbytes,hzs⟩:=zi1 hchk.2 hk hby;obtain ⟨⟨hpos,hes,hnew,hcap⟩,h⟩:=h.out;have h:=h.out;refine ⟨_,h,fun σ' hag a w ⟨ρ,hs⟩ K' Q hK=>?_⟩;have h1:=zay hs x;have h2:=zay hs y;rw [zao (zaw (zaw hag)),hx] at h1
    have hy':fz σ' (evA σ' y)=some (.sl new,[]):=by
     rw [zao (za0 (zaw hag))];exact zmy hy fun l hl=>by simp [frd] at hl
    have h2:=fz_ok hs (bs':=[]) (by simp) h2 hy' (by simp);have hg:=zd2 (za0 hag (.gen d) (by simp));obtain ⟨A,cp,news,hv,hnl,hn1,hnlim,hcells,hrep⟩:=zt6 h2 hnew
    obtain ⟨A0,n0,hxv,h3⟩:∃ A0 n0,a.eval x=.slice A0 n0 n0∧RepI w (Imm B σ' ρ w) (.slice A0 n0 n0) (.sl es):=by
     generalize a.eval x=v at h1;cases h1 with
     | full A0 n0 _ h3=>exact ⟨A0,n0,rfl,h3⟩
    obtain ⟨A1,c1,olds,hv1,hol,ho1,holim,hocells,horep⟩:=zt6 h3 hes;injection hv1 with e1 e2 e3
    subst e1 e2;have hfl:=zbb hnew;have hfo:=zbb hes;obtain ⟨v',w',hrun,hown,hgrow,hlie⟩:=ztn (P:=P) (w:=w) t o.type et i z k by_ hund hi hz hsize hbytes hzs A0 es.length olds (by rw [hol,hfo]) hocells A new.length cp news (by rw [hnl,hfl]) hcells hpos (by unfold maxLen;unfold za7 at hcap;omega) hcap.1;unfold Oper.wp;rw [exec a w v' w' (by rw [hxv,hv];exact hrun),Oper.upon_value,hdst];refine hK _ _ ⟨setρ ρ d v',?_⟩
    have hall:∀ e∈es++new,e.length=k:=fun e he=>by
     rcases List.mem_append.1 he with he | he
     ·exact hes e he
     ·exact hnew e he
    have hst:=hs.rowed (used:=none) (d:=d) (es:=[]) (new:=es++new) (us:=[]) (news:=olds++news) (v:=.slice none 0 0) (fun q hq=>by cases hq) hk0 (by simp) hall (by simpa using hcap.2) (World.ownsRow_nil _ _ _ _) (by simpa using hown) hgrow (.inr hlie) rfl (by simp [hol,hnl]) (by simp) (fun u hu=>by
     rcases List.mem_append.1 hu with hu | hu
     ·exact ho1 u hu
     ·exact hn1 u hu) (by simp) fun j u y hu hy=>by
      rw [List.flatten_append,List.getElem?_append] at hy;rw [List.getElem?_append,hol] at hu;split at hu
      ·rename_i hlt;rw [if_pos hlt] at hy;exact horep j u y hu hy
      ·rename_i hlt;rw [if_neg hlt] at hy;exact hrep _ u y hu hy
    show SatR B (app σ' (zdz σ d (.row et k (es++new))++[(.tmp d,.av (.osl d (σ.gn d+1)))])) _ _ _;have:=zo5 (k:=.row et k (es++new)) (cs:=[]) (v:=.osl d (σ.gn d+1)) hg;simp only [zgg,List.append_nil] at this;rw [this,← hg];exact zkq hst (row_one hown) (zc7 hd hdst)
   ·exact h.elim
  ·exact h.elim
 ·exact h.elim
theorem SatR.turn {a:Act} {w w':World} {ρ:Ly} (h:SatR B σ a w ρ) {b q:Nat} {k':Kd} (hl:live σ b) (hq:zba (ρ b)=some q) (hg:w.grownBy w' (some q)) (hk':∀ c,c∈fpk (ρ b) (ρ.inn b) k'→Owns σ ρ b c)
  (hob:(∀ v x,RepI w (Imm B σ ρ w) v x→RepI w' (Imm B (upd σ (.knd b) (.kd k')) ρ w') v x)→zmc B (upd σ (.knd b) (.kd k')) ρ w' b k'):SatR B (upd σ (.knd b) (.kd k')) a w' ρ:=by
 refine (h.step (fun o=>o=b) (fun t=>zix σ b t _) (fun o hd=>⟨by rw [zev,if_neg hd],zgj σ b o _,fun i=>zj1 σ b o i _,rfl,rfl,rfl⟩) (fun o _=>⟨⟨by rw [zgj];exact Nat.le_refl _,fun _=>rfl⟩,Nat.le_refl _,fun _=>rfl⟩)
  (fun o=>by rw [zj3];exact h.igs o) ⟨hg.os,hg.tape,hg.output,hg.size,fun c hc hn=>hg.block c hc fun e=>?_⟩ (fun o c hd ho=>?_) (fun o p c hd hp _ _=>hd.trans hp.symm) fun hI hA o hd=>?_).1
 ·injection e with e
  subst e;exact hn ⟨b,rfl,.root hl hq⟩
 ·subst hd;unfold Owns at ho;rw [zev,if_pos rfl] at ho;exact .inr ⟨o,rfl,hk' c ho⟩
 ·subst hd;rw [zev,if_pos rfl];exact hob hI
theorem zcu {α:Type} (e:List α) (j:Nat) (xs:List α) (h:j+xs.length≤e.length):(splice e j xs).length=e.length:=by
 unfold splice;simp;omega
theorem zpg {α:Type} {k:Nat}:∀ {es:List (List α)} {i j:Nat} {e xs:List α},(∀ x∈es,x.length=k)→es[i]?=some e→j+xs.length≤k→(es.set i (splice e j xs)).flatten=splice es.flatten (i*k+j) xs
 | [],i,j,e,xs,_,h,_=>by simp at h
 | x::es,0,j,e,xs,hk,h,hj=>by
  simp at h;subst h;have:=hk x (by simp);simp only [List.set_cons_zero,List.flatten_cons,splice,Nat.zero_mul,Nat.zero_add];rw [List.take_append_of_le_length (by omega),List.drop_append_of_le_length (by omega)];simp
 | x::es,i+1,j,e,xs,hk,h,hj=>by
  have hx:=hk x (by simp);have ih:=zpg (es:=es) (i:=i) (j:=j) (e:=e) (xs:=xs) (fun y hy=>hk y (by simp [hy])) (by simpa using h) hj;have e1:(i+1)*k+j=x.length+(i*k+j):=by rw [Nat.add_mul,hx];omega
  rw [List.set_cons_succ,List.flatten_cons,ih,e1,List.flatten_cons];unfold splice;rw [List.take_append,List.take_of_length_le (l:=x) (by omega),show x.length+(i*k+j)-x.length=i*k+j from by omega];have hd0:x.drop (x.length+(i*k+j+xs.length))=[]:=List.drop_eq_nil_of_le (by omega);rw [Nat.add_assoc x.length,List.drop_append,hd0];rw [show x.length+(i*k+j+xs.length)-x.length=i*k+j+xs.length from by omega];simp
theorem zlr {α:Type} (l:List α) (o n:Nat) (vs:List α) (h:o+vs.length≤n) (hl:n≤l.length):(splice l o vs).take n=splice (l.take n) o vs:=by
 unfold splice;rw [List.take_take,Nat.min_eq_left (by omega),List.drop_take,List.take_append,List.take_of_length_le (by simp;omega)];congr 2;simp;omega
theorem zve {α β:Type} {us:List α} {fs:List β} {vs:List α} {xs:List β} {o n:Nat} {u:α} {x:β} (h1:us.length=fs.length) (h2:vs.length=xs.length) (ho:o≤us.length) (hu:(splice us o vs)[n]?=some u) (hx:(splice fs o xs)[n]?=some x) :
  (∃ n':Nat,us[n']?=some u∧fs[n']?=some x)∨∃ n':Nat,vs[n']?=some u∧xs[n']?=some x:=by
 unfold splice at hu hx;rw [List.append_assoc,List.getElem?_append,List.length_take,Nat.min_eq_left (by omega)] at hu hx;by_cases hn:n<o
 ·rw [if_pos hn,List.getElem?_take,if_pos hn] at hu hx;exact .inl ⟨n,hu,hx⟩
 ·rw [if_neg hn,List.getElem?_append] at hu hx;by_cases hv:n-o<vs.length
  ·rw [if_pos hv] at hu;rw [if_pos (by omega)] at hx;exact .inr ⟨_,hu,hx⟩
  ·rw [if_neg hv,List.getElem?_drop] at hu;rw [if_neg (by omega),List.getElem?_drop,← h2] at hx;exact .inl ⟨_,hu,hx⟩
theorem fzS_ok {a:Act} {w:World} {ρ:Ly} (h:SatR B σ a w ρ) {bs':List (Nat×Nat)} (hgk:∀ p∈bs',σ.gn p.1=p.2) {nn:Bool} {us:List Value} {cs:List AV} {xs:List IV} {bs:List (Nat×Nat)} (hr:Reps w (Imm B σ ρ w) ρ σ.gn us cs) (e:fzS σ nn cs=some (xs,bs)) (hs:∀ b∈bs,b∈bs') (hn:nn=true→∀ c g et k ys,cs=[.osl c g]→σ.kd c=.row et k ys→0<ys.length):zj0 w (Imm B (app σ (fwr bs')) ρ w) us xs:=by
 unfold fzS at e;split at e
 ·exact zww h hgk hr e hs
 ·split at e
  ·rename_i ys;simp only [zkF,zkG] at e;obtain ⟨rfl,rfl⟩:=e;refine ⟨hr.1,fun i u x hu hx=>?_⟩
   have:=hr.2 i u (.im x) hu (by
    cases i with
    | zero=>simp at hx;rw [← hx];rfl
    | succ i=>simp at hx)
   exact (h.kills bs').2 _ _ this.im_inv
  ·rename_i c g;split at e
   ·rename_i et k ys hk;have hys:=hn rfl c g et k ys rfl hk;simp only [zkF,zkG] at e;obtain ⟨rfl,rfl⟩:=e;refine ⟨hr.1,fun i u x hu hx=>?_⟩;cases i with
    | succ i=>simp at hx
    | zero =>
     simp at hx;subst hx;have h1:=hr.2 0 u (.osl c g) hu rfl;have h2:=fz1_ok h hgk h1 (x:=.sl ys) (bs:=[(c,g)]) (by simp only [fz1,hk]) hs;cases h2 with
     | emp _ _=>exact absurd hys (by simp)
     | sl b q cp k' m _ us' hm hkk hcap hsm hS hll a2 huc hrr=>exact .nsl _ _ _ _ (.sl b q cp k' m _ us' hm hkk hcap hsm hS hll a2 huc hrr)
   ·cases e
  ·cases e
theorem fzS_same {σ':St} {nn:Bool} {cs:List AV} {xs:List IV} {bs:List (Nat×Nat)} (e:fzS σ nn cs=some (xs,bs)) (h:zcz σ σ' bs):fzS σ' nn cs=some (xs,bs):=by
 unfold fzS at e ⊢;split at e
 ·exact zn1 e h
 ·split at e
  ·exact e
  ·split at e
   ·rename_i et k ys hk;simp only [zkF,zkG] at e;obtain ⟨rfl,rfl⟩:=e;rw [show σ'.kd _=_ from (zcz.head h).2.1.trans hk]
   ·cases e
  ·cases e
theorem nslS_out {nn:Bool} {cs:List AV} {A:Prop} (h:nslS σ nn cs A):A∧(nn=true→∀ c g et k ys,cs=[.osl c g]→σ.kd c=.row et k ys→0<ys.length):=by
 unfold nslS at h;split at h
 ·exact ⟨h,fun h=>by cases h⟩
 ·split at h
  ·split at h
   ·rename_i hk;obtain ⟨h1,h2⟩:=h.out;refine ⟨h2,fun _ c g et k ys e hk'=>?_⟩;injection e with e _
    injection e with e1 e2
    subst e1;rw [hk] at hk';injection hk' with _ _ hk'
    rw [← hk'];exact h1
   ·rename_i hk;refine ⟨h,fun _ c g et k ys e hk'=>?_⟩;injection e with e _
    injection e with e1 e2
    subst e1;exact absurd hk' (hk _ _ _)
  ·rename_i hk;exact ⟨h,fun _ c g et k ys e _=>absurd e (hk c g)⟩
theorem aStoreE_ok {own:List Nat} {t:TypeId} {p x:Operand} {b g k i j:Nat} (hop:o.op=.store t p x) (hd:zce B.n o=true) (hp:evA σ p=.elt b g k i j) (h:aStoreE P own o σ K t p x b g k i j):∃ fx,K fx∧Eff P B o fx.rd σ fx.wr:=by
 unfold aStoreE at h;split at h
 ·rename_i m cs et k' es hm hcs hkd;split at h
  ·rename_i xs bs hxs;obtain ⟨hchk,h⟩:=h.ok;simp only [Bool.and_eq_true] at hchk;obtain ⟨⟨⟨⟨c1,c2⟩,c3⟩,c4⟩,c5⟩:=hchk;have hlen:cs.length=m:=by simpa using c1
   have hm0:=zee c2;have hjm:=zic c3;have hkk:k'=k:=by simpa using c4
   subst hkk
   have hbn:b∉bs.map (·.1):=by
    simp only [ndB,Bool.and_eq_true,Bool.not_eq_true',List.contains_eq_mem,decide_eq_false_iff_not] at c5;exact c5.1.2
   obtain ⟨hgk0,e,he,h⟩:=h.out;obtain ⟨h,hnn⟩:=nslS_out h;have h:=h.out;refine ⟨_,h,fun σ' hag a w ⟨ρ,hs⟩ K' Q hK=>?_⟩;have hap:=zaw (zaw hag);have hax:=za0 (zaw hag);have hag3:zcz σ σ' ((b,g)::bs):=za0 hag
   have hgk:∀ q∈(b,g)::bs,σ'.gn q.1=q.2:=fun q hq=>by
    rw [← hgk0 q hq];exact zd2 (hag3 (.gen q.1) (by unfold frd;exact List.mem_flatMap.2 ⟨q,hq,by simp⟩))
   have hk':σ'.kd b=σ.kd b:=zo0 (hag3 (.knd b) (by unfold frd;simp));have h1:=zay hs p;have h2:=zay hs x;rw [zao hap,hp] at h1;rw [zao hax] at h2;have hr:=zhw hcs h2;have hone:=zh6 hcs h2;have hsm2:zcz σ σ' bs:=fun l hl=>hag3 l (by unfold frd at *;rw [List.flatMap_cons];exact List.mem_append_right _ hl)
   have hfz:=fzS_ok hs (bs':=bs) (fun q hq=>hgk q (by simp [hq])) hr (fzS_same hxs hsm2) (fun _ h=>h) fun hn c g' et' k2 ys hce hk2=>by
    refine hnn hn c g' et' k2 ys hce ?_;rw [← hk2];subst hce;rw [hn] at hxs;simp only [fzS] at hxs;split at hxs
    ·rename_i hk3;simp only [zkF,zkG] at hxs;obtain ⟨_,rfl⟩:=hxs;exact ((zcz.head hsm2).2.1).symm
    ·cases hxs
   obtain ⟨hsk,_⟩:=hs.kills bs;have hkd1:(app σ' (fwr bs)).kd b=.row et k' es:=by rw [zoe,if_neg hbn,hk',hkd]
   have hl:=zlx hkd1;have ho:=hsk.obs b;rw [hkd1] at ho;obtain ⟨us,hk0,hes,hlim,hown,hul,hu1,hur⟩:=ho;have hin:i<es.length:=(zkI.1 he).1;rcases hown.2 with ⟨_,hn⟩ | ⟨q,cap,cur,e1,_,e3,hnc,hcap,hcsz,htk⟩
   ·omega
   have hpv:a.eval p=.pointer (some ⟨q,i*k'+j,none⟩):=by
    generalize a.eval p=v at h1;cases h1 with
    | elt _ _ _ _ _ _ _ _ hh =>
     obtain ⟨b',z,n,c,f1,f2⟩:=hh (hgk (b,g) (by simp));rw [e1] at f1;injection f1 with f1
     injection f1 with f1
     injection f1 with f1 f3
     rw [f2,f1,← f3,Nat.zero_add]
   have hvl:(a.eval x).cells.toList.length=m:=by rw [hr.1,hlen]
   have hxl:xs.length=m:=by rw [← hfz.1,hvl]
   have hmul:(i+1)*k'≤es.length*k':=Nat.mul_le_mul_right _ hin;have hmul2:es.length*k'≤cap*k':=Nat.mul_le_mul_right _ hnc;rw [Nat.add_mul,Nat.one_mul] at hmul;have hrow:=run_storeCells_at (P:=P) q (i*k'+j) et (a.eval x).cells.toList 0 cur w e3 (by omega) hone;simp only [Nat.add_zero] at hrow;have hz:=ziy hm w;have hsz:(a.eval x).cells.size=m:=by rw [← hvl];simp
   have run:(execOp a.eval o).run P w=.ok .skip (w.setRow q (splice cur.toList (i*k'+j) (a.eval x).cells.toList).toArray):=by
    simp only [execOp,hop,Instr.storeAt,hpv,Instr.sureAddr,storeVar,Sem.run_bind,Sem.run_pure,Result.andThen_ok,hz,hsz];rw [if_neg (by simp),hrow];rfl
   unfold Oper.wp;rw [run,Oper.upon_skip];refine hK _ _ ⟨ρ,?_⟩;have husl:us.length=es.length*k':=by rw [hul,zbb hes]
   have hel:e.length=k':=hes e (zkH he)
   have hst:=hsk.turn (w':=w.setRow q (splice cur.toList (i*k'+j) (a.eval x).cells.toList).toArray) (k':=.row et k' (es.set i (splice e j xs))) hl (q:=q) (by rw [e1];rfl)
    ⟨rfl,rfl,rfl,by simp,fun k _ hk=>setRow_other w q k _ (fun e=>hk (by rw [e]))⟩ (fun c hc=>by unfold Owns;rw [hkd1];exact hc) fun hI=>by
     refine ⟨splice us (i*k'+j) (a.eval x).cells.toList,hk0,fun y hy=>?_,by rw [List.length_set];exact hlim,?_,?_,fun u hu=>?_,fun n u y hu hy=>?_⟩
     ·rcases List.mem_or_eq_of_mem_set hy with hy | hy
      ·exact hes y hy
      ·rw [hy,zcu _ _ _ (by omega),hel]
     ·rw [List.length_set];refine ⟨by rw [zcu _ _ _ (by omega),husl],.inr ⟨q,cap,_,e1,Nat.zero_le _,setRow_heap w q cur _ et _ e3,hnc,hcap,?_,?_⟩⟩
      ·rw [List.size_toArray,zcu _ _ _ (by simp;omega)];simpa using hcsz
      ·rw [List.toList_toArray,zlr _ _ _ _ (by omega) (by simp;omega),htk]
     ·rw [zpg hes he (by omega),zcu _ _ _ (by omega),zcu _ _ _ (by omega),hul]
     ·unfold splice at hu;rcases List.mem_append.1 hu with hu | hu
      ·rcases List.mem_append.1 hu with hu | hu
       ·exact hu1 u (List.mem_of_mem_take hu)
       ·exact hone u hu
      ·exact hu1 u (List.mem_of_mem_drop hu)
     ·rw [zpg hes he (by omega)] at hy;rcases zve hul (by rw [hvl,hxl]) (by omega) hu hy with ⟨n',h3,h4⟩ | ⟨n',h3,h4⟩
      ·exact hI _ _ (hur n' u y h3 h4)
      ·exact hI _ _ (hfz.2 n' u y h3 h4)
   rw [zaz,zbq];exact hst.put (zmz hd) (zcv _)
  ·exact h.elim
 ·exact h.elim
end
end
section
def OcOk (w:World) (S:Nat→Prop) (v:Value):Oc→List Nat→Prop
 | .im x,F=>RepI w S v x∧F=[]
 | .ow k,F=>v.oneCell'=true∧∃ inn,zdj w S v inn k∧F=fpk v inn k
def zla (w:World) (S:Nat→Prop):List Value→List Oc→List Nat→Prop
 | [],[],F=>F=[]
 | v::vs,c::cs,F=>∃ F1 F2,OcOk w S v c F1∧zla w S vs cs F2∧F=F1++F2
 | _,_,_=>False
def ArgOk (w:World) (S:Nat→Prop) (v:Value):Arg→List Nat→Prop
 | .im x,F=>RepI w S v x∧F=[]
 | .ow k,F=>OcOk w S v (.ow k) F
 | .box t cs,F=>∃ (q:Nat) (us:List Value) (F':List Nat),v=.pointer (some ⟨q,0,none⟩)∧w.heap[q]?=some (.cells us.toArray t (0,0))∧(∀ u∈us,u.oneCell'=true)∧zla w S us cs F'∧F=q::F'
 | .lent k,F=>OcOk w S v (.ow k) F
def zd6 (w:World) (S:Nat→Prop):List Value→List Arg→List Nat→Prop
 | [],[],F=>F=[]
 | v::vs,x::xs,F=>∃ F1 F2,ArgOk w S v x F1∧zd6 w S vs xs F2∧F=F1++F2
 | _,_,_=>False
def bxVs:List Value→List Arg→List Value
 | v::vs,.box _ _::xs=>v::bxVs vs xs
 | v::vs,.lent _::xs=>v::bxVs vs xs
 | _::vs,.im _::xs=>bxVs vs xs
 | _::vs,.ow _::xs=>bxVs vs xs
 | _,_=>[]
def zv0 (w:World) (S:Nat→Prop) (v:Value) (ps:List Value):Rs→List Nat→Prop
 | .mk tp l ys,F=>∃ (us:List Value) (F1 F2:List Nat),(match tp with | true=>v=.tuple us.toArray | false=>us=[v])∧zla w S us l F1∧zd6 w S ps ys F2∧F=F1++F2
def Sp (P:Program) (g:FuncId) (xs:List Arg) (r:Rs):Prop :=
 (∀ args w,(callFunc g args).run P w=.ok (.enter g args) w) ∧
 ∀ (w:World) (S:Nat→Prop) (vs:List Value) (F:List Nat),(∀ b,S b→b<w.heap.size)→zd6 w S vs xs F→F.Nodup→(∀ b∈F,¬ S b∧b<w.heap.size) →
  Calls P g vs.toArray w fun e w'=>∃ (v:Value) (F':List Nat),e=.returned v∧Belo (fun b=>b∈F) w.heap.size w w' ∧
   zv0 w' (fun b=>(S b∨w.heap.size≤b∨b∈F)∧b<w'.heap.size∧b∉F') v (bxVs vs xs) r F'∧F'.Nodup∧∀ b∈F',(w.heap.size≤b∨b∈F)∧b<w'.heap.size
def RetA (t:TypeId) (v u:Value):Prop:=match t with
 | 0=>v=u
 | _=>∃ us:List Value,u=.tuple us.toArray∧v=.agg us.toArray∧∀ x∈us,x.oneCell'=true
def SpA (P:Program) (g:FuncId) (t:TypeId) (n:Nat) (xs:List Arg) (r:Rs):Prop :=
 (∀ args w,(callFunc g args).run P w=.ok (.enter g args) w) ∧
 ∀ (w:World) (S:Nat→Prop) (us vs:List Value) (F:List Nat),(∀ b,S b→b<w.heap.size)→zd6 w S (us++vs) xs F→us.length=n→(∀ u∈us,u.oneCell'=true)→F.Nodup→(∀ b∈F,¬ S b∧b<w.heap.size) →
  Calls P g (.agg us.toArray::vs).toArray w fun e w'=>∃ (v u:Value) (F':List Nat),e=.returned v∧RetA t v u∧Belo (fun b=>b∈F) w.heap.size w w' ∧
   zv0 w' (fun b=>(S b∨w.heap.size≤b∨b∈F)∧b<w'.heap.size∧b∉F') u (bxVs (us++vs) xs) r F'∧F'.Nodup∧∀ b∈F',(w.heap.size≤b∨b∈F)∧b<w'.heap.size
def SpR (P:Program) (g:FuncId) (xs:List Arg) (r:Rs):Prop :=
 (∀ args w,(callFunc g args).run P w=.ok (.enter g args) w) ∧
 ∀ (w:World) (S:Nat→Prop) (vs:List Value) (F:List Nat),(∀ b,S b→b<w.heap.size)→zd6 w S vs xs F→F.Nodup→(∀ b∈F,¬ S b∧b<w.heap.size) →
  Calls P g vs.toArray w fun e w'=>∃ (v u:Value) (F':List Nat),e=.returned v∧RetA 1 v u∧Belo (fun b=>b∈F) w.heap.size w w' ∧
   zv0 w' (fun b=>(S b∨w.heap.size≤b∨b∈F)∧b<w'.heap.size∧b∉F') u (bxVs vs xs) r F'∧F'.Nodup∧∀ b∈F',(w.heap.size≤b∨b∈F)∧b<w'.heap.size
def SpX (P:Program) (g:FuncId) (xs:List Arg) (r:Rs):Prop:=match xs with
 | .lent .dead::.box t l::ys=>SpA P g t l.length ys r
 | .lent .dead::.ow .dead::ys=>SpR P g ys r
 | _=>Sp P g xs r
def nmX:List Arg→Bool
 | .lent .dead::_=>false
 | _=>true
theorem SpX.sp {P:Program} {g:FuncId} {xs:List Arg} {r:Rs} (hn:nmX xs=true) (h:SpX P g xs r):Sp P g xs r:=by
 unfold SpX at h;split at h
 ·cases hn
 ·cases hn
 ·exact h
theorem OcOk.mono {w:World} {S S':Nat→Prop} {v:Value} (hI:∀ u x,RepI w S u x→RepI w S' u x):∀ {c:Oc} {F:List Nat},OcOk w S v c F→OcOk w S' v c F
 | .im _,_,h=>⟨hI _ _ h.1,h.2⟩
 | .ow _,_,⟨h1,inn,h2,h3⟩=>⟨h1,inn,h2.mono (fun _ _=>rfl) hI,h3⟩
theorem zla.mono {w:World} {S S':Nat→Prop} (hI:∀ u x,RepI w S u x→RepI w S' u x):∀ {vs:List Value} {cs:List Oc} {F:List Nat},zla w S vs cs F→zla w S' vs cs F
 | [],[],_,h=>h
 | _::_,_::_,_,⟨F1,F2,h1,h2,h3⟩=>⟨F1,F2,h1.mono hI,h2.mono hI,h3⟩
 | [],_::_,_,h=>h.elim
 | _::_,[],_,h=>h.elim
theorem ArgOk.mono {w:World} {S S':Nat→Prop} {v:Value} (hI:∀ u x,RepI w S u x→RepI w S' u x):∀ {c:Arg} {F:List Nat},ArgOk w S v c F→ArgOk w S' v c F
 | .im _,_,h=>⟨hI _ _ h.1,h.2⟩
 | .ow k,_,h=>OcOk.mono (c:=.ow k) hI h
 | .box _ _,_,⟨q,us,F',h1,h2,h3,h4,h5⟩=>⟨q,us,F',h1,h2,h3,h4.mono hI,h5⟩
 | .lent k,_,h=>OcOk.mono (c:=.ow k) hI h
theorem zd6.mono {w:World} {S S':Nat→Prop} (hI:∀ u x,RepI w S u x→RepI w S' u x):∀ {vs:List Value} {cs:List Arg} {F:List Nat},zd6 w S vs cs F→zd6 w S' vs cs F
 | [],[],_,h=>h
 | _::_,_::_,_,⟨F1,F2,h1,h2,h3⟩=>⟨F1,F2,h1.mono hI,h2.mono hI,h3⟩
 | [],_::_,_,h=>h.elim
 | _::_,[],_,h=>h.elim
theorem OcOk.flat {w:World} {S S':Nat→Prop} {v:Value}:∀ {c:Oc} {F:List Nat},zwn c→OcOk w S v c F→OcOk w S' v c F
 | .im x,_,hf,h=>by
  rcases hf with ⟨u,rfl⟩ | ⟨cs,rfl,hf⟩
  ·exact ⟨by cases h.1;exact .val _,h.2⟩
  ·obtain ⟨h1,h2⟩:=h;refine ⟨?_,h2⟩;cases h1 with
   | agg us cs hl h3 hr =>
    refine .agg us cs hl h3 fun i u x hu hx=>?_;obtain ⟨y,rfl⟩:=hf x (zkH hx);have h4:=hr i u _ hu hx;cases h4;exact .val _
 | .ow (.row e k es),_,hf,⟨h1,inn,⟨us,h2,h3,h4,h5,h6,h7,h8⟩,h9⟩=>⟨h1,inn,⟨us,h2,h3,h4,h5,h6,h7,fun i u x hu hx=>by
  have a2:=h8 i u x hu hx
  obtain ⟨y,hy,hxy⟩:=List.mem_flatten.1 (zkH hx)
  obtain ⟨z,rfl⟩:=hf y hy x hxy
  cases a2
  exact .val _⟩,h9⟩
 | .ow (.map _),_,_,⟨h1,inn,h2,h3⟩=>⟨h1,inn,h2,h3⟩
 | .ow .dead,_,hf,_=>hf.elim
 | .ow (.box _ _),_,hf,_=>hf.elim
 | .ow (.grid _ _ _ _ _),_,hf,_=>hf.elim
theorem zla.flat {w:World} {S S':Nat→Prop}:∀ {vs:List Value} {cs:List Oc} {F:List Nat},(∀ c∈cs,zwn c)→zla w S vs cs F→zla w S' vs cs F
 | [],[],_,_,h=>h
 | _::_,c::_,_,hf,⟨F1,F2,h1,h2,h3⟩=>⟨F1,F2,h1.flat (hf c (by simp)),h2.flat fun x hx=>hf x (by simp [hx]),h3⟩
 | [],_::_,_,_,h=>h.elim
 | _::_,[],_,_,h=>h.elim
theorem zd6.flat {w:World} {S S':Nat→Prop}:∀ {vs:List Value} {cs:List Arg} {F:List Nat},(∀ c∈cs,flatArg c)→zd6 w S vs cs F→zd6 w S' vs cs F
 | [],[],_,_,h=>h
 | _::_,c::_,_,hf,⟨F1,F2,h1,h2,h3⟩=>⟨F1,F2,by
  have hc:=hf c (by simp)
  cases c with
  | im x=>exact hc.elim
  | ow k=>exact hc.elim
  | box t cs =>
   obtain ⟨q,us,F',a1,a2,a3,a4,a5⟩:=h1
   exact ⟨q,us,F',a1,a2,a3,a4.flat hc,a5⟩
  | lent k=>exact OcOk.flat (c:=.ow k) hc h1,h2.flat fun x hx=>hf x (by simp [hx]),h3⟩
 | [],_::_,_,_,h=>h.elim
 | _::_,[],_,_,h=>h.elim
section
variable {P:Program} {B:Base} {o:Oper} {σ:St} {K:Fx→Prop}
theorem opdL_mem {l:List Operand} {x:Operand} (h:x∈l):∀ y∈opd x,y∈opdL l:=fun y hy=>List.mem_flatMap.2 ⟨x,h,hy⟩
theorem evL_ok {σ':St} {a:Act} {w:World} {ρ:Ly} (h:SatR B σ' a w ρ) {l:List Operand} (hag:∀ y∈opdL l,σ' y=σ y):Reps w (Imm B σ' ρ w) ρ σ'.gn (l.map a.eval) (l.map (evA σ)):=by
 refine ⟨by simp,fun i u x hu hx=>?_⟩;simp only [List.getElem?_map] at hu hx;cases hc:l[i]? with
 | none=>rw [hc] at hu;cases hu
 | some c =>
  rw [hc] at hu hx;simp only [Option.map_some,zkF] at hu hx;rw [← hu,← hx,← zao (σ':=σ') fun y hy=>hag y (opdL_mem (zkH hc) y hy)];exact zay h c
theorem Reps.app {w:World} {S:Nat→Prop} {ρ:Ly} {γ:Nat→Nat} {us vs:List Value} {cs ds:List AV} (h:Reps w S ρ γ us cs) (k:Reps w S ρ γ vs ds):Reps w S ρ γ (us++vs) (cs++ds):=by
 refine ⟨by simp [h.1,k.1],fun i u x hu hx=>?_⟩;rw [List.getElem?_append] at hu hx;rw [h.1] at hu;split at hu
 ·rename_i hlt;rw [if_pos hlt] at hx;exact h.2 i u x hu hx
 ·rename_i hlt;rw [if_neg hlt] at hx;exact k.2 _ u x hu hx
theorem zka:∀ {l bs:List Nat},ndB l bs=true→l.Nodup∧∀ a∈l,a∉bs
 | [],bs,_=>⟨List.nodup_nil,by simp⟩
 | a::l,bs,h=>by
  simp only [ndB,Bool.and_eq_true,Bool.not_eq_true',List.contains_eq_mem,decide_eq_false_iff_not] at h;obtain ⟨h1,h2⟩:=zka h.2;refine ⟨List.nodup_cons.2 ⟨h.1.1,h1⟩,fun b hb=>?_⟩;rcases List.mem_cons.1 hb with rfl | hb
  ·exact h.1.2
  ·exact h2 b hb
theorem fwr_ce (bs:List (Nat×Nat)) (o i:Nat):∀ (σ:St),(app σ (fwr bs)).ce o i=σ.ce o i:=by
 induction bs with
 | nil=>intro σ;rfl
 | cons b bs ih=>intro σ;show (app (upd σ (.knd b.1) (.kd .dead)) (fwr bs)).ce o i=_;rw [ih,zj1]
theorem zdj.one {w:World} {S:Nat→Prop} {v:Value} {inn:List Value}:∀ {k:Kd},zdj w S v inn k→v.oneCell'=true
 | .dead,h=>h.elim
 | .box _ _,h=>h.elim
 | .row _ _ _,⟨us,_,_,_,h,_⟩=>row_one h
 | .grid _ _ _ _ _,⟨_,_,us,_,h,_⟩=>row_one h
 | .map _,⟨b,_,_,h,_⟩=>by rw [h];rfl
 | .bag _ _ _ _ _,h=>h.elim
 | .mapI _ _,h=>h.elim
 | .que _ _ _,⟨us,_,_,_,_,_,_,h⟩=>by rcases h with ⟨rfl,_⟩ | ⟨_,_,_,_,rfl,_⟩<;>rfl
theorem zkz {p:Nat} {k:Kd} (h:objG σ p=some k):σ.kd p=k∧k≠.dead∧∀ t m,k≠.box t m:=by
 unfold objG at h;split at h
 ·cases h
 ·cases h
 ·cases h
 ·cases h
 ·cases h
 ·rename_i h1 h2 h3 h4 h5;injection h with h
  subst h;exact ⟨rfl,h1,h2⟩
theorem zsx {a:Act} {w:World} {ρ:Ly} (h:SatR B σ a w ρ) {p:Nat} {k:Kd} (hk:objG σ p=some k):zdj w (Imm B σ ρ w) (ρ p) (ρ.inn p) k:=by
 obtain ⟨h1,h2,h3⟩:=zkz hk;have ho:=h.obs p;rw [h1] at ho;unfold objG at hk;rw [h1] at hk;cases k with
 | dead=>exact absurd rfl h2
 | box t m=>exact absurd rfl (h3 t m)
 | row e m es=>exact ho
 | grid e e' m gs q=>exact ho
 | map l=>exact ho
 | bag t e m l q=>cases hk
 | mapI l c=>cases hk
 | que e m es=>cases hk
def zef (σ:St) (ρ:Ly) (gs:List (Nat×Nat)):List Nat:=gs.flatMap fun p=>fpk (ρ p.1) (ρ.inn p.1) (σ.kd p.1)
theorem zfm {ρ:Ly} {gs:List (Nat×Nat)} {b:Nat}:b∈zef σ ρ gs↔∃ p∈gs,Owns σ ρ p.1 b:=List.mem_flatMap
theorem fpk_nodup {a:Act} {w:World} {ρ:Ly} (h:SatR B σ a w ρ) (o:Nat):(fpk (ρ o) (ρ.inn o) (σ.kd o)).Nodup:=by
 have ho:=h.obs o;cases hk:σ.kd o with
 | dead=>exact List.nodup_nil
 | grid e e' m gs q=>rw [hk] at ho;exact ho.1
 | box t m=>unfold fpk;cases zba (ρ o)<;>simp
 | row e m es=>unfold fpk;cases zba (ρ o)<;>simp
 | map l=>unfold fpk;cases zba (ρ o)<;>simp
 | bag t e m l q=>rw [hk] at ho;exact ho.1.2.1
 | mapI l c =>
  rw [hk] at ho;obtain ⟨b,r,_,_,_,_,_,_,h1,h2,h3,_⟩:=ho;unfold fpk fpv;rw [h1,h2];simp [zba,Ne.symm h3]
 | que e m es=>unfold fpk;cases zba (ρ o)<;>simp
theorem zjv {a:Act} {w:World} {ρ:Ly} (h:SatR B σ a w ρ):∀ {gs:List (Nat×Nat)},(gs.map (·.1)).Nodup→(zef σ ρ gs).Nodup
 | [],_=>List.nodup_nil
 | p::gs,hn=>by
  rw [List.map_cons,List.nodup_cons] at hn;unfold zef;rw [List.flatMap_cons,List.nodup_append];refine ⟨fpk_nodup h p.1,zjv h hn.2,fun x hx y hy e=>?_⟩;subst e;obtain ⟨q,hq,hb⟩:=zfm.1 (show x∈zef σ ρ gs from hy);have:=h.dis p.1 q.1 x hx hb;exact hn.1 (List.mem_map.2 ⟨q,hq,this.symm⟩)
theorem zo6 {x:IV} {e k:Nat} {q:Kd} (h:nilRow x e k=some q):x=.val (.slice none 0 0)∧∃ k',q=.row e (k'+1) []:=by
 unfold nilRow at h;split at h
 ·split at h
  ·cases h
  ·rename_i k';injection h with h
   exact ⟨rfl,k',h.symm⟩
 ·cases h
theorem nil_oc (w:World) (S:Nat→Prop) (e k:Nat):OcOk w S (.slice none 0 0) (.ow (.row e (k+1) [])) [] :=
 ⟨rfl,[],⟨[],by omega,by simp,by simp,World.ownsRow_nil _ _ _ _,rfl,by simp,by simp⟩,rfl⟩
theorem cellG0_ok {a:Act} {w:World} {ρ:Ly} (h:SatR B σ a w ρ) {S:Nat→Prop} (hI:∀ u x,RepI w (Imm B σ ρ w) u x→RepI w S u x) {own:List Nat} {d i j:Nat} {u:Value} {c:AV} {x:Oc} {gs:List (Nat×Nat)}
  (hu:RepA w (Imm B σ ρ w) ρ σ.gn u c) (e:zv7 σ own d i j c=some (x,gs)) (hg:∀ p∈gs,σ.gn p.1=p.2):OcOk w S u x (zef σ ρ gs):=by
 unfold zv7 at e;split at e
 ·rename_i y;have hu:=hu.im_inv;split at e
  ·split at e
   ·rename_i q hq;injection e with e
    injection e with e1 e2
    subst e1 e2;obtain ⟨rfl,k',rfl⟩:=zo6 hq;cases hu;exact nil_oc _ _ _ _
   ·cases e
  ·injection e with e
   injection e with e1 e2
   subst e1 e2;exact ⟨hI _ _ (zmi hu),rfl⟩
 ·rename_i p g;split at e
  ·rename_i k hk;injection e with e
   injection e with e1 e2
   subst e1 e2;have hg:=hg (p,g) (by simp)
   have hv:u=ρ p:=by
    cases hu with
    | osl _ _ _ _ _ hh=>exact hh hg
   have hh:=zsx h hk;subst hv;refine ⟨hh.one,ρ.inn p,hh.mono (fun _ _=>rfl) hI,?_⟩;unfold zef;rw [List.flatMap_cons,List.flatMap_nil,List.append_nil,(zkz hk).1]
  ·cases e
 ·cases e
theorem cellG_ok {a:Act} {w:World} {ρ:Ly} (h:SatR B σ a w ρ) {S:Nat→Prop} (hI:∀ u x,RepI w (Imm B σ ρ w) u x→RepI w S u x) {own:List Nat} {d i j:Nat} {u:Value} {c:AV} {x:Oc} {gs:List (Nat×Nat)}
  (hu:RepA w (Imm B σ ρ w) ρ σ.gn u c) (e:cellG σ own d i j c=some (x,gs)) (hg:∀ p∈gs,σ.gn p.1=p.2):OcOk w S u x (zef σ ρ gs):=by
 unfold cellG at e;split at e
 ·injection e with e
  injection e with e1 e2
  subst e1 e2;exact ⟨.any _,rfl⟩
 ·exact cellG0_ok h hI hu e hg
theorem zfx (ρ:Ly) (a b:List (Nat×Nat)):zef σ ρ (a++b)=zef σ ρ a++zef σ ρ b:=List.flatMap_append
theorem cellsG_ok {a:Act} {w:World} {ρ:Ly} (h:SatR B σ a w ρ) {S:Nat→Prop} (hI:∀ u x,RepI w (Imm B σ ρ w) u x→RepI w S u x) {own:List Nat} {d i:Nat}:∀ {us:List Value} {cs:List AV} {j:Nat} {xs:List Oc} {gs:List (Nat×Nat)},
  Reps w (Imm B σ ρ w) ρ σ.gn us cs→zrt σ own d i j cs=some (xs,gs)→(∀ p∈gs,σ.gn p.1=p.2)→zla w S us xs (zef σ ρ gs)
 | [],[],j,xs,gs,_,e,_=>by
  simp only [zrt,zkF,zkG] at e;rw [← e.1,← e.2];exact rfl
 | [],c::cs,_,_,_,hr,_,_=>by have:=hr.1;simp at this
 | u::us,[],_,_,_,hr,_,_=>by have:=hr.1;simp at this
 | u::us,c::cs,j,xs,gs,hr,e,hg=>by
  simp only [zrt] at e;split at e
  ·rename_i x g1 xs1 gs1 h1 h2;simp only [zkF,zkG] at e;obtain ⟨rfl,rfl⟩:=e
   exact ⟨_,_,cellG_ok h hI (hr.2 0 u c rfl rfl) h1 fun p hp=>hg p (List.mem_append_left _ hp),
    cellsG_ok h hI ⟨by simpa using hr.1,fun i u x hu hx=>hr.2 (i+1) u x (by simpa using hu) (by simpa using hx)⟩ h2 fun p hp=>hg p (List.mem_append_right _ hp),zfx _ _ _⟩
  ·cases e
theorem argG_ok {a:Act} {w:World} {ρ:Ly} (h:SatR B σ a w ρ) {own:List Nat} {d i:Nat} {bs0:List (Nat×Nat)} (hgk:∀ p∈bs0,σ.gn p.1=p.2) {u:Value} {c:AV} {x:Arg} {bs gs:List (Nat×Nat)}
  (hu:RepA w (Imm B σ ρ w) ρ σ.gn u c) (e:argG σ own d i c=some (x,bs,gs)) (hb:∀ p∈bs,p∈bs0) (hg:∀ p∈gs,σ.gn p.1=p.2):ArgOk w (Imm B (app σ (fwr bs0)) ρ w) u x (zef σ ρ gs):=by
 have hI:=(h.kills bs0).2;unfold argG at e;split at e
 ·split at e
  ·rename_i b g;split at e
   ·rename_i k hk;simp only [zkF,zkG] at e;obtain ⟨rfl,rfl,rfl⟩:=e;have hgb:=hg (b,g) (by simp)
    have hv:u=ρ b:=by
     cases hu with
     | osl _ _ _ _ _ hh=>exact hh hgb
    have hh:=zsx h hk;subst hv
    have fin:OcOk w (Imm B (app σ (fwr bs0)) ρ w) (ρ b) (.ow k) (zef σ ρ [(b,g)]):=by
     refine ⟨hh.one,ρ.inn b,hh.mono (fun _ _=>rfl) hI,?_⟩;unfold zef;rw [List.flatMap_cons,List.flatMap_nil,List.append_nil,(zkz hk).1]
    unfold lentG;split
    ·exact fin
    ·exact fin
   ·cases e
  ·rename_i b g;split at e
   ·rename_i t m hk;split at e
    ·rename_i cs gs1 hcs;simp only [zkF,zkG] at e;obtain ⟨rfl,rfl,rfl⟩:=e;obtain ⟨q,us,e3,e4,e5,e6,e7,_,e9⟩:=zi0 h hu (hg (b,g) (by simp)) hk;refine ⟨q,us,zef σ ρ gs1,e3,e5,e7,cellsG_ok h hI (zq8 (by rw [e6];exact hk) e9) hcs fun p hp=>hg p (by simp [hp]),?_⟩;unfold zef;rw [List.flatMap_cons,hk,e4];rfl
    ·cases e
   ·cases e
  ·rename_i y;have hu:=hu.im_inv;split at e
   ·split at e
    ·rename_i q hq;simp only [zkF,zkG] at e;obtain ⟨rfl,rfl,rfl⟩:=e;obtain ⟨rfl,k',rfl⟩:=zo6 hq;cases hu;exact nil_oc _ _ _ _
    ·cases e
   ·cases e
  ·cases e
 ·split at e
  ·split at e
   ·simp only [zkF,zkG] at e;obtain ⟨rfl,rfl,rfl⟩:=e;exact ⟨hI _ _ hu.im_inv,rfl⟩
   ·cases e
  ·split at e
   ·rename_i y bs' hy;simp only [zkF,zkG] at e;obtain ⟨rfl,rfl,rfl⟩:=e;exact ⟨fz_ok h hgk hu hy hb,rfl⟩
   ·cases e
theorem argsG_ok {a:Act} {w:World} {ρ:Ly} (h:SatR B σ a w ρ) {own:List Nat} {d:Nat} {bs0:List (Nat×Nat)} (hgk:∀ p∈bs0,σ.gn p.1=p.2):∀ {us:List Value} {cs:List AV} {i:Nat} {xs:List Arg} {bs gs:List (Nat×Nat)},
  Reps w (Imm B σ ρ w) ρ σ.gn us cs→zlh σ own d i cs=some (xs,bs,gs)→(∀ p∈bs,p∈bs0)→(∀ p∈gs,σ.gn p.1=p.2)→zd6 w (Imm B (app σ (fwr bs0)) ρ w) us xs (zef σ ρ gs)
 | [],[],i,xs,bs,gs,_,e,_,_=>by
  simp only [zlh,zkF,zkG] at e;rw [← e.1,← e.2.2];exact rfl
 | [],c::cs,_,_,_,_,hr,_,_,_=>by have:=hr.1;simp at this
 | u::us,[],_,_,_,_,hr,_,_,_=>by have:=hr.1;simp at this
 | u::us,c::cs,i,xs,bs,gs,hr,e,hb,hg=>by
  simp only [zlh] at e;split at e
  ·rename_i x b1 g1 xs1 bs1 gs1 h1 h2;simp only [zkF,zkG] at e;obtain ⟨rfl,rfl,rfl⟩:=e
   exact ⟨_,_,argG_ok h hgk (hr.2 0 u c rfl rfl) h1 (fun p hp=>hb p (List.mem_append_left _ hp)) fun p hp=>hg p (List.mem_append_left _ hp),
    argsG_ok h hgk ⟨by simpa using hr.1,fun i u x hu hx=>hr.2 (i+1) u x (by simpa using hu) (by simpa using hx)⟩ h2 (fun p hp=>hb p (List.mem_append_right _ hp)) fun p hp=>hg p (List.mem_append_right _ hp),zfx _ _ _⟩
  ·cases e
theorem bxG_ok {a:Act} {w:World} {ρ:Ly} (h:SatR B σ a w ρ) {own:List Nat} {d:Nat}:∀ {us:List Value} {cs:List AV} {i:Nat} {xs:List Arg} {bs gs:List (Nat×Nat)},
  Reps w (Imm B σ ρ w) ρ σ.gn us cs→zlh σ own d i cs=some (xs,bs,gs)→(∀ p∈gs,σ.gn p.1=p.2)→bxVs us xs=(bxG own d i cs).map (fun p=>ρ p.1)∧(∀ p∈bxG own d i cs,p.1∈gs.map (·.1))
 | [],[],i,xs,bs,gs,_,e,_=>by
  simp only [zlh,zkF,zkG] at e;rw [← e.1];exact ⟨rfl,by simp [bxG]⟩
 | [],c::cs,_,_,_,_,hr,_,_=>by have:=hr.1;simp at this
 | u::us,[],_,_,_,_,hr,_,_=>by have:=hr.1;simp at this
 | u::us,c::cs,i,xs,bs,gs,hr,e,hg=>by
  simp only [zlh] at e;split at e
  ·rename_i x b1 g1 xs1 bs1 gs1 h1 h2;simp only [zkF,zkG] at e;obtain ⟨rfl,rfl,rfl⟩:=e;obtain ⟨ih1,ih2⟩:=bxG_ok h (us:=us) (cs:=cs) ⟨by simpa using hr.1,fun i u x hu hx=>hr.2 (i+1) u x (by simpa using hu) (by simpa using hx)⟩ h2 fun p hp=>hg p (List.mem_append_right _ hp);have up:∀ p∈bxG own d (i+1) cs,p.1∈(g1++gs1).map (·.1):=fun p hp=>by rw [List.map_append];exact List.mem_append_right _ (ih2 p hp)
   have hu:=hr.2 0 u c rfl rfl;unfold argG at h1;unfold bxG;split at h1
   ·rename_i hown;split at h1
    ·rename_i b g;split at h1
     ·rename_i k hk;simp only [zkF,zkG] at h1;obtain ⟨rfl,rfl,rfl⟩:=h1
      have hv:u=ρ b:=by
       have hgb:=hg (b,g) (by simp);cases hu with
       | osl _ _ _ _ _ hh=>exact hh hgb
      unfold lentG;cases hl:own.contains (2000000+(1000*(d+1)+i)) with
      | true =>
       refine ⟨by simp only [bxVs,List.map_cons,hl];rw [ih1,hv],fun p hp=>?_⟩;simp only [hl] at hp;rcases List.mem_cons.1 hp with rfl | hp
       ·simp
       ·exact up p hp
      | false=>exact ⟨by simp only [bxVs,hl];exact ih1,fun p hp=>up p (by simpa only [hl] using hp)⟩
     ·cases h1
    ·rename_i b g;split at h1
     ·rename_i t m hk;split at h1
      ·simp only [zkF,zkG] at h1;obtain ⟨rfl,rfl,rfl⟩:=h1;obtain ⟨q,us',e3,e4,_⟩:=zi0 h hu (hg (b,g) (by simp)) hk;refine ⟨by simp only [bxVs,List.map_cons];rw [ih1,e3,e4],fun p hp=>?_⟩;rcases List.mem_cons.1 hp with rfl | hp
       ·simp
       ·exact up p hp
      ·cases h1
     ·cases h1
    ·split at h1
     ·split at h1
      ·simp only [zkF,zkG] at h1;obtain ⟨rfl,rfl,rfl⟩:=h1;exact ⟨ih1,up⟩
      ·cases h1
     ·cases h1
    ·cases h1
   ·rename_i hown;split at h1
    ·split at h1
     ·simp only [zkF,zkG] at h1;obtain ⟨rfl,rfl,rfl⟩:=h1;exact ⟨ih1,up⟩
     ·cases h1
    ·split at h1
     ·simp only [zkF,zkG] at h1;obtain ⟨rfl,rfl,rfl⟩:=h1;exact ⟨ih1,up⟩
     ·cases h1
  ·cases e
end
end
end Go.Proofs.YtbcommjbpmhdbaaGreatDoor.Sym

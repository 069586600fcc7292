/- Parts of the proof. -/
import Derived.Test.YtkiajpbdicaceaaGreatDoorM2
import Derived.Scope
import Derived.Test.YtkiajpbdicaceaaGreatDoorCards
import Derived.Test.YtkiajpbdicaceaaGreatDoorTie
import Derived.ProofKit
import Derived.OpenShut
import Derived.Deep.DeepHandedRow
import Derived.Lib.LaidTab
import Derived.Deep.Slices
import Derived.Lib.Hide
import Derived.Shelf.SlSortCmp.NoneTotal
import Derived.Lib.OwnBridge
import Derived.Lib.BufferRead
import Derived.WalkSmall
import Derived.Shelf.SlSortCmp.Whole1
import Derived.Shelf.SlSortCmp.WholeK
import Derived.Shelf.SlGeneric
import Derived.Ground.SlsfProg
import Derived.Shelf.Sort.Plain
import Derived.Ground.NamesProg
import Derived.Shelf.Slices.In.SortNone
import Derived.Lib.AppendZeros
import Derived.Lib.AppendZerosOnto
import Derived.Lib.Overlaps
import Derived.Lib.Walk
import Derived.Shelf.RegionOpenPlain
import Derived.Laws.NewBlocks
import Derived.Deep.WholeRow
set_option linter.all false
set_option maxRecDepth 100000
set_option maxHeartbeats 4000000
open Go.RowKit
namespace Go.Proofs.YtkiajpbdicaceaaGreatDoor.Sym
section
theorem least {p:Nat->Prop} (h:∃ m,p m):∃ m,p m∧∀ k,p k->m<=k:=by
 obtain ⟨m,hm⟩:=h
 induction m using Nat.strongRecOn with
 | _ m ih =>
  by_cases hk:∃ k,k<m∧p k
  ·obtain ⟨k,h1,h2⟩:=hk;exact ih k h1 h2
  ·exact ⟨m,hm,fun k hp=>by
    rcases ya8 k m with h1 | h1
    ·exact absurd ⟨k,h1,hp⟩ hk
    ·exact h1⟩
section
variable {P:Program} {B:Base}
theorem zto.out {body:(Exit->St->Prop)->St->Prop} {K:Exit->St->Prop} {σ:St} (h:zto body K σ) :
  ∃ (I:Nat->St->Prop) (m:Nat),I m σ∧∀ m σ,I m σ->∃ σ1 φ,Ent σ σ1∧Holds σ1 φ∧(φ->body (fun e σ'=>match e with | .normal=>∃ m',m'<m∧I m' σ' | e=>K e σ') σ1):=by
 unfold zto at h;exact h
open Classical in
theorem loop_ok {body:Code} {K:Exit->St->Prop} {σ:St} {f:(Exit->St->Prop)->St->Prop} (h:zto f K σ)
  (hbody:∀ (K':Exit->St->Prop) (σ:St),f K' σ->∀ a w,Sat B σ a w->∀ Q:Exit->Act->World->Prop,(∀ e σ' a' w',K' e σ'->Sat B σ' a' w'->Q e a' w')->body.wp P Q a w)
  {a:Act} {w:World} (hs:Sat B σ a w) {Q:Exit->Act->World->Prop} (hQ:∀ e σ' a' w',K e σ'->Sat B σ' a' w'->Q e a' w'):(Code.loop body).wp P Q a w:=by
 obtain ⟨I,m0,h0,hI⟩:=h.out
 let L:Act->World->Nat->Prop:=fun a w m=>∃ σ,I m σ∧Sat B σ a w
 let μ:Act->World->Nat:=fun a w=>if h:∃ m,L a w m then Classical.choose (least h) else 0
 refine wp_loop (fun a w=>∃ m,L a w m) μ ⟨m0,σ,h0,hs⟩ fun a w hL=>?_;obtain ⟨h1,h2⟩:=Classical.choose_spec (least hL);have hμ:μ a w=Classical.choose (least hL):=by simp only [μ];rw [dif_pos hL]
 generalize hm:Classical.choose (least hL)=m at h1 h2 hμ;obtain ⟨σ1,hσ1,a5⟩:=h1;obtain ⟨σ2,φ,a4,hφ,hb⟩:=hI m σ1 hσ1;have a3:=a4 B a w a5;refine hbody _ σ2 (hb (hφ B a w a3)) a w a3 _ fun e σ' a' w' hk hs'=>?_;cases e with
 | normal =>
  obtain ⟨m',a6,a2⟩:=hk;have a0:∃ m,L a' w' m:=⟨m',σ',a2,hs'⟩;refine ⟨a0,?_⟩;have h3:=(Classical.choose_spec (least a0)).2 m' ⟨σ',a2,hs'⟩;have hμ':μ a' w'=Classical.choose (least a0):=by simp only [μ];rw [dif_pos a0]
  rw [hμ',hμ];omega
 | exit id=>exact hQ _ σ' a' w' hk hs'
 | goto l=>exact hQ _ σ' a' w' hk hs'
 | ret=>exact hQ _ σ' a' w' hk hs'
 | panic ch=>exact hQ _ σ' a' w' hk hs'
 | outgrown=>exact hQ _ σ' a' w' hk hs'
theorem zgr (hm:P.follows .mixedOrders=true) {C:FuncId->List Arg->Rs->Prop} (hC:∀ g xs r,C g xs r->SpX P g xs r) {own:List Nat}:∀ (c:Code) (K:Exit->St->Prop) (σ:St),zkk P C B.n own c K σ->∀ a w,Sat B σ a w->∀ Q:Exit->Act->World->Prop,
  (∀ e σ' a' w',K e σ'->Sat B σ' a' w'->Q e a' w')->c.wp P Q a w
 | .skip,K,σ,h,a,w,hs,Q,hQ=>wp_skip (hQ .normal σ a w h hs)
 | .region id ops draw,K,σ,h,a,w,hs,Q,hQ=>aRegion_ok hm hC (id:=id) h hs hQ
 | .seq x y,K,σ,h,a,w,hs,Q,hQ=>by
  simp only [zkk] at h;split at h
  case h_2 =>
   obtain ⟨Post,h1,h2⟩:=h.out;refine wp_seq (zgr hm hC x _ σ h1 a w hs _ fun e σ' a' w' hk hs'=>?_);cases e with
   | normal =>
    obtain ⟨σ1,he,hp⟩:=hk;obtain ⟨φ,hφ,h3⟩:=h2 σ1 hp;have hs1:=he B a' w' hs';exact zgr hm hC y K σ1 (h3 (hφ B a' w' hs1)) a' w' hs1 Q hQ
   | exit id=>exact hQ _ σ' a' w' hk hs'
   | goto l=>exact hQ _ σ' a' w' hk hs'
   | ret=>exact hQ _ σ' a' w' hk hs'
   | panic ch=>exact hQ _ σ' a' w' hk hs'
   | outgrown=>exact hQ _ σ' a' w' hk hs'
  refine wp_seq (zgr hm hC x _ σ h a w hs _ fun e σ' a' w' hk hs'=>?_);cases e with
  | normal=>exact zgr hm hC y K σ' hk a' w' hs' Q hQ
  | exit id=>exact hQ _ σ' a' w' hk hs'
  | goto l=>exact hQ _ σ' a' w' hk hs'
  | ret=>exact hQ _ σ' a' w' hk hs'
  | panic ch=>exact hQ _ σ' a' w' hk hs'
  | outgrown=>exact hQ _ σ' a' w' hk hs'
 | .cond c x y,K,σ,h,a,w,hs,Q,hQ=>by
  simp only [zkk] at h;split at h
  ·rename_i t ht;obtain ⟨h1,h2⟩:=h.out
   have hc:a.eval c=.bool t:=by
    obtain ⟨ρ,hs⟩:=hs;exact zki ht (za0 hs c)
   cases ht':t with
   | true=>exact wp_cond_true (hc.trans (by rw [ht'])) (zgr hm hC x K σ (h1 ht') a w hs Q hQ)
   | false=>exact wp_cond_false (hc.trans (by rw [ht'])) (zgr hm hC y K σ (h2 ht') a w hs Q hQ)
  ·exact h.elim
 | .block id body,K,σ,h,a,w,hs,Q,hQ=>by
  simp only [zkk] at h;split at h
  case h_2 =>
   obtain ⟨Post,h1,h2⟩:=h.out
   have a0:∀ σ' a' w',(∃ σ1,Ent σ' σ1∧Post σ1)->Sat B σ' a' w'->Q .normal a' w':=fun σ' a' w' ⟨σ1,he,hp⟩ hs'=>by
    obtain ⟨φ,hφ,h3⟩:=h2 σ1 hp;have hs1:=he B a' w' hs';exact hQ _ σ1 a' w' (h3 (hφ B a' w' hs1)) hs1
   refine wp_block (zgr hm hC body _ σ h1 a w hs _ fun e σ' a' w' hk hs'=>?_);cases e with
   | exit j =>
    simp only at hk;show (if j=id then Q .normal a' w' else Q (.exit j) a' w');by_cases e:j=id
    ·rw [if_pos e] at hk ⊢;exact a0 σ' a' w' hk hs'
    ·rw [if_neg e] at hk ⊢;exact hQ _ σ' a' w' hk hs'
   | normal=>exact a0 σ' a' w' hk hs'
   | goto l=>exact hQ _ σ' a' w' hk hs'
   | ret=>exact hQ _ σ' a' w' hk hs'
   | panic ch=>exact hQ _ σ' a' w' hk hs'
   | outgrown=>exact hQ _ σ' a' w' hk hs'
  refine wp_block (zgr hm hC body _ σ h a w hs _ fun e σ' a' w' hk hs'=>?_);cases e with
  | exit j =>
   simp only at hk;show (if j=id then Q .normal a' w' else Q (.exit j) a' w');by_cases e:j=id
   ·rw [if_pos e] at hk ⊢;exact hQ _ σ' a' w' hk hs'
   ·rw [if_neg e] at hk ⊢;exact hQ _ σ' a' w' hk hs'
  | normal=>exact hQ _ σ' a' w' hk hs'
  | goto l=>exact hQ _ σ' a' w' hk hs'
  | ret=>exact hQ _ σ' a' w' hk hs'
  | panic ch=>exact hQ _ σ' a' w' hk hs'
  | outgrown=>exact hQ _ σ' a' w' hk hs'
 | .loop body,K,σ,h,a,w,hs,Q,hQ=>loop_ok h (fun K' σ h a w hs Q hQ=>zgr hm hC body K' σ h a w hs Q hQ) hs hQ
 | .exit id,K,σ,h,a,w,hs,Q,hQ=>wp_exit (hQ _ σ a w h hs)
 | .ret,K,σ,h,a,w,hs,Q,hQ=>wp_ret (hQ _ σ a w h hs)
 | .rangeFunc ..,_,_,h,_,_,_,_,_=>h.elim
 | .scope body,K,σ,h,a,w,hs,Q,hQ=>by
  refine wp_scope_straight (zgr hm hC body _ σ h a w hs _ fun e σ' a' w' hk hs'=>?_);cases e with
  | goto l=>exact hk.elim
  | exit j=>exact hQ _ σ' a' w' hk hs'
  | normal=>exact hQ _ σ' a' w' hk hs'
  | ret=>exact hQ _ σ' a' w' hk hs'
  | panic ch=>exact hQ _ σ' a' w' hk hs'
  | outgrown=>exact hQ _ σ' a' w' hk hs'
 | .label _,K,σ,h,a,w,hs,Q,hQ=>wp_label (hQ _ σ a w h hs)
 | .goto _,_,_,h,_,_,_,_,_=>h.elim
 | .refuse _,_,_,h,_,_,_,_,_=>h.elim
def resA (P:Program) (σ:St):ResultVar->Option (AV×yad)
 | .tmp t=>some (σ.av t,[])
 | .cell c t=>match σ.av c with
  | .own b g i=>match zp2 P t with
   | some false=>if Nat.blt i (zln σ b)=true then some (σ.ce b i,[(b,g)]) else none
   | some true=>match szOf P t with
    | some m=>if (Nat.blt 0 m&&Nat.ble (i+m) (zln σ b))=true then some (aggA ((List.range m).map fun j=>σ.ce b (i+j)),[(b,g)]) else none
    | none=>none
   | none=>none
  | _=>none
def resAs (P:Program) (σ:St):List ResultVar->Option (List AV×yad)
 | []=>some ([],[])
 | r::l=>match resA P σ r,resAs P σ l with | some (v,b),some (vs,bs)=>some (v::vs,b++bs) | _,_=>none
def outC (σ:St) (c:Oc) (a:AV):Option (Oc×yad×yad):=match c with
 | .im _=>match fz σ a with
  | some (x,bs)=>some (.im x,bs,[])
  | none=>none
 | .ow k0=>match a with
  | .osl b g=>match objG σ b with
   | some k=>some (.ow k,[],[(b,g)])
   | none=>none
  | .im x=>match k0 with
   | .row e k _=>match nilRow x e k with
    | some q=>some (.ow q,[],[])
    | none=>none
   | _=>none
  | _=>none
def zvo (σ:St):List Oc->List AV->Option (List Oc×yad×yad)
 | [],[]=>some ([],[],[])
 | c::cs,a::l=>match outC σ c a,zvo σ cs l with
  | some (x,bs,gs),some (xs,bs',gs')=>some (x::xs,bs++bs',gs++gs')
  | _,_=>none
 | _,_=>none
def zlq (σ:St):Nat->List Arg->List Arg->Option (List Arg×yad×yad)
 | _,[],[]=>some ([],[],[])
 | i,.im _::xs,ys=>zlq σ (i+1) xs ys
 | i,.ow _::xs,ys=>zlq σ (i+1) xs ys
 | i,.box _ _::xs,.box _ cs::ys=>match σ.kd i with
  | .box t _=>match zvo σ cs (zqa σ i),zlq σ (i+1) xs ys with
   | some (cs',bs,gs),some (l,bs',gs')=>some (.box t cs'::l,bs++bs',((i,0)::gs)++gs')
   | _,_=>none
  | _=>none
 | i,.lent _::xs,.lent _::ys=>match objG σ i,zlq σ (i+1) xs ys with
  | some k,some (l,bs',gs')=>some (.lent k::l,bs',(i,0)::gs')
  | _,_=>none
 | _,_,_=>none
def RetOk (P:Program) (rs:List ResultVar) (xs:List Arg) (σ:St) (r:Rs):Prop :=
 match resAs P σ rs,r with
 | some (vs,c),.mk tp l ys=>Chk (match tp with | true=>!Nat.beq vs.length 1 | false=>Nat.beq vs.length 1) (zm1 σ c (match zvo σ l vs,zlq σ 0 xs ys with
  | some (l',bs,gs),some (ys',bs',gs')=>Chk (ndB ((gs++gs').map (·.1)) ((bs++bs').map (·.1))) (zm1 σ ((bs++bs')++(gs++gs')) (l'=l∧ys'=ys))
  | _,_=>False))
 | none,_=>False
def retK (P:Program) (rs:List ResultVar) (xs:List Arg) (r:Rs):Exit->St->Prop
 | .ret,σ=>RetOk P rs xs σ r
 | .normal,σ=>RetOk P rs xs σ r
 | _,_=>False
def oneRes (tmps:Array Value):ResultVar->Sem Value
 | .tmp t=>pure (tmps.getD t undef)
 | .cell c t=>do loadVar t (<- asAddr (tmps.getD c undef))
theorem zry (fn:Func) (tmps:Array Value):results fn tmps=(do let vs <- fn.results.mapM (oneRes tmps);pure (if h:vs.size=1 then vs[0] else .tuple vs)):=by
 unfold results
 have e:(fun r:ResultVar=>match r with
  | .tmp t=>(pure (tmps.getD t undef):Sem Value)
  | .cell a t=>do loadVar t (<- asAddr (tmps.getD a undef)))=oneRes tmps:=funext fun r=>by cases r<;>rfl
 rw [<- e];rfl
theorem resA_ok {σ:St} {a:Act} {w:World} {ρ:Ly} (h:SatR B σ a w ρ) {r:ResultVar} {v:AV} {bs:yad} (e:resA P σ r=some (v,bs)) (hg:∀ p∈bs,σ.gn p.1=p.2) :
  ∃ u,(oneRes a.tmps r).run P w=.ok u w∧RepA w (Imm B σ ρ w) ρ σ.gn u v:=by
 cases r with
 | tmp t =>
  simp only [resA,zkF,zkG] at e;rw [<- e.1];exact ⟨_,rfl,h.tms t⟩
 | cell c t =>
  simp only [resA] at e;split at e
  ·rename_i b g i hc;have h1:=h.tms c;rw [hc] at h1
   have ld:∀ q u,a.tmps.getD c undef=.pointer (some q)->(Instr.loadAt t (.pointer (some q))).run P w=.ok u w->(do loadVar t (<- asAddr (a.tmps.getD c undef)):Sem Value).run P w=.ok u w:=fun q u e1 e2=>by
    simp only [Instr.loadAt,Instr.sureAddr,Sem.run_bind,Sem.run_pure,Result.andThen_ok] at e2;simp only [e1,asAddr,Sem.run_bind,Sem.run_pure,Result.andThen_ok,e2]
   split at e
   ·rename_i a0;split at e
    ·rename_i hi;simp only [zkF,zkG] at e;obtain ⟨rfl,rfl⟩:=e;obtain ⟨t',m,hk,a5⟩:=zk0 (ze7 hi);obtain ⟨q,us,e1,_,_,hl,a2,a3,hr⟩:=zj9 h h1 (hg (b,g) (by simp)) hk;obtain ⟨u,hu⟩:∃ u,us[i]?=some u:=⟨_,zkM (by omega)⟩;exact ⟨u,ld _ u e1 (zop a0 (a3 i u hu)),hr i u hu⟩
    ·cases e
   ·rename_i a0;split at e
    ·rename_i m hm;split at e
     ·rename_i hi;simp only [zkF,zkG] at e;obtain ⟨rfl,rfl⟩:=e;rw [yar] at hi;have a8:=ze7 hi.1;have hi:=zhz hi.2;obtain ⟨t',m',hk,a5⟩:=zk0 (σ:=σ) (b:=b) (i:=i) (by omega);have a7:=zqb hk;obtain ⟨q,us,e1,_,_,hl,a2,a3,hr⟩:=zj9 h h1 (hg (b,g) (by simp)) hk;have a4:((us.drop i).take m).length=m:=by rw [yak,ya0];omega
      refine ⟨.agg ((us.drop i).take m).toArray,ld _ _ e1 (znq a0 (by rw [a4];exact hm) fun j u hj=>a3 (i+j) u (zds hj).1),zot ⟨by rw [a4];simp,fun j u x hj hx=>?_⟩ fun u hu=>a2 u (ya1 (yaz hu))⟩;obtain ⟨h3,a6⟩:=zds hj;simp only [yat,yb6 a6,yaj,zkF] at hx;rw [<- hx];exact hr _ u h3
     ·cases e
    ·cases e
   ·cases e
  ·cases e
theorem zs0 {σ:St} {a:Act} {w:World} {ρ:Ly} (h:SatR B σ a w ρ):∀ {rs:List ResultVar} {vs:List AV} {bs:yad},resAs P σ rs=some (vs,bs)->(∀ p∈bs,σ.gn p.1=p.2) ->
  ∃ us:List Value,(rs.mapM (oneRes a.tmps)).run P w=.ok us w∧Reps w (Imm B σ ρ w) ρ σ.gn us vs
 | [],vs,bs,e,_=>by
  simp only [resAs,zkF,zkG] at e;rw [<- e.1];exact ⟨[],by simp,rfl,by simp⟩
 | r::rs,vs,bs,e,hg=>by
  simp only [resAs] at e;split at e
  ·rename_i v b1 vs1 bs1 h1 h2;simp only [zkF,zkG] at e;obtain ⟨rfl,rfl⟩:=e;obtain ⟨u,hu,hr⟩:=resA_ok h h1 fun p hp=>hg p (yai _ hp);obtain ⟨us,hus,hrs⟩:=zs0 h h2 fun p hp=>hg p (yaf _ hp);refine ⟨u::us,?_,by simp [hrs.1],fun i x y hx hy=>?_⟩
   ·rw [List.mapM_cons];simp only [Sem.run_bind,hu,Result.andThen_ok,hus,Sem.run_pure]
   ·cases i with
    | zero=>simp at hx hy;rw [<- hx,<- hy];exact hr
    | succ i=>exact hrs.2 i x y (by simpa using hx) (by simpa using hy)
  ·cases e
theorem outC_ok {σ:St} {a:Act} {w:World} {ρ:Ly} (h:SatR B σ a w ρ) {bs0:yad} (hgk:∀ p∈bs0,σ.gn p.1=p.2) {c:Oc} {u:Value} {v:AV} {x:Oc} {bs gs:yad} (hu:RepA w (Imm B σ ρ w) ρ σ.gn u v) (e:outC σ c v=some (x,bs,gs)) (hb:∀ p∈bs,p∈bs0) (hg:∀ p∈gs,σ.gn p.1=p.2) :
  OcOk w (Imm B (app σ (fwr bs0)) ρ w) u x (zdp σ ρ gs):=by
 have hI:=(h.kills bs0).2;unfold outC at e;split at e
 ·split at e
  ·rename_i y bs' hy;simp only [zkF,zkG] at e;obtain ⟨rfl,rfl,rfl⟩:=e;exact ⟨zve h hgk hu hy hb,rfl⟩
  ·cases e
 ·split at e
  ·rename_i b g;split at e
   ·rename_i k hk;simp only [zkF,zkG] at e;obtain ⟨rfl,rfl,rfl⟩:=e;have a0:=hg (b,g) (by simp)
    have hv:u=ρ b:=by
     cases hu with
     | osl _ _ _ _ _ hh=>exact hh a0
    have hh:=zsx h hk;subst hv;refine ⟨hh.one,ρ.inn b,hh.mono (fun _ _=>rfl) hI,?_⟩;unfold zdp;rw [ya3,ycr,ybp,(zl1 hk).1]
   ·cases e
  ·have hu:=hu.im_inv;split at e
   ·split at e
    ·rename_i q hq;simp only [zkF,zkG] at e;obtain ⟨rfl,rfl,rfl⟩:=e;obtain ⟨rfl,k',rfl⟩:=zp3 hq;cases hu;exact nil_oc _ _ _ _
    ·cases e
   ·cases e
  ·cases e
theorem zp4 {σ:St} {a:Act} {w:World} {ρ:Ly} (h:SatR B σ a w ρ) {bs0:yad} (hgk:∀ p∈bs0,σ.gn p.1=p.2):∀ {cs:List Oc} {us:List Value} {vs:List AV} {xs:List Oc} {bs gs:yad},Reps w (Imm B σ ρ w) ρ σ.gn us vs->zvo σ cs vs=some (xs,bs,gs)->(∀ p∈bs,p∈bs0)->(∀ p∈gs,σ.gn p.1=p.2) ->
  zlp w (Imm B (app σ (fwr bs0)) ρ w) us xs (zdp σ ρ gs)
 | [],us,[],xs,bs,gs,hr,e,_,_=>by
  simp only [zvo,zkF,zkG] at e;rw [<- e.1,<- e.2.2,yav hr.1];exact rfl
 | [],_,_::_,_,_,_,_,e,_,_=>by simp [zvo] at e
 | _::_,_,[],_,_,_,_,e,_,_=>by simp [zvo] at e
 | c::cs,[],v::vs,_,_,_,hr,_,_,_=>by have:=hr.1;simp at this
 | c::cs,u::us,v::vs,xs,bs,gs,hr,e,hb,hg=>by
  simp only [zvo] at e;split at e
  ·rename_i x b1 g1 xs1 bs1 gs1 h1 h2;simp only [zkF,zkG] at e;obtain ⟨rfl,rfl,rfl⟩:=e
   exact ⟨_,_,outC_ok h hgk (hr.2 0 u v rfl rfl) h1 (fun p hp=>hb p (yai _ hp)) fun p hp=>hg p (yai _ hp),
    zp4 h hgk ⟨by simpa using hr.1,fun i u x hu hx=>hr.2 (i+1) u x (by simpa using hu) (by simpa using hx)⟩ h2 (fun p hp=>hb p (yaf _ hp)) fun p hp=>hg p (yaf _ hp),zfh _ _ _⟩
  ·cases e
def zl3 (xs:List Arg) (vs:List Value) (o:Nat):Option Value:=match xs[o]? with
 | some (.box _ _)=>vs[o]?
 | some (.lent _)=>vs[o]?
 | _=>none
theorem zoi {σ:St} {a:Act} {w:World} {ρ:Ly} (h:SatR B σ a w ρ) {bs0:yad} (hgk:∀ p∈bs0,σ.gn p.1=p.2):∀ {xs:List Arg} {vs:List Value} {i:Nat} {ys ys':List Arg} {bs gs:yad},vs.length=xs.length->(∀ j v,zl3 xs vs j=some v->B.L (i+j)=some v)->zlq σ i xs ys=some (ys',bs,gs)->(∀ p∈bs,p∈bs0)->(∀ p∈gs,σ.gn p.1=p.2) ->
  zem w (Imm B (app σ (fwr bs0)) ρ w) (bxVs vs xs) ys' (zdp σ ρ gs)
 | [],[],i,ys,ys',bs,gs,hl,hL,e,hb,hg=>by
  cases ys with
  | nil =>
   simp only [zlq,zkF,zkG] at e;rw [<- e.1,<- e.2.2];exact rfl
  | cons _ _=>simp [zlq] at e
 | [],_::_,_,_,_,_,_,hl,_,_,_,_=>by simp at hl
 | _::_,[],_,_,_,_,_,hl,_,_,_,_=>by simp at hl
 | .im x::xs,v::vs,i,ys,ys',bs,gs,hl,hL,e,hb,hg=>by
  have e:zlq σ (i+1) xs ys=some (ys',bs,gs):=by cases ys<;>exact e
  exact zoi h hgk (xs:=xs) (vs:=vs) (i:=i+1) (by simpa using hl) (fun j v hv=>by rw [ybb,yb9 1 j];exact hL (j+1) v (by simpa [zl3] using hv)) e hb hg
 | .ow k::xs,v::vs,i,ys,ys',bs,gs,hl,hL,e,hb,hg=>by
  have e:zlq σ (i+1) xs ys=some (ys',bs,gs):=by cases ys<;>exact e
  exact zoi h hgk (xs:=xs) (vs:=vs) (i:=i+1) (by simpa using hl) (fun j v hv=>by rw [ybb,yb9 1 j];exact hL (j+1) v (by simpa [zl3] using hv)) e hb hg
 | .lent _::xs,v::vs,i,[],ys',bs,gs,hl,hL,e,hb,hg=>by simp [zlq] at e
 | .lent _::xs,v::vs,i,.im _::ys,ys',bs,gs,hl,hL,e,hb,hg=>by simp [zlq] at e
 | .lent _::xs,v::vs,i,.ow _::ys,ys',bs,gs,hl,hL,e,hb,hg=>by simp [zlq] at e
 | .lent _::xs,v::vs,i,.box _ _::ys,ys',bs,gs,hl,hL,e,hb,hg=>by simp [zlq] at e
 | .box _ _::xs,v::vs,i,.lent _::ys,ys',bs,gs,hl,hL,e,hb,hg=>by simp [zlq] at e
 | .lent k0::xs,v::vs,i,.lent k1::ys,ys',bs,gs,hl,hL,e,hb,hg=>by
  unfold zlq at e;split at e
  ·rename_i k l b2 g2 hk h2;simp only [zkF,zkG] at e;obtain ⟨rfl,rfl,rfl⟩:=e;have a0:σ.gn i=0:=hg (i,0) (by simp);have hv:ρ i=v:=h.rt i v (by have:=hL 0 v (by simp [zl3]);simpa using this) a0;have hh:=zsx h hk;have hI:=(h.kills bs0).2
   refine ⟨fpk (ρ i) (ρ.inn i) k,zdp σ ρ g2,⟨by rw [<- hv];exact hh.one,ρ.inn i,by rw [<- hv];exact hh.mono (fun _ _=>rfl) hI,by rw [<- hv]⟩,
    zoi h hgk (xs:=xs) (vs:=vs) (i:=i+1) (by simpa using hl) (fun j v hv=>by rw [ybb,yb9 1 j];exact hL (j+1) v (by simpa [zl3] using hv)) h2 hb (fun p hp=>hg p (by simp [hp])),?_⟩
   unfold zdp;rw [ya3,(zl1 hk).1]
  ·cases e
 | .box t0 c0::xs,v::vs,i,[],ys',bs,gs,hl,hL,e,hb,hg=>by simp [zlq] at e
 | .box t0 c0::xs,v::vs,i,.im _::ys,ys',bs,gs,hl,hL,e,hb,hg=>by simp [zlq] at e
 | .box t0 c0::xs,v::vs,i,.ow _::ys,ys',bs,gs,hl,hL,e,hb,hg=>by simp [zlq] at e
 | .box t0 c0::xs,v::vs,i,.box _ cs::ys,ys',bs,gs,hl,hL,e,hb,hg=>by
  unfold zlq at e;split at e
  ·rename_i t m hk;split at e
   ·rename_i a2 b1 g1 l b2 g2 h1 h2;simp only [zkF,zkG] at e;obtain ⟨rfl,rfl,rfl⟩:=e;have a0:σ.gn i=0:=hg (i,0) (by simp);have hv:ρ i=v:=h.rt i v (by have:=hL 0 v (by simp [zl3]);simpa using this) a0;have ho:=h.obs i;rw [hk] at ho;obtain ⟨q,us,e1,e2,e3,e4,e5⟩:=ho;have hr:=zoq (σ:=σ) (b:=i) (us:=us) (t:=t) (by rw [e3];exact hk) e5
    refine ⟨_,_,⟨q,us,zdp σ ρ g1,by rw [<- hv];exact e1,e2,e4,zp4 h hgk hr h1 (fun p hp=>hb p (yai _ hp)) (fun p hp=>hg p (by simp [hp])),rfl⟩,
     zoi h hgk (xs:=xs) (vs:=vs) (i:=i+1) (by simpa using hl) (fun j v hv=>by rw [ybb,yb9 1 j];exact hL (j+1) v (by simpa [zl3] using hv)) h2 (fun p hp=>hb p (yaf _ hp)) (fun p hp=>hg p (by simp [hp])),?_⟩
    rw [zfh];unfold zdp;rw [ya3,hk,e1];rfl
   ·cases e
  ·cases e
theorem zwi {fn:Func} {xs:List Arg} {vs0:List Value} {r:Rs} {σ:St} (h:RetOk P fn.results.toList xs σ r) {a:Act} {w:World} (hs:Sat B σ a w) (hl:vs0.length=xs.length) (hL:∀ j v,zl3 xs vs0 j=some v->B.L j=some v) :
  ∃ v F',(results fn a.tmps).run P w=.ok v w∧zm5 w (fun b=>(B.S0 b∨Mine B b)∧b<w.heap.size∧b∉F') v (bxVs vs0 xs) r F'∧F'.Nodup∧∀ b∈F',Mine B b∧b<w.heap.size:=by
 obtain ⟨ρ,hs⟩:=hs;unfold RetOk at h;split at h
 ·rename_i vs c tp l ys b2;obtain ⟨a8,h⟩:=h.ok;obtain ⟨hg,h⟩:=h.out;obtain ⟨us,b5,hr⟩:=zs0 hs b2 hg
  have a0:(results fn a.tmps).run P w=.ok (if h:us.toArray.size=1 then us.toArray[0] else .tuple us.toArray) w:=by
   rw [zry,Sem.run_bind,ydj,map_eq_pure_bind,Sem.run_bind,b5];simp only [Result.andThen_ok,Sem.run_pure]
  split at h
  ·rename_i l' bs gs b6 bs' a3 h1 h2;obtain ⟨b4,h⟩:=h.ok;obtain ⟨b0,a7⟩:=zhh b4;obtain ⟨a5,rfl,rfl⟩:=h.out;have a4:∀ p∈bs++bs',σ.gn p.1=p.2:=fun p hp=>a5 p (yai _ hp);have a6:∀ p∈gs++a3,σ.gn p.1=p.2:=fun p hp=>a5 p (yaf _ hp);have r1:=zp4 hs (bs0:=bs++bs') a4 hr h1 (fun p hp=>yai _ hp) fun p hp=>a6 p (yai _ hp);have r2:=zoi hs (bs0:=bs++bs') a4 hl (i:=0) (fun j v hv=>by rw [yae];exact hL j v hv) h2 (fun p hp=>yaf _ hp) fun p hp=>a6 p (yaf _ hp)
   have a2:∀ u x,RepI w (Imm B (app σ (fwr (bs++bs'))) ρ w) u x->RepI w (fun b=>(B.S0 b∨Mine B b)∧b<w.heap.size∧b∉zdp σ ρ gs++zdp σ ρ a3) u x:=fun u x hr=>hr.mono (fun b hb=>⟨hb.1,hb.2.1,fun hf=>by
    rw [<- zfh] at hf
    obtain ⟨p,hp,ho⟩:=zed.1 hf
    refine hb.2.2.1 p.1 ?_
    unfold Owns at ho ⊢
    rw [zly,if_neg (a7 p.1 (yap.2 ⟨p,hp,rfl⟩))]
    exact ho⟩) fun _ _ _ h=>h
   have hn:=ze0 hs b0;rw [zfh] at hn
   have hm:∀ b∈zdp σ ρ gs++zdp σ ρ a3,Mine B b∧b<w.heap.size:=fun b hb=>by
    rw [<- zfh] at hb;obtain ⟨p,hp,ho⟩:=zed.1 hb;exact hs.own p.1 b ho
   have a9:us.toArray.size=vs.length:=by simp [hr.1]
   cases tp with
   | true =>
    have b3:¬ us.toArray.size=1:=fun e=>by
     rw [a9] at e;simp [e] at a8
    rw [dif_neg b3] at a0;exact ⟨_,_,a0,⟨us,_,_,rfl,r1.mono a2,r2.mono a2,rfl⟩,hn,hm⟩
   | false =>
    have he:us.toArray.size=1:=by rw [a9];simpa using a8
    rw [dif_pos he] at a0
    obtain ⟨u,rfl⟩:∃ u,us=[u]:=by
     match us,he with
     | [u],_=>exact ⟨u,rfl⟩
    exact ⟨_,_,a0,⟨[u],_,_,rfl,r1.mono a2,r2.mono a2,rfl⟩,hn,hm⟩
  ·exact h.elim
 ·exact h.elim
def sig0:St:=fun l=>match l with
 | .tmp _=>.av (.im .any)
 | .gen _=>.n 0
 | .ign _=>.n 0
 | .knd _=>.kd .dead
 | .cel _ _=>.av (.im .any)
def tau0:St:=fun l=>match l with
 | .tmp _=>.av (.im .any)
 | .gen _=>.n 0
 | .ign _=>.n 0
 | .knd _=>.kd .dead
 | .cel o j=>.av (.osl (nmB o j) 0)
def zro:Arg->Oc
 | .im x=>.im x
 | .ow k=>.ow k
 | .box _ _=>.im .any
 | .lent _=>.im .any
def bxIx:Nat->List Arg->yad
 | _,[]=>[]
 | i,.box _ _::xs=>(i,i)::bxIx (i+1) xs
 | i,.lent _::xs=>(i,i)::bxIx (i+1) xs
 | i,.im _::xs=>bxIx (i+1) xs
 | i,.ow _::xs=>bxIx (i+1) xs
def bxAs:List Arg->List Arg
 | []=>[]
 | .box t cs::xs=>.box t cs::bxAs xs
 | .lent k::xs=>.lent k::bxAs xs
 | .im _::xs=>bxAs xs
 | .ow _::xs=>bxAs xs
def argV (i:Nat) (x:Arg) (a:AV):AV:=match x with
 | .box _ _=>.own i 0 0
 | .lent _=>.osl i 0
 | _=>a
def tmpW:Nat->List Arg->List AV->List (Loc×Ct)
 | i,x::xs,a::al=>(.tmp i,.av (argV i x a))::tmpW (i+1) xs al
 | _,_,_=>[]
def entW (xs:List Arg):List (Loc×Ct):=match zcj tau0 (fun i=>i) 0 (xs.map zro),bxPl tau0 (bxIx 0 xs) (bxAs xs) with
 | (al,ss),some (bl,ss')=>zdz tau0 (ss++ss')++(bxWr bl++tmpW 0 xs al)
 | _,none=>[]
def zsw (xs:List Arg):Bool:=match zcj tau0 (fun i=>i) 0 (xs.map zro),bxPl tau0 (bxIx 0 xs) (bxAs xs) with
 | (_,ss),some (bl,ss')=>ndB ((ss++ss').map (·.1)) (bl.map (·.1))
 | _,none=>false
def st0 (xs:List Arg):St:=app sig0 (entW xs)
theorem zl9 {w:World} {S:Nat->Prop}:∀ {vs:List Value} {xs:List Arg} {F:List Nat},zem w S vs xs F->∃ Ft Fb,zlp w S vs (xs.map zro) Ft∧zem w S (bxVs vs xs) (bxAs xs) Fb∧F.Perm (Ft++Fb)
 | [],[],F,h=>⟨[],[],rfl,rfl,by have h:F=[]:=h;rw [h];exact .refl _⟩
 | v::vs,.im x::xs,F,⟨F1,F2,h1,h2,h3⟩=>by
  obtain ⟨Ft,Fb,a1,a2,a3⟩:=zl9 h2;obtain ⟨h1,rfl⟩:=h1;exact ⟨[]++Ft,Fb,⟨[],Ft,⟨h1,rfl⟩,a1,rfl⟩,a2,by rw [h3];exact a3⟩
 | v::vs,.ow k::xs,F,⟨F1,F2,h1,h2,h3⟩=>by
  obtain ⟨Ft,Fb,a1,a2,a3⟩:=zl9 h2;exact ⟨F1++Ft,Fb,⟨F1,Ft,h1,a1,rfl⟩,a2,by rw [h3,ybs];exact a3.append_left F1⟩
 | v::vs,.box t cs::xs,F,⟨F1,F2,h1,h2,h3⟩=>by
  obtain ⟨Ft,Fb,a1,a2,a3⟩:=zl9 h2;refine ⟨[]++Ft,F1++Fb,⟨[],Ft,⟨.any _,rfl⟩,a1,rfl⟩,⟨F1,Fb,h1,a2,rfl⟩,?_⟩;rw [h3,ycb];refine (a3.append_left F1).trans ?_;rw [<- ybs,<- ybs];exact List.perm_append_comm.append_right Fb
 | v::vs,.lent k::xs,F,⟨F1,F2,h1,h2,h3⟩=>by
  obtain ⟨Ft,Fb,a1,a2,a3⟩:=zl9 h2;refine ⟨[]++Ft,F1++Fb,⟨[],Ft,⟨.any _,rfl⟩,a1,rfl⟩,⟨F1,Fb,h1,a2,rfl⟩,?_⟩;rw [h3,ycb];refine (a3.append_left F1).trans ?_;rw [<- ybs,<- ybs];exact List.perm_append_comm.append_right Fb
 | [],_::_,_,h=>h.elim
 | _::_,[],_,h=>h.elim
theorem zem.len {w:World} {S:Nat->Prop}:∀ {vs:List Value} {xs:List Arg} {F:List Nat},zem w S vs xs F->vs.length=xs.length
 | [],[],_,_=>rfl
 | _::_,_::_,_,⟨_,_,_,h,_⟩=>by simp [h.len]
 | [],_::_,_,h=>h.elim
 | _::_,[],_,h=>h.elim
theorem tmpW_get:∀ {xs:List Arg} {al:List AV} {i:Nat} {σ:St} {t:Nat},xs.length=al.length->(app σ (tmpW i xs al)).av t=match xs[t-i]?,al[t-i]? with | some x,some a=>if i<=t then argV t x a else σ.av t | _,_=>σ.av t
 | [],[],i,σ,t,_=>by simp [tmpW,app]
 | [],_::_,_,_,_,h=>by simp at h
 | _::_,[],_,_,_,h=>by simp at h
 | x::xs,a::al,i,σ,t,h=>by
  rw [tmpW,zb2,tmpW_get (by simpa using h)];by_cases h1:i+1<=t
  ·obtain ⟨m,hm⟩:∃ m,t-i=m+1:=⟨t-i-1,by omega⟩;rw [hm,show t-(i+1)=m from by omega];have h2:i<=t:=by omega
   have h3:t≠i:=by omega
   simp only [ydo,h1,h2,if_true,zsc,h3,if_false]
  ·by_cases h2:t=i
   ·subst h2;rw [ycf];simp only [yc5,yam,if_true,h1,if_false,zsc];split<;>rfl
   ·have h3:¬ i<=t:=by omega
    simp only [if_neg h1,if_neg h3,zsc,if_neg h2];split<;>split<;>rfl
theorem tmpW_same:∀ {xs:List Arg} {al:List AV} {i:Nat} {σ:St},zio σ (app σ (tmpW i xs al))
 | [],_,_,_=>⟨rfl,rfl,rfl,rfl⟩
 | _::_,[],_,_=>⟨rfl,rfl,rfl,rfl⟩
 | x::xs,a::al,i,σ=>by
  have h1:=zio.tmp σ i (.av (argV i x a));have h2:zio (upd σ (.tmp i) (.av (argV i x a))) (app (upd σ (.tmp i) (.av (argV i x a))) (tmpW (i+1) xs al)):=tmpW_same;exact ⟨h2.gn.trans h1.gn,h2.ig.trans h1.ig,h2.kd.trans h1.kd,h2.ce.trans h1.ce⟩
theorem zn9:∀ {xs:List Arg} {vs:List Value} {i j:Nat} {b:Nat} {p:Value},vs.length=xs.length->((bxIx i xs).map (·.1))[j]?=some b->(bxVs vs xs)[j]?=some p->i<=b∧vs[b-i]?=some p
 | [],[],i,j,b,p,_,h,_=>by simp [bxIx] at h
 | [],_::_,_,_,_,_,h,_,_=>by simp at h
 | _::_,[],_,_,_,_,h,_,_=>by simp at h
 | .im x::xs,v::vs,i,j,b,p,hl,h,k=>by
  obtain ⟨h1,h2⟩:=zn9 (i:=i+1) (by simpa using hl) h k;obtain ⟨m,hm⟩:∃ m,b-i=m+1:=⟨b-i-1,by omega⟩;exact ⟨by omega,by rw [hm,show m=b-(i+1) from by omega];simpa using h2⟩
 | .ow x::xs,v::vs,i,j,b,p,hl,h,k=>by
  obtain ⟨h1,h2⟩:=zn9 (i:=i+1) (by simpa using hl) h k;obtain ⟨m,hm⟩:∃ m,b-i=m+1:=⟨b-i-1,by omega⟩;exact ⟨by omega,by rw [hm,show m=b-(i+1) from by omega];simpa using h2⟩
 | .lent q::xs,v::vs,i,0,b,p,hl,h,k=>by
  simp [bxIx] at h;simp [bxVs] at k;subst h k;exact ⟨yam _,by simp⟩
 | .lent q::xs,v::vs,i,j+1,b,p,hl,h,k=>by
  obtain ⟨h1,h2⟩:=zn9 (i:=i+1) (j:=j) (by simpa using hl) (by simpa [bxIx] using h) (by simpa [bxVs] using k);obtain ⟨m,hm⟩:∃ m,b-i=m+1:=⟨b-i-1,by omega⟩;exact ⟨by omega,by rw [hm,show m=b-(i+1) from by omega];simpa using h2⟩
 | .box t cs::xs,v::vs,i,0,b,p,hl,h,k=>by
  simp [bxIx] at h;simp [bxVs] at k;subst h k;exact ⟨yam _,by simp⟩
 | .box t cs::xs,v::vs,i,j+1,b,p,hl,h,k=>by
  obtain ⟨h1,h2⟩:=zn9 (i:=i+1) (j:=j) (by simpa using hl) (by simpa [bxIx] using h) (by simpa [bxVs] using k);obtain ⟨m,hm⟩:∃ m,b-i=m+1:=⟨b-i-1,by omega⟩;exact ⟨by omega,by rw [hm,show m=b-(i+1) from by omega];simpa using h2⟩
theorem zri:∀ {xs:List Arg} {i b:Nat},b∈(bxIx i xs).map (·.1)->i<=b
 | [],i,b,h=>by simp [bxIx] at h
 | .im x::xs,i,b,h=>by have:=zri (xs:=xs) (i:=i+1) h;omega
 | .ow x::xs,i,b,h=>by have:=zri (xs:=xs) (i:=i+1) h;omega
 | .lent k::xs,i,b,h=>by
  rw [bxIx,yan] at h;rcases yau.1 h with h | h
  ·exact yc1 h.symm
  ·have:=zri (xs:=xs) (i:=i+1) h;omega
 | .box t cs::xs,i,b,h=>by
  rw [bxIx,yan] at h;rcases yau.1 h with h | h
  ·exact yc1 h.symm
  ·have:=zri (xs:=xs) (i:=i+1) h;omega
theorem zmf:∀ {xs:List Arg} {i:Nat},((bxIx i xs).map (·.1)).Nodup
 | [],i=>yb8
 | .im x::xs,i=>zmf (xs:=xs) (i:=i+1)
 | .ow x::xs,i=>zmf (xs:=xs) (i:=i+1)
 | .lent k::xs,i=>by
  rw [bxIx,yan,ybj];exact ⟨fun h=>by have:=zri h;omega,zmf⟩
 | .box t cs::xs,i=>by
  rw [bxIx,yan,ybj];exact ⟨fun h=>by have:=zri h;omega,zmf⟩
def isLent:Arg->Bool
 | .box _ _=>true
 | .lent _=>true
 | _=>false
theorem zov:∀ {xs:List Arg} {i o:Nat} {x:Arg},xs[o]?=some x->isLent x=true->i+o∈(bxIx i xs).map (·.1)
 | [],i,o,x,h,_=>by simp at h
 | .box t' cs'::xs,i,0,x,h,_=>by simp [bxIx]
 | .lent k::xs,i,0,x,h,_=>by simp [bxIx]
 | .im y::xs,i,0,x,h,hl=>by simp at h;subst h;cases hl
 | .ow y::xs,i,0,x,h,hl=>by simp at h;subst h;cases hl
 | .im y::xs,i,o+1,x,h,hl=>by have:=zov (xs:=xs) (i:=i+1) (o:=o) (x:=x) (by simpa using h) hl;rw [bxIx,show i+(o+1)=i+1+o from by omega];exact this
 | .ow y::xs,i,o+1,x,h,hl=>by have:=zov (xs:=xs) (i:=i+1) (o:=o) (x:=x) (by simpa using h) hl;rw [bxIx,show i+(o+1)=i+1+o from by omega];exact this
 | .box t' cs'::xs,i,o+1,x,h,hl=>by
  have:=zov (xs:=xs) (i:=i+1) (o:=o) (x:=x) (by simpa using h) hl;rw [bxIx,yan,show i+(o+1)=i+1+o from by omega];exact yay _ this
 | .lent k::xs,i,o+1,x,h,hl=>by
  have:=zov (xs:=xs) (i:=i+1) (o:=o) (x:=x) (by simpa using h) hl;rw [bxIx,yan,show i+(o+1)=i+1+o from by omega];exact yay _ this
theorem zem.ptr {w:World} {S:Nat->Prop}:∀ {vs:List Value} {xs:List Arg} {F:List Nat},zem w S vs xs F->∀ {i:Nat} {v:Value} {t:TypeId} {cs:List Oc},vs[i]?=some v->xs[i]?=some (.box t cs)->∃ q,v=.pointer (some ⟨q,0,none⟩)
 | [],[],_,_,i,_,_,_,h,_=>by simp at h
 | v::vs,x::xs,_,⟨_,_,h1,h2,_⟩,0,u,t,cs,h,k=>by
  simp at h k;subst h k;obtain ⟨q,_,_,e,_⟩:=h1;exact ⟨q,e⟩
 | v::vs,x::xs,_,⟨_,_,h1,h2,_⟩,i+1,u,t,cs,h,k=>h2.ptr (by simpa using h) (by simpa using k)
 | [],_::_,_,h,_,_,_,_,_,_=>h.elim
 | _::_,[],_,h,_,_,_,_,_,_=>h.elim
theorem zem.one {w:World} {S:Nat->Prop}:∀ {vs:List Value} {xs:List Arg} {F:List Nat},zem w S vs xs F->∀ {i:Nat} {v:Value} {k:Kd},vs[i]?=some v->xs[i]?=some (.lent k)->v.oneCell'=true
 | [],[],_,_,i,_,_,h,_=>by simp at h
 | v::vs,x::xs,_,⟨_,_,h1,h2,_⟩,0,u,k',h,k=>by
  simp at h k;subst h k;exact h1.1
 | v::vs,x::xs,_,⟨_,_,h1,h2,_⟩,i+1,u,k',h,k=>h2.one (by simpa using h) (by simpa using k)
 | [],_::_,_,h,_,_,_,_,_=>h.elim
 | _::_,[],_,h,_,_,_,_,_=>h.elim
theorem st0_sat (w:World) (S:Nat->Prop) {vs:List Value} {xs:List Arg} {F:List Nat} (h:zem w S vs xs F) (hnd:F.Nodup) (hF:∀ b∈F,¬ S b∧b<w.heap.size) (hS:∀ b,S b->b<w.heap.size) (n:Nat) (hn:vs.length<=n) (hok:zsw xs=true) :
  Sat ⟨w,S,n,fun b=>b∈F,fun _=>False,zl3 xs vs,[]⟩ (st0 xs) { tmps:=vs.toArray++Array.replicate (n-vs.toArray.size) undef,defers:=[] } w:=by
 have b0:=h.len;obtain ⟨Ft,Fb,a1,a2,a3⟩:=zl9 h;have a0:=a3.nodup_iff.1 hnd;rw [ybc] at a0;have a9:∀ b,b∈Ft∨b∈Fb->b∈F:=fun b hb=>a3.mem_iff.2 (yal.2 hb);unfold zsw at hok;unfold st0 entW;cases hbl:bxPl tau0 (bxIx 0 xs) (bxAs xs) with
 | none=>rw [hbl] at hok;cases hok
 | some q =>
  obtain ⟨bl,ss'⟩:=q;rw [hbl] at hok;simp only at hok ⊢;obtain ⟨a4,a8⟩:=zhh hok;have d4:=a4;rw [ya9,ybc] at a4
  have h0:SatR ⟨w,S,n,fun b=>b∈F,fun b=>b∈F,zl3 xs vs,[]⟩ sig0 { tmps:=vs.toArray++Array.replicate (n-vs.toArray.size) undef,defers:=[] } w ⟨fun o=>vs.getD o undef,fun _=>[],fun _=>0⟩:=by
   refine ⟨Belo.refl _ _ w,fun o=>trivial,fun o b ho=>absurd rfl ho.lv,fun o p b ho=>absurd rfl ho.lv,fun t=>.im _ _ (.any _),fun o=>rfl,fun b hb=>⟨⟨.inr hb,(hF b hb).2⟩,fun o ho=>absurd rfl ho.lv⟩,fun o v hl _=>?_,by simp;omega,rfl⟩;have hl:zl3 xs vs o=some v:=hl;unfold zl3 at hl;split at hl
   ·show vs.getD o undef=v;simp [List.getD,hl]
   ·show vs.getD o undef=v;simp [List.getD,hl]
   ·cases hl
  have c0:∀ b,S b->Imm ⟨w,S,n,fun b=>b∈F,fun b=>b∈F,zl3 xs vs,[]⟩ sig0 ⟨fun o=>vs.getD o undef,fun _=>[],fun _=>0⟩ w b:=fun b hb=>⟨.inl hb,hS b hb,fun o ho=>absurd rfl ho.lv,fun hf=>(hF b hf).1 hb⟩;obtain ⟨ρ2,Z2,b1,b2,b3,b4,b5,b6⟩:=zoe tau0 (fun i=>i) (l:=xs.map zro) (i:=0) h0 a1 c0 a0.1 (fun b hb=>a9 b (.inl hb)) a4.1 fun _ _=>⟨rfl,rfl⟩
  obtain ⟨ρ3,Z3,qs,c1,c2,c3,c4,c5,c6,c7,c8,c9⟩:=zqe tau0 hbl b1 a2 (fun b hb=>b5 b (c0 b hb)) a0.2.1 (fun b hb=>b2 b (a9 b (.inr hb)) fun hf=>a0.2.2 b hf b hb rfl) a4.2.1 fun p hp=>by
   obtain ⟨_,d2,d3,_⟩:=b6 p.1 fun hm=>a4.2.2 p.1 hm p.1 (yap.2 ⟨p,hp,rfl⟩) rfl;exact ⟨d2,d3⟩
  have b9:app (app sig0 (zdz tau0 (zcj tau0 (fun i=>i) 0 (xs.map zro)).2)) (zdz tau0 ss')=app sig0 (zdz tau0 ((zcj tau0 (fun i=>i) 0 (xs.map zro)).2++ss')):=by rw [zlg,zau]
  rw [b9] at c1 c5 c7 c8 c9
  have a5:∀ b,b∈bl.map (·.1)->ρ3 b=vs.getD b undef:=fun b hb=>by
   have a7:b∉(zcj tau0 (fun i=>i) 0 (xs.map zro)).2.map (·.1):=fun hm=>a8 b (by rw [ya9];exact yai _ hm) hb;have a6:b∉ss'.map (·.1):=fun hm=>a8 b (by rw [ya9];exact yaf _ hm) hb;rw [(c9 b a6).1,(b6 b a7).1]
  obtain ⟨Z4,e1,e2,e3⟩:=zpo c1 c5 c4 (fun q hq=>(c3 q hq).1) (by rw [c6];exact zmf) fun j b p hb hp=>by
   have d0:=zkH hb;rw [c6] at hb;obtain ⟨_,hp⟩:=zn9 b0 hb hp;rw [a5 b d0];rw [ydk] at hp;simp [List.getD,hp]
  obtain ⟨g1,_,g3,_⟩:=e1.stepZ (σ':=app (app sig0 (zdz tau0 ((zcj tau0 (fun i=>i) 0 (xs.map zro)).2++ss'))) (bxWr bl)) (ρ':=ρ3) (w':=w) (fun _=>False) (fun _=>False) (fun _=>rfl) (fun _ _=>⟨rfl,rfl,fun _=>rfl,rfl,rfl,rfl⟩) (fun _ hd=>hd.elim) e1.igs (Belo.refl _ _ _) (fun _ _ hd=>hd.elim) (fun _ _ _ hd=>hd.elim)
   (fun _ hb=>hb.elim) fun _ _ _ hd=>hd.elim
  refine ⟨ρ3,?_⟩;rw [zau,zau]
  have lent:∀ t (ht:t<vs.length),t∈bl.map (·.1)->(app (app sig0 (zdz tau0 ((zcj tau0 (fun i=>i) 0 (xs.map zro)).2++ss'))) (bxWr bl)).gn t=0∧ρ3 t=vs[t]:=fun t ht hb=>by
   have a7:t∉(zcj tau0 (fun i=>i) 0 (xs.map zro)).2.map (·.1):=fun hm=>a8 t (by rw [ya9];exact yai _ hm) hb;have a6:t∉ss'.map (·.1):=fun hm=>a8 t (by rw [ya9];exact yaf _ hm) hb;refine ⟨?_,by rw [a5 t hb];simp [List.getD,ht]⟩;rw [bxWr_gn,(c9 t a6).2.1,(b6 t a7).2.1];rfl
  refine g1.slots tmpW_same (fun t=>?_) (by simp;omega) rfl;have d1:xs.length=(zcj tau0 (fun i=>i) 0 (xs.map zro)).1.length:=by rw [<- b3.1,b0]
  rw [tmpW_get d1,ydk];by_cases ht:t<vs.length
  ·have hx:t<xs.length:=by omega
   have hv:(vs.toArray++Array.replicate (n-vs.toArray.size) undef).getD t undef=vs[t]:=by
    simp only [yck];rw [yd4 (by simpa using ht)];simp [ht]
   obtain ⟨al,b7⟩:∃ al,(zcj tau0 (fun i=>i) 0 (xs.map zro)).1[t]?=some al:=⟨_,zkM (by omega)⟩;have hr:=g3 _ _ (e3 _ _ (c7 _ _ (b3.2 t vs[t] al (zkM ht) b7)));rw [hv,zkM hx,b7];simp only [yas,if_true];cases hxt:xs[t] with
   | im x=>exact hr
   | ow k=>exact hr
   | box ty cs =>
    have hb:t∈bl.map (·.1):=by
     rw [c6];have:=zov (xs:=xs) (i:=0) (o:=t) (x:=.box ty cs) (by rw [zkM hx,hxt]) rfl
     rwa [yae] at this
    obtain ⟨hg,b8⟩:=lent t ht hb;obtain ⟨q,hq⟩:∃ q,vs[t]=.pointer (some ⟨q,0,none⟩):=zem.ptr h (zkM ht) (by rw [zkM hx,hxt]);exact .own _ _ _ _ (by rw [hq];rfl) (by rw [hg];exact yam _) fun _=>⟨q,b8.trans hq,hq⟩
   | lent k =>
    have hb:t∈bl.map (·.1):=by
     rw [c6];have:=zov (xs:=xs) (i:=0) (o:=t) (x:=.lent k) (by rw [zkM hx,hxt]) rfl
     rwa [yae] at this
    obtain ⟨hg,b8⟩:=lent t ht hb;exact .osl _ _ _ (zem.one h (zkM ht) (by rw [zkM hx,hxt])) (by rw [hg];exact yam _) fun _=>b8.symm
  ·rw [ybe (by omega)]
   have e0:(app (app sig0 (zdz tau0 ((zcj tau0 (fun i=>i) 0 (xs.map zro)).2++ss'))) (bxWr bl)).av t=.im .any:=by
    have k1:∀ (bl:List (Nat×LK)) (σ:St),(app σ (bxWr bl)).av t=σ.av t:=by
     intro bl
     induction bl with
     | nil=>intro σ;rfl
     | cons x bl ih =>
      intro σ;obtain ⟨b,x⟩:=x;show (app σ (lkWr b x++bxWr bl)).av t=_;rw [zau,ih,lkWr_av]
    have k2:∀ (l:List (Nat×Kd)) (σ:St),(app σ (zdz tau0 l)).av t=σ.av t:=by
     intro l
     induction l with
     | nil=>intro σ;rfl
     | cons p l ih =>
      intro σ;rw [zdz,zau,ih];exact (mkK_eqs σ tau0 p.1 p.2).2.2.2.1 t
    rw [k1,k2];rfl
   simp only;rw [e0];exact .im _ _ (.any _)
theorem zeo {f:FuncId} {fn:Func} {c:Code} (hf:P.funcs[f]?=some fn) (hname:(fn.name=="runtime.NumGoroutine")=false) (hb:fn.body=some c) (args:Array Value) (w:World):(callFunc f args).run P w=.ok (.enter f args) w:=by
 have h1:fn.name≠"runtime.NumGoroutine":=by simpa using hname
 simp [callFunc,hf,h1,hb]
theorem sp_of_code (hm:P.follows .mixedOrders=true) {C:FuncId->List Arg->Rs->Prop} (hC:∀ g xs r,C g xs r->SpX P g xs r) {own:List Nat} {f:FuncId} {fn:Func} {c:Code} (hf:P.funcs[f]?=some fn) (hname:(fn.name=="runtime.NumGoroutine")=false) (hb:fn.body=some c)
  {xs:List Arg} {r:Rs} (hn:xs.length<=fn.ntmps) (hok:zsw xs=true) (h:∀ w S vs F,zem w S vs xs F->zkk P C fn.ntmps own c (retK P fn.results.toList xs r) (st0 xs)):Sp P f xs r:=by
 refine ⟨fun args w=>zeo hf hname hb args w,fun w S vs F hS a0 a6 hF=>?_⟩;have a3:=a0.len;refine calls_of_wp hf hb (zgr (B:=⟨w,S,fn.ntmps,fun b=>b∈F,fun _=>False,zl3 xs vs,[]⟩) hm hC c _ _ (h w S vs F a0) _ _ (st0_sat w S a0 a6 hF hS fn.ntmps (by rw [a3];exact hn) hok) _ fun e σ' a' w' hk a2=>?_)
 have a5:RetOk P fn.results.toList xs σ' r->a'.defers=[]∧∃ v,(results fn a'.tmps).run P w'=.ok v w'∧∃ (v':Value) (F':List Nat),Ending.returned v=.returned v'∧Belo (fun b=>b∈F) w.heap.size w w' ∧
   zm5 w' (fun b=>(S b∨w.heap.size<=b∨b∈F)∧b<w'.heap.size∧b∉F') v' (bxVs vs xs) r F'∧F'.Nodup∧∀ b∈F',(w.heap.size<=b∨b∈F)∧b<w'.heap.size:=fun hk=>by
  obtain ⟨v,F',hv,a4,h1,h2⟩:=zwi (vs0:=vs) hk a2 a3 fun j v hv=>hv;obtain ⟨ρ,a2⟩:=a2;exact ⟨a2.dfr,v,hv,v,F',rfl,a2.bel,a4,h1,h2⟩
 cases e with
 | ret=>exact a5 hk
 | normal=>exact a5 hk
 | exit id=>exact hk.elim
 | goto l=>exact hk.elim
 | panic ch=>exact hk.elim
 | outgrown=>exact hk.elim
def RetOkB (P:Program) (rs:List ResultVar) (xs:List Arg) (σ:St) (r:Rs):Prop :=
 match resAs P σ rs,r with
 | some ([.agg vs],c),.mk true l ys=>zm1 σ c (match zvo σ l vs,zlq σ 0 xs ys with
  | some (l',bs,gs),some (ys',bs',gs')=>Chk (ndB ((gs++gs').map (·.1)) ((bs++bs').map (·.1))) (zm1 σ ((bs++bs')++(gs++gs')) (l'=l∧ys'=ys))
  | _,_=>False)
 | _,_=>False
def RetOkA (P:Program) (t:TypeId) (rs:List ResultVar) (xs:List Arg) (σ:St) (r:Rs):Prop:=match t with
 | 0=>RetOk P rs xs σ r
 | _=>RetOkB P rs xs σ r
def retKA (P:Program) (t:TypeId) (rs:List ResultVar) (xs:List Arg) (r:Rs):Exit->St->Prop
 | .ret,σ=>RetOkA P t rs xs σ r
 | .normal,σ=>RetOkA P t rs xs σ r
 | _,_=>False
theorem zuy {fn:Func} {xs:List Arg} {vs0:List Value} {r:Rs} {σ:St} {t:TypeId} (h:RetOkA P t fn.results.toList xs σ r) {a:Act} {w:World} (hs:Sat B σ a w) (hl:vs0.length=xs.length) (hL:∀ j v,zl3 xs vs0 j=some v->B.L j=some v) :
  ∃ v u F',(results fn a.tmps).run P w=.ok v w∧RetA t v u∧zm5 w (fun b=>(B.S0 b∨Mine B b)∧b<w.heap.size∧b∉F') u (bxVs vs0 xs) r F'∧F'.Nodup∧∀ b∈F',Mine B b∧b<w.heap.size:=by
 match t,h with
 | 0,h =>
  obtain ⟨v,F',h1,h2⟩:=zwi h hs hl hL;exact ⟨v,v,F',h1,rfl,h2⟩
 | t+1,h =>
 obtain ⟨ρ,hs⟩:=hs;have h:RetOkB P fn.results.toList xs σ r:=h;unfold RetOkB at h;split at h
 ·rename_i vs c l ys b2 _ _;obtain ⟨hg,h⟩:=h.out;obtain ⟨us,b4,hr⟩:=zs0 hs b2 hg
  obtain ⟨a0,rfl,hr,ho⟩:∃ a0:List Value,us=[.agg a0.toArray]∧Reps w (Imm B σ ρ w) ρ σ.gn a0 vs∧∀ u∈a0,u.oneCell'=true:=by
   match us,hr with
   | [],hr=>have:=hr.1;simp at this
   | [u],hr =>
    have h1:=hr.2 0 u (.agg vs) rfl rfl;cases h1 with
    | agg a0 _ hl1 a2 hr1=>exact ⟨a0,rfl,⟨hl1,hr1⟩,a2⟩
   | _::_::_,hr=>have:=hr.1;simp at this
  have a5:(results fn a.tmps).run P w=.ok (.agg a0.toArray) w:=by
   rw [zry,Sem.run_bind,ydj,map_eq_pure_bind,Sem.run_bind,b4];simp only [Result.andThen_ok,Sem.run_pure];rfl
  split at h
  ·rename_i l' bs gs b5 bs' a3 h1 h2;obtain ⟨b3,h⟩:=h.ok;obtain ⟨b0,a8⟩:=zhh b3;obtain ⟨a6,rfl,rfl⟩:=h.out;have a4:∀ p∈bs++bs',σ.gn p.1=p.2:=fun p hp=>a6 p (yai _ hp);have a7:∀ p∈gs++a3,σ.gn p.1=p.2:=fun p hp=>a6 p (yaf _ hp);have r1:=zp4 hs (bs0:=bs++bs') a4 hr h1 (fun p hp=>yai _ hp) fun p hp=>a7 p (yai _ hp);have r2:=zoi hs (bs0:=bs++bs') a4 hl (i:=0) (fun j v hv=>by rw [yae];exact hL j v hv) h2 (fun p hp=>yaf _ hp) fun p hp=>a7 p (yaf _ hp)
   have a9:∀ u x,RepI w (Imm B (app σ (fwr (bs++bs'))) ρ w) u x->RepI w (fun b=>(B.S0 b∨Mine B b)∧b<w.heap.size∧b∉zdp σ ρ gs++zdp σ ρ a3) u x:=fun u x hr=>hr.mono (fun b hb=>⟨hb.1,hb.2.1,fun hf=>by
    rw [<- zfh] at hf
    obtain ⟨p,hp,ho⟩:=zed.1 hf
    refine hb.2.2.1 p.1 ?_
    unfold Owns at ho ⊢
    rw [zly,if_neg (a8 p.1 (yap.2 ⟨p,hp,rfl⟩))]
    exact ho⟩) fun _ _ _ h=>h
   have hn:=ze0 hs b0;rw [zfh] at hn
   have hm:∀ b∈zdp σ ρ gs++zdp σ ρ a3,Mine B b∧b<w.heap.size:=fun b hb=>by
    rw [<- zfh] at hb;obtain ⟨p,hp,ho⟩:=zed.1 hb;exact hs.own p.1 b ho
   exact ⟨_,_,_,a5,⟨a0,rfl,rfl,ho⟩,⟨a0,_,_,rfl,r1.mono a9,r2.mono a9,rfl⟩,hn,hm⟩
  ·exact h.elim
 ·exact h.elim
def entA (n k:Nat) (σ:St):List (Loc×Ct) :=
 (.tmp 0,.av (.agg ((List.range n).map fun j=>σ.av j)))::((List.range k).map (fun j=>(Loc.tmp (1+j),Ct.av (σ.av (n+j))))++(List.range n).map fun j=>(Loc.tmp (k+1+j),Ct.av (.im .any)))
theorem tmps_av (f:Nat->AV) (a:Nat) (t:Nat):∀ (m:Nat) (σ:St),(app σ ((List.range m).map fun j=>(Loc.tmp (a+j),Ct.av (f j)))).av t=if a<=t∧t<a+m then f (t-a) else σ.av t
 | 0,σ=>by
  rw [if_neg (by omega)];rfl
 | m+1,σ=>by
  rw [ydz,ya9,zau];show (upd (app σ ((List.range m).map fun j=>(Loc.tmp (a+j),Ct.av (f j)))) (.tmp (a+m)) (.av (f m))).av t=_;rw [zsc];by_cases h:t=a+m
  ·subst h;rw [if_pos rfl,if_pos (by omega),ycp]
  ·rw [if_neg h,tmps_av f a t m σ];by_cases h2:a<=t∧t<a+m
   ·rw [if_pos h2,if_pos (by omega)]
   ·rw [if_neg h2,if_neg (by omega)]
theorem zug (f:Nat->Loc×Ct) (hf:∀ j,∃ t v,f j=(.tmp t,.av v)):∀ (l:List Nat) (σ:St),zio σ (app σ (l.map f))
 | [],_=>⟨rfl,rfl,rfl,rfl⟩
 | j::l,σ=>by
  obtain ⟨t,v,e⟩:=hf j;rw [yan,e,zb2];have h1:=zio.tmp σ t (.av v);have h2:=zug f hf l (upd σ (.tmp t) (.av v));exact ⟨h2.gn.trans h1.gn,h2.ig.trans h1.ig,h2.kd.trans h1.kd,h2.ce.trans h1.ce⟩
theorem entA_av (n k t:Nat) (σ τ:St):(app σ (entA n k τ)).av t=if k+1<=t∧t<k+1+n then .im .any else if 1<=t∧t<1+k then τ.av (n+(t-1)) else if t=0 then .agg ((List.range n).map fun j=>τ.av j) else σ.av t:=by
 unfold entA;rw [zb2,zau,tmps_av (fun _=>.im .any),tmps_av (fun j=>τ.av (n+j)),zsc]
theorem entA_same (n k:Nat) (σ τ:St):zio σ (app σ (entA n k τ)):=by
 unfold entA;rw [zb2,zau];have h1:=zio.tmp σ 0 (.av (.agg ((List.range n).map fun j=>τ.av j)));have h2:=zug (fun j=>(Loc.tmp (1+j),Ct.av (τ.av (n+j)))) (fun j=>⟨_,_,rfl⟩) (List.range k) (upd σ (.tmp 0) (.av (.agg ((List.range n).map fun j=>τ.av j))));have h3:=zug (fun j=>(Loc.tmp (k+1+j),Ct.av (.im .any))) (fun j=>⟨_,_,rfl⟩) (List.range n) (app (upd σ (.tmp 0) (.av (.agg ((List.range n).map fun j=>τ.av j)))) ((List.range k).map fun j=>(Loc.tmp (1+j),Ct.av (τ.av (n+j)))));exact ⟨h3.gn.trans (h2.gn.trans h1.gn),h3.ig.trans (h2.ig.trans h1.ig),h3.kd.trans (h2.kd.trans h1.kd),h3.ce.trans (h2.ce.trans h1.ce)⟩
theorem pad_getD (vs:List Value) (N t:Nat):(vs.toArray++Array.replicate N undef).getD t undef=vs.getD t undef:=by
 simp only [yck,ya7];by_cases h:t<vs.length
 ·rw [yd4 (by simpa using h)];simp
 ·rw [Array.getElem?_append_right (by simp;omega),ybe (by omega),Array.getElem?_replicate];split<;>rfl
theorem st0A_sat (w:World) (S:Nat->Prop) {us vs:List Value} {xs:List Arg} {F:List Nat} (h:zem w S (us++vs) xs F) (h1:∀ u∈us,u.oneCell'=true) (hnd:F.Nodup) (hF:∀ b∈F,¬ S b∧b<w.heap.size) (hS:∀ b,S b->b<w.heap.size) (N:Nat) (hn:xs.length<=N) (hn2:vs.length+1<=N) (hok:zsw xs=true) :
  Sat ⟨w,S,N,fun b=>b∈F,fun _=>False,zl3 xs (us++vs),[]⟩ (app (st0 xs) (entA us.length vs.length (st0 xs))) { tmps:=(.agg us.toArray::vs).toArray++Array.replicate (N-(.agg us.toArray::vs).toArray.size) undef,defers:=[] } w:=by
 have a0:=h.len;obtain ⟨ρ,hs⟩:=st0_sat w S h hnd hF hS N (by omega) hok;refine ⟨ρ,hs.slots (entA_same _ _ _ _) (fun t=>?_) (by simp;omega) rfl⟩;rw [entA_av]
 have hv:∀ t,RepA w (Imm ⟨w,S,N,fun b=>b∈F,fun _=>False,zl3 xs (us++vs),[]⟩ (st0 xs) ρ w) ρ (st0 xs).gn ((us++vs).getD t undef) ((st0 xs).av t):=fun t=>by
  have:=hs.tms t;rw [pad_getD] at this;exact this
 simp only [pad_getD];by_cases c1:vs.length+1<=t∧t<vs.length+1+us.length
 ·rw [if_pos c1];exact .im _ _ (.any _)
 ·rw [if_neg c1];by_cases c2:1<=t∧t<1+vs.length
  ·rw [if_pos c2];have:=hv (us.length+(t-1));obtain ⟨j,rfl⟩:∃ j,t=j+1:=⟨t-1,by omega⟩;rw [yd3] at this ⊢
   have e:(us++vs).getD (us.length+j) undef=(Value.agg us.toArray::vs).getD (j+1) undef:=by
    simp only [ya7];rw [ya5 (by omega),ycp];rfl
   rw [<- e];exact this
  ·rw [if_neg c2];by_cases c3:t=0
   ·subst c3;rw [if_pos rfl];refine .agg us _ (by simp) h1 fun i u x hu hx=>?_;have hi:=(zkI.1 hu).1;rw [yat,yb6 hi] at hx;simp only [yaj,zkF] at hx;subst hx;have:=hv i
    have e:(us++vs).getD i undef=u:=by
     simp only [ya7];rw [ya2 hi,hu];rfl
    rw [e] at this;exact this
   ·rw [if_neg c3];have:=hv t
    have e:(us++vs).getD t undef=(Value.agg us.toArray::vs).getD t undef:=by
     simp only [ya7];rw [ybe (by rw [zkJ];omega),ybe (by rw [zkL];omega)]
    rw [<- e];exact this
theorem sp_ofT_code (hm:P.follows .mixedOrders=true) {C:FuncId->List Arg->Rs->Prop} (hC:∀ g xs r,C g xs r->SpX P g xs r) {own:List Nat} {f:FuncId} {fn:Func} {c:Code} (hf:P.funcs[f]?=some fn) (hname:(fn.name=="runtime.NumGoroutine")=false) (hb:fn.body=some c)
  {xs:List Arg} {r:Rs} (hn:xs.length<=fn.ntmps) (hok:zsw xs=true) (h:∀ w S vs F,zem w S vs xs F->zkk P C fn.ntmps own c (retKA P 1 fn.results.toList xs r) (st0 xs)):SpX P f (.lent .dead::.ow .dead::xs) r:=by
 refine ⟨fun args w=>zeo hf hname hb args w,fun w S vs F hS a0 a7 hF=>?_⟩;have a3:=a0.len;refine calls_of_wp hf hb (zgr (B:=⟨w,S,fn.ntmps,fun b=>b∈F,fun _=>False,zl3 xs vs,[]⟩) hm hC c _ _ (h w S vs F a0) _ _ (st0_sat w S a0 a7 hF hS fn.ntmps (by rw [a3];exact hn) hok) _ fun e σ' a' w' hk a2=>?_)
 have a6:RetOkA P 1 fn.results.toList xs σ' r->a'.defers=[]∧∃ v,(results fn a'.tmps).run P w'=.ok v w'∧∃ (v' u:Value) (F':List Nat),Ending.returned v=.returned v'∧RetA 1 v' u∧Belo (fun b=>b∈F) w.heap.size w w' ∧
   zm5 w' (fun b=>(S b∨w.heap.size<=b∨b∈F)∧b<w'.heap.size∧b∉F') u (bxVs vs xs) r F'∧F'.Nodup∧∀ b∈F',(w.heap.size<=b∨b∈F)∧b<w'.heap.size:=fun hk=>by
  obtain ⟨v,u,F',hv,a5,a4,h1,h2⟩:=zuy (vs0:=vs) hk a2 a3 fun j v hv=>hv;obtain ⟨ρ,a2⟩:=a2;exact ⟨a2.dfr,v,hv,v,u,F',rfl,a5,a2.bel,a4,h1,h2⟩
 cases e with
 | ret=>exact a6 hk
 | normal=>exact a6 hk
 | exit id=>exact hk.elim
 | goto l=>exact hk.elim
 | panic ch=>exact hk.elim
 | outgrown=>exact hk.elim
theorem sp_ofA_code (hm:P.follows .mixedOrders=true) {C:FuncId->List Arg->Rs->Prop} (hC:∀ g xs r,C g xs r->SpX P g xs r) {own:List Nat} {f:FuncId} {fn:Func} {c:Code} (hf:P.funcs[f]?=some fn) (hname:(fn.name=="runtime.NumGoroutine")=false) (hb:fn.body=some c)
  {t:TypeId} {l:List Oc} {k:Nat} {xs:List Arg} {r:Rs} (hl:l.length+k=xs.length) (hn:xs.length<=fn.ntmps) (hn2:k+1<=fn.ntmps) (hok:zsw xs=true) (h:∀ w S vs F,zem w S vs xs F->zkk P C fn.ntmps own c (retKA P t fn.results.toList xs r) (app (st0 xs) (entA l.length k (st0 xs)))):SpX P f (.lent .dead::.box t l::xs) r:=by
 refine ⟨fun args w=>zeo hf hname hb args w,fun w S us vs F hS a0 hu h1 a7 hF=>?_⟩;have a3:=a0.len;rw [zkJ] at a3;have hk:k=vs.length:=by omega
 subst hk;have a8:=st0A_sat w S a0 h1 a7 hF hS fn.ntmps hn hn2 hok;have h:=h w S _ F a0;rw [<- hu] at h;refine calls_of_wp hf hb (zgr (B:=⟨w,S,fn.ntmps,fun b=>b∈F,fun _=>False,zl3 xs (us++vs),[]⟩) hm hC c _ _ h _ _ a8 _ fun e σ' a' w' hk a2=>?_)
 have a6:RetOkA P t fn.results.toList xs σ' r->a'.defers=[]∧∃ v,(results fn a'.tmps).run P w'=.ok v w'∧∃ (v' u:Value) (F':List Nat),Ending.returned v=.returned v'∧RetA t v' u∧Belo (fun b=>b∈F) w.heap.size w w' ∧
   zm5 w' (fun b=>(S b∨w.heap.size<=b∨b∈F)∧b<w'.heap.size∧b∉F') u (bxVs (us++vs) xs) r F'∧F'.Nodup∧∀ b∈F',(w.heap.size<=b∨b∈F)∧b<w'.heap.size:=fun hk=>by
  obtain ⟨v,u,F',hv,a5,a4,h1,h2⟩:=zuy (vs0:=us++vs) hk a2 a0.len fun j v hv=>hv;obtain ⟨ρ,a2⟩:=a2;exact ⟨a2.dfr,v,hv,v,u,F',rfl,a5,a2.bel,a4,h1,h2⟩
 cases e with
 | ret=>exact a6 hk
 | normal=>exact a6 hk
 | exit id=>exact hk.elim
 | goto l=>exact hk.elim
 | panic ch=>exact hk.elim
 | outgrown=>exact hk.elim
def RetOkP (P:Program) (rs:List ResultVar) (σ:St) (r:Rs):Prop :=
 match resAs P σ rs,r with
 | some ([.own o g 0],[]),.mk true [] [.box t cs]=>match σ.kd o,zvo σ cs (zqa σ o) with
  | .box t' _,some (cs',[],[])=>Side (σ.gn o=g) (t'=t∧cs'=cs)
  | _,_=>False
 | _,_=>False
def retKP (P:Program) (rs:List ResultVar) (r:Rs):Exit->St->Prop
 | .ret,σ=>RetOkP P rs σ r
 | .normal,σ=>RetOkP P rs σ r
 | _,_=>False
theorem results_okP {fn:Func} {r:Rs} {σ:St} (h:RetOkP P fn.results.toList σ r) {a:Act} {w:World} (hs:Sat B σ a w) :
  ∃ v F',(results fn a.tmps).run P w=.ok v w∧zm5 w (fun b=>(B.S0 b∨Mine B b)∧b<w.heap.size∧b∉F') (.tuple #[]) [v] r F'∧F'.Nodup∧∀ b∈F',Mine B b∧b<w.heap.size:=by
 obtain ⟨ρ,hs⟩:=hs;unfold RetOkP at h;split at h
 ·rename_i o g t cs a7;split at h
  ·rename_i t' m b0 hk a6;obtain ⟨hg,rfl,rfl⟩:=h.out;obtain ⟨us,a8,hr⟩:=zs0 hs a7 fun p hp=>by cases hp
   obtain ⟨u,rfl,hu⟩:∃ u,us=[u]∧RepA w (Imm B σ ρ w) ρ σ.gn u (.own o g 0):=by
    match us,hr with
    | [],hr=>have:=hr.1;simp at this
    | [u],hr=>exact ⟨u,rfl,hr.2 0 u _ rfl rfl⟩
    | _::_::_,hr=>have:=hr.1;simp at this
   cases hu with
   | own _ _ _ _ h1 hg' hb =>
   obtain ⟨b,a0,rfl⟩:=hb hg;have ho:=hs.obs o;rw [hk] at ho;obtain ⟨q,a4,e1,e2,e3,e4,e5⟩:=ho
   have eb:q=b:=by
    rw [e1] at a0;injection a0 with a0
    injection a0 with a0
    injection a0
   subst eb;have a3:=zoq (σ:=σ) (b:=o) (us:=a4) (t:=t') (by rw [e3];exact hk) e5;have a9:=zp4 hs (bs0:=[]) (fun p hp=>by cases hp) a3 a6 (fun p hp=>by cases hp) fun p hp=>by cases hp
   have a2:Owns σ ρ o q:=by
    unfold Owns;rw [hk,e1];exact yaw.2 rfl
   have a5:(results fn a.tmps).run P w=.ok (.pointer (some ⟨q,0,none⟩)) w:=by
    rw [zry,Sem.run_bind,ydj,map_eq_pure_bind,Sem.run_bind,a8];simp only [Result.andThen_ok,Sem.run_pure];rfl
   refine ⟨_,[q],a5,⟨[],[],[q],rfl,rfl,⟨[q],[],⟨q,a4,[],rfl,e2,e4,?_,rfl⟩,rfl,rfl⟩,rfl⟩,by simp,fun c hc=>?_⟩
   ·exact zlp.mono (fun v x hv=>hv.mono (fun c hc=>⟨hc.1,hc.2.1,fun hm=>by
     rw [yaw] at hm
     subst hm
     exact hc.2.2.1 o a2⟩) fun _ _ _ h=>h) a9
   ·rw [yaw] at hc;subst hc;exact hs.own o _ a2
  ·exact h.elim
 ·exact h.elim
theorem sp_ofP_code (hm:P.follows .mixedOrders=true) {C:FuncId->List Arg->Rs->Prop} (hC:∀ g xs r,C g xs r->SpX P g xs r) {own:List Nat} {f:FuncId} {fn:Func} {c:Code} (hf:P.funcs[f]?=some fn) (hname:(fn.name=="runtime.NumGoroutine")=false) (hb:fn.body=some c)
  {xs:List Arg} {r:Rs} (hn:xs.length<=fn.ntmps) (hok:zsw xs=true) (h:∀ w S vs F,zem w S vs xs F->zkk P C fn.ntmps own c (retKP P fn.results.toList r) (st0 xs)):SpX P f (.lent .dead::.lent .dead::xs) r:=by
 refine ⟨fun args w=>zeo hf hname hb args w,fun w S vs F hS a0 a6 hF=>?_⟩;have a3:=a0.len;refine calls_of_wp hf hb (zgr (B:=⟨w,S,fn.ntmps,fun b=>b∈F,fun _=>False,zl3 xs vs,[]⟩) hm hC c _ _ (h w S vs F a0) _ _ (st0_sat w S a0 a6 hF hS fn.ntmps (by rw [a3];exact hn) hok) _ fun e σ' a' w' hk a2=>?_)
 have a5:RetOkP P fn.results.toList σ' r->a'.defers=[]∧∃ v,(results fn a'.tmps).run P w'=.ok v w'∧∃ (v':Value) (F':List Nat),Ending.returned v=.returned v'∧Belo (fun b=>b∈F) w.heap.size w w' ∧
   zm5 w' (fun b=>(S b∨w.heap.size<=b∨b∈F)∧b<w'.heap.size∧b∉F') (.tuple #[]) [v'] r F'∧F'.Nodup∧∀ b∈F',(w.heap.size<=b∨b∈F)∧b<w'.heap.size:=fun hk=>by
  obtain ⟨v,F',hv,a4,h1,h2⟩:=results_okP hk a2;obtain ⟨ρ,a2⟩:=a2;exact ⟨a2.dfr,v,hv,v,F',rfl,a2.bel,a4,h1,h2⟩
 cases e with
 | ret=>exact a5 hk
 | normal=>exact a5 hk
 | exit id=>exact hk.elim
 | goto l=>exact hk.elim
 | panic ch=>exact hk.elim
 | outgrown=>exact hk.elim
end
end
section
def lookA:List (Nat×AV)->Nat->AV
 | [],_=>.im .any
 | p::l,t=>match Nat.beq t p.1 with | true=>p.2 | false=>lookA l t
def zrq:List (Nat×Kd)->Nat->Kd
 | [],_=>.dead
 | p::l,t=>match Nat.beq t p.1 with | true=>p.2 | false=>zrq l t
def lookC:List (Nat×Nat×AV)->Nat->Nat->AV
 | [],_,_=>.im .any
 | p::l,o,i=>match Nat.beq o p.1&&Nat.beq i p.2.1 with | true=>p.2.2 | false=>lookC l o i
def gnM:List (Nat×Kd)->Nat->Nat
 | [],_=>1
 | p::l,o=>match Nat.beq o p.1 with | true=>(match Nat.blt o 64 with | true=>0 | false=>1) | false=>gnM l o
def mkSt (avs:List (Nat×AV)) (kds:List (Nat×Kd)) (cels:List (Nat×Nat×AV)):St:=fun l=>match l with
 | .tmp t=>.av (lookA avs t)
 | .gen o=>.n (gnM kds o)
 | .ign _=>.n 0
 | .knd o=>.kd (zrq kds o)
 | .cel o i=>.av (lookC cels o i)
inductive Sub:AV->AV->Prop
 | refl (a:AV):Sub a a
 | any (a:AV):Sub a (.im .any)
 | nz (x:IV):Sub (.im x) (.im (Sym.nz x))
theorem RepA.less {w:World} {S:Nat->Prop} {ρ:Ly} {γ:Nat->Nat} {v:Value} {x y:AV} (h:RepA w S ρ γ v x) (s:Sub x y):RepA w S ρ γ v y:=by
 cases s with
 | refl=>exact h
 | any=>exact .im _ _ (.any _)
 | nz x=>exact .im _ _ (nz_rep h.im_inv)
theorem Sub.rfl' {a b:AV} (h:a=b):Sub a b:=h ▸ .refl _
theorem Sub.nz' {x y:IV} (h:Sym.nz x=y):Sub (.im x) (.im y):=h ▸ .nz x
def zh4:List (Nat×Option Nat)->Nat->Option (Option Nat)
 | [],_=>none
 | p::l,b=>match Nat.beq b p.1 with | true=>some p.2 | false=>zh4 l b
def srcs:List (Nat×Option Nat)->List Nat
 | []=>[]
 | (_,some a)::l=>a::srcs l
 | (_,none)::l=>srcs l
mutual
inductive SubR (σ:St) (src:List (Nat×Option Nat)) (γ:Nat->Nat):AV->AV->Prop
 | im {a:AV} {b:IV} (h:Sub a (.im b)):SubR σ src γ a (.im b)
 | osl {a b g g':Nat} (h:zh4 src b=some (some a)) (hg:σ.gn a=g) (hg':γ b=g'):SubR σ src γ (.osl a g) (.osl b g')
 | osv {a b g g' k m:Nat} (h:zh4 src b=some (some a)) (hg:σ.gn a=g) (hg':γ b=g'):SubR σ src γ (.osv a g k m) (.osv b g' k m)
 | made {b g':Nat} (h:zh4 src b=some none) (hg':γ b=g'):SubR σ src γ (.im (.val (.slice none 0 0))) (.osl b g')
 | own {a b g g' i:Nat} (h:zh4 src b=some (some a)) (hg:σ.gn a=g) (hg':γ b=g'):SubR σ src γ (.own a g i) (.own b g' i)
 | elt {a b g g' k i j:Nat} (h:zh4 src b=some (some a)) (hg:σ.gn a=g) (hg':γ b=g'):SubR σ src γ (.elt a g k i j) (.elt b g' k i j)
 | sub {a b g i:Nat} (h:zh4 src b=some (some a)) (hg:σ.ig a=g):SubR σ src γ (.sub a g i) (.sub b 0 i)
 | fn {f:FuncId} {cs ds:List AV} (h:zvg σ src γ cs ds):SubR σ src γ (.fn f cs) (.fn f ds)
 | agg {cs ds:List AV} (h:zvg σ src γ cs ds):SubR σ src γ (.agg cs) (.agg ds)
inductive zvg (σ:St) (src:List (Nat×Option Nat)) (γ:Nat->Nat):List AV->List AV->Prop
 | nil:zvg σ src γ [] []
 | cons {c d:AV} {cs ds:List AV} (h:SubR σ src γ c d) (t:zvg σ src γ cs ds):zvg σ src γ (c::cs) (d::ds)
end
section
variable {w:World} {S S':Nat->Prop} {σ:St} {ρ ρ':Ly} {src:List (Nat×Option Nat)} {γ:Nat->Nat}
mutual
theorem SubR.rep (hI:∀ v x,RepI w S v x->RepI w S' v x) (hρ:∀ b a,zh4 src b=some (some a)->ρ' b=ρ a∧ρ'.inn b=ρ.inn a) (hn:∀ b,zh4 src b=some none->ρ' b=.slice none 0 0) (hig:(∀ o,ρ.ig o=σ.ig o)∧∀ o,ρ'.ig o=0) :
  ∀ {x y:AV},SubR σ src γ x y->∀ {v:Value},RepA w S ρ σ.gn v x->RepA w S' ρ' γ v y
 | x,_,.im h,v,hr=>.im _ _ (hI _ _ (hr.less h).im_inv)
 | _,_,.osl h hg hg',v,hr=>by
  cases hr with
  | osl _ _ _ h1 h2 h3=>exact .osl _ _ _ h1 (yc1 hg'.symm) fun _=>by rw [(hρ _ _ h).1];exact h3 hg
 | _,_,.osv h hg hg',v,hr=>by
  cases hr with
  | osv _ _ _ _ _ h1 h2 h3=>exact .osv _ _ _ _ _ h1 (yc1 hg'.symm) fun _=>by rw [(hρ _ _ h).1];exact h3 hg
 | _,_,.made h hg',v,hr=>by
  cases hr.im_inv with
  | val _=>exact .osl _ _ _ rfl (yc1 hg'.symm) fun _=>(hn _ h).symm
 | _,_,.own h hg hg',v,hr=>by
  cases hr with
  | own _ _ _ _ h1 h2 h3=>exact .own _ _ _ _ h1 (yc1 hg'.symm) fun _=>by rw [(hρ _ _ h).1];exact h3 hg
 | _,_,.elt h hg hg',v,hr=>by
  cases hr with
  | elt _ _ _ _ _ _ h1 h2 h3=>exact .elt _ _ _ _ _ _ h1 (yc1 hg'.symm) fun _=>by rw [(hρ _ _ h).1];exact h3 hg
 | _,_,.sub h hg,v,hr=>by
  cases hr with
  | sub _ _ _ _ h1 h2 h3=>exact .sub _ _ _ _ h1 (yas _) fun _=>by rw [(hρ _ _ h).2];exact h3 ((hig.1 _).trans hg)
 | _,_,.fn h,v,hr=>by
  cases hr with
  | fn _ us _ hl h1 =>
   have:=zvg.rep hI hρ hn hig h ⟨hl,h1⟩;exact .fn _ _ _ this.1 this.2
 | _,_,.agg h,v,hr=>by
  cases hr with
  | agg us _ hl h0 h1 =>
   have:=zvg.rep hI hρ hn hig h ⟨hl,h1⟩;exact .agg _ _ this.1 h0 this.2
theorem zvg.rep (hI:∀ v x,RepI w S v x->RepI w S' v x) (hρ:∀ b a,zh4 src b=some (some a)->ρ' b=ρ a∧ρ'.inn b=ρ.inn a) (hn:∀ b,zh4 src b=some none->ρ' b=.slice none 0 0) (hig:(∀ o,ρ.ig o=σ.ig o)∧∀ o,ρ'.ig o=0) :
  ∀ {xs ys:List AV},zvg σ src γ xs ys->∀ {us:List Value},Reps w S ρ σ.gn us xs->Reps w S' ρ' γ us ys
 | _,_,.nil,us,hr=>⟨hr.1,fun i u x hu hx=>by simp at hx⟩
 | _,_,.cons h t,[],hr=>by have:=hr.1;simp at this
 | _,_,.cons h t,u::us,hr=>by
  have h1:=SubR.rep hI hρ hn hig h (hr.2 0 u _ rfl rfl);have h2:=zvg.rep hI hρ hn hig t (us:=us) ⟨by simpa using hr.1,fun i u x hu hx=>hr.2 (i+1) u x (by simpa using hu) (by simpa using hx)⟩;refine ⟨by simp [h2.1],fun i v x hv hx=>?_⟩;cases i with
  | zero=>simp at hv hx;subst hv hx;exact h1
  | succ i=>exact h2.2 i v x (by simpa using hv) (by simpa using hx)
end
end
def SubL (σ:St) (src:List (Nat×Option Nat)) (γ:Nat->Nat):List (Nat×AV)->Prop
 | []=>True
 | p::l=>(∃ x,σ.av p.1=x∧SubR σ src γ x p.2)∧SubL σ src γ l
def KeepOk (σ:St) (o a:Nat):Prop:=match Nat.blt o 64 with | true=>a=o∧σ.gn a=0 | false=>True
def NilKd (o:Nat) (k:Kd):Prop:=Nat.blt o 64=false∧((∃ e m,k=.row e m []∧0<m)∨(∃ e e' m,k=.grid e e' m [] none)∨∃ t e m,k=.bag t e m [] none)
def KdL (σ:St) (src:List (Nat×Option Nat)):List (Nat×Kd)->Prop
 | []=>True
 | p::l=>((∃ a,zh4 src p.1=some (some a)∧σ.kd a=p.2∧KeepOk σ p.1 a)∨(zh4 src p.1=some none∧NilKd p.1 p.2))∧KdL σ src l
def CeL (σ:St) (src:List (Nat×Option Nat)) (γ:Nat->Nat):List (Nat×Nat×AV)->Prop
 | []=>True
 | p::l=>(∃ a x,zh4 src p.1=some (some a)∧σ.ce a p.2.1=x∧SubR σ src γ x p.2.2)∧CeL σ src γ l
theorem lookA_sub {σ:St} {src:List (Nat×Option Nat)} {γ:Nat->Nat}:∀ {avs:List (Nat×AV)},SubL σ src γ avs->∀ t,SubR σ src γ (σ.av t) (lookA avs t)
 | [],_,t=>.im (.any _)
 | p::l,h,t=>by
  unfold lookA;split
  ·rename_i e;have e:=yag e;subst e;obtain ⟨x,h1,h2⟩:=h.1;rw [h1];exact h2
  ·exact lookA_sub h.2 t
theorem zth {σ:St} {src:List (Nat×Option Nat)} {γ:Nat->Nat}:∀ {cels:List (Nat×Nat×AV)},CeL σ src γ cels->∀ b a i,zh4 src b=some (some a)->SubR σ src γ (σ.ce a i) (lookC cels b i)
 | [],_,b,a,i,_=>.im (.any _)
 | p::l,h,b,a,i,hs=>by
  unfold lookC;split
  ·rename_i e;rw [yar] at e;have e1:=yag e.1;have e2:=yag e.2;subst e1 e2;obtain ⟨a',x,h1,h3,h2⟩:=h.1;rw [hs] at h1;injection h1 with h1
   injection h1 with h1
   subst h1;rw [h3];exact h2
  ·exact zth h.2 b a i hs
theorem zup {σ:St} {src:List (Nat×Option Nat)}:∀ {kds:List (Nat×Kd)},KdL σ src kds->∀ o,zrq kds o≠.dead ->
  (∃ a,zh4 src o=some (some a)∧σ.kd a=zrq kds o∧KeepOk σ o a)∨(zh4 src o=some none∧NilKd o (zrq kds o))
 | [],_,o,h=>absurd rfl h
 | p::l,h,o,hd=>by
  unfold zrq at hd ⊢;split
  ·rename_i e;have e:=yag e;subst e;exact h.1
  ·rename_i e;rw [e] at hd;exact zup h.2 o hd
theorem gnM_keep {σ:St} {src:List (Nat×Option Nat)}:∀ {kds:List (Nat×Kd)},KdL σ src kds->∀ o,gnM kds o=0->zh4 src o=some (some o)∧σ.gn o=0
 | [],_,o,h=>by simp [gnM] at h
 | p::l,h,o,hg=>by
  unfold gnM at hg;split at hg
  ·rename_i e;have e:=yag e;subst e;split at hg
   ·rename_i hb;rcases h.1 with ⟨a,h1,_,h3⟩ | ⟨_,h3,_⟩
    ·unfold KeepOk at h3;rw [hb] at h3;obtain ⟨rfl,h4⟩:=h3;exact ⟨h1,h4⟩
    ·rw [hb] at h3;cases h3
   ·cases hg
  ·exact gnM_keep h.2 o hg
theorem zqg:∀ {src:List (Nat×Option Nat)} {b a:Nat},zh4 src b=some (some a)->a∈srcs src
 | [],b,a,h=>by cases h
 | (c,o)::l,b,a,h=>by
  unfold zh4 at h;split at h
  ·simp only [zkF] at h;subst h;simp [srcs]
  ·cases o with
   | none=>exact zqg (src:=l) h
   | some d=>exact yay _ (zqg h)
theorem zut:∀ {src:List (Nat×Option Nat)},(srcs src).Nodup->∀ {b c a:Nat},zh4 src b=some (some a)->zh4 src c=some (some a)->b=c
 | [],_,b,c,a,h,_=>by cases h
 | (d,o)::l,hn,b,c,a,h,k=>by
  unfold zh4 at h k;cases o with
  | none =>
   split at h
   ·cases h
   ·split at k
    ·cases k
    ·exact zut (src:=l) hn h k
  | some q =>
   obtain ⟨h1,h2⟩:=ybj.1 hn;split at h
   ·rename_i e1;simp only [zkF] at h;subst h;split at k
    ·rename_i e2;rw [yag e1,yag e2]
    ·exact absurd (zqg k) h1
   ·split at k
    ·simp only [zkF] at k;subst k;exact absurd (zqg h) h1
    ·exact zut h2 h k
theorem Ent.trans {σ σ' σ'':St} (h:Ent σ σ') (k:Ent σ' σ''):Ent σ σ'':=fun B a w hs=>k B a w (h B a w hs)
theorem Ent.mk {σ:St} {avs:List (Nat×AV)} {kds:List (Nat×Kd)} {cels:List (Nat×Nat×AV)} (src:List (Nat×Option Nat)) (hn:ndB (srcs src) []=true) (ha:SubL σ src (gnM kds) avs) (hk:KdL σ src kds) (hc:CeL σ src (gnM kds) cels):Ent σ (mkSt avs kds cels):=by
 rintro B a w ⟨ρ,hs⟩;have a4:=(zhh hn).1
 let ρ':Ly:=⟨fun b=>match zh4 src b with | some (some a)=>ρ a | _=>.slice none 0 0,fun b=>match zh4 src b with | some (some a)=>ρ.inn a | _=>[],fun _=>0⟩
 have hρ:∀ b a,zh4 src b=some (some a)->ρ' b=ρ a∧ρ'.inn b=ρ.inn a:=fun b a h=>by simp only [ρ',h];exact ⟨trivial,trivial⟩
 have hρn:∀ b,zh4 src b=some none->ρ' b=.slice none 0 0:=fun b h=>by simp only [ρ',h]
 have hρi:∀ b,zh4 src b=some none->ρ'.inn b=[]:=fun b h=>by simp only [ρ',h]
 have a2:∀ o,(mkSt avs kds cels).kd o=zrq kds o:=fun _=>rfl
 have a0:∀ o q,Owns (mkSt avs kds cels) ρ' o q->∃ a,zh4 src o=some (some a)∧Owns σ ρ a q:=fun o q hq=>by
  rcases zup hk o hq.lv with ⟨a,h1,h2,_⟩ | ⟨h1,_,h2⟩
  ·refine ⟨a,h1,?_⟩;unfold Owns at hq ⊢;rw [a2,(hρ o a h1).1,(hρ o a h1).2] at hq;rw [h2];exact hq
  ·unfold Owns at hq;rw [a2,hρn o h1,hρi o h1] at hq;rcases h2 with ⟨e,m,h2,_⟩ | ⟨e,e',m,h2⟩ | ⟨t,e,m,h2⟩
   ·rw [h2] at hq;simp [fpk,zbm] at hq
   ·rw [h2] at hq;simp [fpk,fpv,zbm] at hq
   ·rw [h2] at hq;simp [fpk,fpv,zbm] at hq
 have hS:∀ b,Imm B σ ρ w b->Imm B (mkSt avs kds cels) ρ' w b:=fun b hi=>⟨hi.1,hi.2.1,fun o hq=>by
  obtain ⟨a,_,h2⟩:=a0 o b hq
  exact hi.2.2.1 a h2,hi.2.2.2⟩
 have hI:∀ v x,RepI w (Imm B σ ρ w) v x->RepI w (Imm B (mkSt avs kds cels) ρ' w) v x:=fun v x hr=>hr.mono hS fun _ _ _ h=>h;have hA:∀ {x y:AV},SubR σ src (gnM kds) x y->∀ {v:Value},RepA w (Imm B σ ρ w) ρ σ.gn v x->RepA w (Imm B (mkSt avs kds cels) ρ' w) ρ' (mkSt avs kds cels).gn v y:=fun h _ hr=>SubR.rep hI hρ hρn ⟨hs.igs,fun _=>rfl⟩ h hr;refine ⟨ρ',hs.bel,fun o=>?_,fun o b ho=>?_,fun o p b h1 h2=>?_,fun t=>hA (lookA_sub ha t) (hs.tms t),fun _=>rfl,fun b hb=>⟨(hs.res b hb).1,fun o ho=>?_⟩,fun o v hl hg=>?_,hs.siz,hs.dfr⟩
 ·rw [a2]
  have nil:zh4 src o=some none->NilKd o (zrq kds o)->zne B (mkSt avs kds cels) ρ' w o (zrq kds o):=fun h1 ⟨_,h2⟩=>by
   rcases h2 with ⟨e,m,h2,h3⟩ | ⟨e,e',m,h2⟩ | ⟨t,e,m,h2⟩
   ·rw [h2];show zjs w _ (ρ' o) e m [];rw [hρn o h1];exact ⟨[],h3,by simp,by simp,World.ownsRow_nil _ _ _ _,rfl,by simp,by simp⟩
   ·rw [h2];show zlj w _ (ρ' o) (ρ'.inn o) e e' m [] none;rw [hρn o h1,hρi o h1];exact ⟨yb8,rfl,[],yas _,World.ownsRow_nil _ _ _ _,by simp,fun i u hu=>by simp at hu⟩
   ·rw [h2];show zsq w _ (ρ' o) (ρ'.inn o) t e m []∧_;rw [hρn o h1,hρi o h1];exact ⟨⟨rfl,yb8,[],rfl,rfl,fun i g row hg _=>by simp at hg⟩,fun p hp=>by cases hp⟩
  have a3:∀ a,zh4 src o=some (some a)->σ.kd a=zrq kds o->zne B (mkSt avs kds cels) ρ' w o (zrq kds o):=fun a h1 h2=>by
   have ho:=hs.obs a;rw [h2] at ho;obtain ⟨e1,e2⟩:=hρ o a h1;cases e:zrq kds o with
   | dead=>trivial
   | box t m =>
    rw [e] at ho;obtain ⟨b,us,h3,h4,h5,h6,h7⟩:=ho;exact ⟨b,us,e1.trans h3,h4,h5,h6,fun i u hu=>hA (zth hc o a i h1) (h7 i u hu)⟩
   | row t k es =>
    rw [e] at ho;show zd9 w (Imm B (mkSt avs kds cels) ρ' w) (ρ' o) (ρ'.inn o) (.row t k es);rw [e1,e2];exact zd9.mono (k:=.row t k es) ho (fun _ _=>rfl) hI
   | grid t t' k gs q =>
    rw [e] at ho;show zd9 w (Imm B (mkSt avs kds cels) ρ' w) (ρ' o) (ρ'.inn o) (.grid t t' k gs q);rw [e1,e2];exact zd9.mono (k:=.grid t t' k gs q) ho (fun _ _=>rfl) hI
   | map l =>
    rw [e] at ho;show zd9 w (Imm B (mkSt avs kds cels) ρ' w) (ρ' o) (ρ'.inn o) (.map l);rw [e1,e2];exact zd9.mono (k:=.map l) ho (fun _ _=>rfl) hI
   | bag ty te m l q =>
    rw [e] at ho;show zsq w (Imm B (mkSt avs kds cels) ρ' w) (ρ' o) (ρ'.inn o) ty te m l∧_;rw [e1,e2];exact ⟨zsq.mono ho.1 (fun _ _=>rfl) hI,fun p hp=>hA (zth hc o a 0 h1) (ho.2 p hp)⟩
   | mapI l c =>
    rw [e] at ho;show GoOk w (Imm B (mkSt avs kds cels) ρ' w) (ρ' o) (ρ'.inn o) l c;rw [e1,e2];exact GoOk.mono ho (fun _ _=>rfl) hI
   | que t k es =>
    rw [e] at ho;show zd9 w (Imm B (mkSt avs kds cels) ρ' w) (ρ' o) (ρ'.inn o) (.que t k es);rw [e1,e2];exact zd9.mono (k:=.que t k es) ho (fun _ _=>rfl) hI
  by_cases hd:zrq kds o=.dead
  ·rw [hd];trivial
  ·rcases zup hk o hd with ⟨a,h1,h2,_⟩ | ⟨h1,h2⟩
   ·exact a3 a h1 h2
   ·exact nil h1 h2
 ·obtain ⟨a,_,h2⟩:=a0 o b ho;exact hs.own a b h2
 ·obtain ⟨c,e1,b1⟩:=a0 o b h1;obtain ⟨d,e2,b2⟩:=a0 p b h2;have:=hs.dis c d b b1 b2;subst this;exact zut a4 e1 e2
 ·obtain ⟨a,_,h2⟩:=a0 o b ho;exact (hs.res b hb).2 a h2
 ·obtain ⟨h1,h2⟩:=gnM_keep hk o hg;rw [(hρ o o h1).1];exact hs.rt o v hl h2
theorem SatR.say {B:Base} {σ:St} {a:Act} {w:World} {ρ:Ly} (h:SatR B σ a w ρ) (t:Nat) {v:AV} (hv:RepA w (Imm B σ ρ w) ρ σ.gn (a.tmps.getD t undef) v):SatR B (upd σ (.tmp t) (.av v)) a w ρ:=by
 refine h.slots (zio.tmp σ t (.av v)) (fun u=>?_) h.siz h.dfr;rw [zsc];by_cases e:u=t
 ·rw [if_pos e,e];exact hv
 ·rw [if_neg e];exact h.tms u
theorem Ent.fz {σ:St} (t:Nat) {x:IV} {bs:yad} (h:fz σ (σ.av t)=some (x,bs)) (hg:gok σ bs):Ent σ (upd (app σ (fwr bs)) (.tmp t) (.av (.im x))):=by
 rintro B a w ⟨ρ,hs⟩;exact ⟨ρ,(hs.kills bs).1.say t (.im _ _ (zve hs (bs':=bs) (gok_mem hg) (hs.tms t) h fun _ h=>h))⟩
theorem Ent.que {σ:St} (o:Nat) {e:TypeId} {k:Nat} {es:List (List IV)} (h:σ.kd o=.row e k es):Ent σ (upd σ (.knd o) (.kd (.que e k es))):=by
 rintro B a w ⟨ρ,hs⟩
 have a0:∀ p b,Owns (upd σ (.knd o) (.kd (.que e k es))) ρ p b↔Owns σ ρ p b:=fun p b=>by
  unfold Owns;rw [zfm];by_cases hp:p=o
  ·rw [if_pos hp,hp,h];rfl
  ·rw [if_neg hp]
 have a2:Imm B (upd σ (.knd o) (.kd (.que e k es))) ρ w=Imm B σ ρ w:=by
  funext b;unfold Imm;simp only [a0]
 have a3:(upd σ (.knd o) (.kd (.que e k es))).gn=σ.gn:=funext fun p=>zgi σ o p _;refine ⟨ρ,hs.bel,fun p=>?_,fun p b hp=>hs.own p b ((a0 p b).1 hp),fun p q b hp hq=>hs.dis p q b ((a0 p b).1 hp) ((a0 q b).1 hq),fun t=>?_,fun p=>by rw [zj2];exact hs.igs p,fun b hb=>⟨(hs.res b hb).1,fun p hp=>(hs.res b hb).2 p ((a0 p b).1 hp)⟩,fun p v hl hg=>hs.rt p v hl (by rw [a3] at hg;exact hg),hs.siz,hs.dfr⟩
 ·rw [zfm];by_cases hp:p=o
  ·rw [if_pos hp];have ho:=hs.obs p;rw [hp,h] at ho;show zmu w (Imm B _ ρ w) (ρ p) e k es;rw [a2,hp];exact zjs.que ho
  ·rw [if_neg hp];exact (hs.obs p).mono rfl rfl (fun i=>zj3 σ o p i _) (fun _ _=>rfl) (fun v x hr=>by rw [a2];exact hr) fun v x hr=>by rw [a2,a3];exact hr
 ·rw [a2,a3,ziz];exact hs.tms t
def Ok (x:IV):Prop:=∃ w S v,RepI w S v x
def OkL (es:List (List IV)):Prop:=es.length<=17592186044416∧∀ e∈es,∀ x∈e,Ok x
theorem ok_flat {w:World} {S:Nat->Prop} {es:List (List IV)} {us:List Value} (hl:us.length=es.flatten.length) (hr:∀ (i:Nat) u x,us[i]?=some u->es.flatten[i]?=some x->RepI w S u x):∀ e∈es,∀ x∈e,Ok x:=fun e he x hx=>by
 have hm:x∈es.flatten:=yc0.2 ⟨e,he,hx⟩;obtain ⟨i,hi⟩:=ycd hm;have hlt:i<us.length:=by rw [hl];exact (zkI.1 hi).1
 exact ⟨w,S,_,hr i _ x (zkM hlt) hi⟩
theorem Ok.sl {es:List (List IV)} (h:Ok (.sl es)):OkL es:=by
 obtain ⟨w,S,v,h⟩:=h;cases h with
 | emp A c=>exact ⟨yas _,by simp⟩
 | sl b o c k n _ us hn hk hc hs hS hl h1 hu hr=>exact ⟨by omega,ok_flat hl hr⟩
theorem ok_all {w:World} {S:Nat->Prop} {cs:List IV} {us:List Value} (hl:us.length=cs.length) (hr:∀ (i:Nat) u x,us[i]?=some u->cs[i]?=some x->RepI w S u x):∀ x∈cs,Ok x:=fun x hx=>by
 obtain ⟨i,hi⟩:=ycd hx;have hlt:i<us.length:=by rw [hl];exact (zkI.1 hi).1
 exact ⟨w,S,_,hr i _ x (zkM hlt) hi⟩
theorem Ok.agg {cs:List IV} (h:Ok (.agg cs)):∀ x∈cs,Ok x:=by
 obtain ⟨w,S,v,h⟩:=h;cases h with
 | agg us _ hl h1 hr=>exact ok_all hl hr
theorem Ok.agg_at {cs:List IV} {x:IV} (h:Ok (.agg cs)) (i:Nat) (hx:cs[i]?=some x):Ok x:=h.agg x (zkH hx)
theorem Ok.ref {cs:List IV} (h:Ok (.ref cs)):∀ x∈cs,Ok x:=by
 obtain ⟨w,S,v,h⟩:=h;cases h with
 | ref b o us _ hS hl h1 hu hr=>exact ok_all hl hr
theorem Ok.ref_at {cs:List IV} {x:IV} (h:Ok (.ref cs)) (i:Nat) (hx:cs[i]?=some x):Ok x:=h.ref x (zkH hx)
theorem Holds.true_ (σ:St):Holds σ True:=fun _ _ _ _=>trivial
theorem Holds.and {σ:St} {φ ψ:Prop} (h:Holds σ φ) (k:Holds σ ψ):Holds σ (φ∧ψ):=fun B a w hs=>⟨h B a w hs,k B a w hs⟩
theorem Holds.av {σ:St} (t:Nat) {x:IV} (h:σ.av t=.im x):Holds σ (Ok x):=by
 rintro B a w ⟨ρ,hs⟩;have h1:=hs.tms t;rw [h] at h1;exact ⟨_,_,_,h1.im_inv⟩
theorem Holds.ce {σ:St} (o i:Nat) {t:TypeId} {m:Nat} {x:IV} (hk:σ.kd o=.box t m) (hi:i<m) (h:σ.ce o i=.im x):Holds σ (Ok x):=by
 rintro B a w ⟨ρ,hs⟩;have ho:=hs.obs o;rw [hk] at ho;obtain ⟨b,us,h3,h5,h6,h7,h8⟩:=ho;have:=h8 i _ (zkM (by omega));rw [h] at this;exact ⟨_,_,_,this.im_inv⟩
theorem Holds.kd {σ:St} (o:Nat) {t:TypeId} {k:Nat} {es:List (List IV)} (hk:σ.kd o=.row t k es):Holds σ (OkL es):=by
 rintro B a w ⟨ρ,hs⟩;have ho:=hs.obs o;rw [hk] at ho;obtain ⟨us,h1,h2,h3,h4,h5,h6,h7⟩:=ho;exact ⟨h3,ok_flat h5 h7⟩
theorem Holds.kdq {σ:St} (o:Nat) {t:TypeId} {k:Nat} {es:List (List IV)} (hk:σ.kd o=.que t k es):Holds σ (OkL es):=by
 rintro B a w ⟨ρ,hs⟩;have ho:=hs.obs o;rw [hk] at ho;obtain ⟨us,h1,h2,h3,h5,h6,h7,h8⟩:=ho;exact ⟨h3,ok_flat h5 h7⟩
theorem Holds.mono {σ:St} {φ ψ:Prop} (h:Holds σ φ) (k:φ->ψ):Holds σ ψ:=fun B a w hs=>k (h B a w hs)
def iter {S R:Type} (step:S->Option (S⊕R)):Nat->S->Option R
 | 0,_=>none
 | n+1,s=>match step s with
  | none=>none
  | some (.inl s')=>iter step n s'
  | some (.inr r)=>some r
def Fin {S R:Type} (step:S->Option (S⊕R)) (r:R) (k:Nat):S⊕R->Prop
 | .inl s'=>iter step k s'=some r
 | .inr r'=>r'=r
def Nxt {S R:Type} (step:S->Option (S⊕R)) (r:R) (st:S->St) (k:Nat) (σ':St):Prop:=∃ m',m'<k+1∧∃ s,iter step m' s=some r∧Ent σ' (st s)
theorem Nxt.mk {S R:Type} {step:S->Option (S⊕R)} {r:R} {st:S->St} {k:Nat} {σ':St} (s:S) (h:Fin step r k (.inl s)) (e:Ent σ' (st s)):Nxt step r st k σ':=⟨k,Nat.lt_succ_self _,s,h,e⟩
attribute [irreducible] Nxt
theorem zto.iter {S R:Type} (step:S->Option (S⊕R)) (st:S->St) (φ:S->Prop) {body:(Exit->St->Prop)->St->Prop} {K:Exit->St->Prop} {σ:St} {n:Nat} {s0:S} {r:R}
  (h:Sym.iter step n s0=some r) (e0:Ent σ (st s0)) (hφ:∀ s,Holds (st s) (φ s))
  (hb:∀ k s o,φ s->step s=some o->Fin step r k o->body (fun e σ'=>match e with | .normal=>Nxt step r st k σ' | e=>K e σ') (st s)):zto body K σ:=by
 unfold zto;refine ⟨fun m σ=>∃ s,Sym.iter step m s=some r∧Ent σ (st s),n,⟨s0,h,e0⟩,?_⟩;rintro m σ ⟨s,hm,he⟩;refine ⟨st s,φ s,he,hφ s,fun hp=>?_⟩;cases m with
 | zero=>cases hm
 | succ k =>
  unfold Sym.iter at hm;split at hm
  ·cases hm
  ·rename_i s' hs;have:=hb k s _ hp hs hm;unfold Nxt at this;exact this
  ·rename_i r' hs;have:=hb k s _ hp hs (by injection hm);unfold Nxt at this;exact this
def Join (s σ':St):Prop:=∃ σ1,Ent σ' σ1∧σ1=s
theorem Join.mk {s σ':St} (e:Ent σ' s):Join s σ':=⟨s,e,rfl⟩
attribute [irreducible] Join
theorem Cut.mk (s:St) (φ:Prop) {body:(St->Prop)->Prop} {rest:St->Prop} (hφ:Holds s φ) (h:body (Join s)) (k:φ->rest s):Cut body rest:=by
 unfold Cut;unfold Join at h;exact ⟨fun σ=>σ=s,h,fun σ e=>⟨φ,by rw [e];exact hφ,fun hp=>by rw [e];exact k hp⟩⟩
end
section
def OkOc:Oc->Prop
 | .im x=>Ok x
 | .ow (.row _ _ es)=>OkL es
 | .ow (.grid _ _ _ gs _)=>gs.length<=17592186044416
 | .ow _=>True
def OkOcs:List Oc->Prop
 | []=>True
 | c::l=>OkOc c∧OkOcs l
def OkA:Arg->Prop
 | .im x=>Ok x
 | .ow k=>OkOc (.ow k)
 | .box _ cs=>OkOcs cs
 | .lent k=>OkOc (.ow k)
def OkAs:List Arg->Prop
 | []=>True
 | x::l=>OkA x∧OkAs l
theorem okOc_of {w:World} {S:Nat->Prop} {u:Value}:∀ {c:Oc} {F:List Nat},OcOk w S u c F->OkOc c
 | .im x,_,h=>⟨w,S,u,h.1⟩
 | .ow (.row _ _ es),_,⟨_,_,⟨ws,h1,h2,h3,h4,h5,h6,h7⟩,_⟩=>⟨h3,ok_flat h5 h7⟩
 | .ow (.grid _ _ _ gs _),_,⟨_,_,⟨_,_,_,h,_⟩,_⟩=>h
 | .ow (.map _),_,_=>trivial
 | .ow .dead,_,_=>trivial
 | .ow (.box _ _),_,_=>trivial
 | .ow (.que _ _ _),_,_=>trivial
theorem okOcs_of {w:World} {S:Nat->Prop}:∀ {us:List Value} {cs:List Oc} {F:List Nat},zlp w S us cs F->OkOcs cs
 | [],[],_,_=>trivial
 | _::_,_::_,_,⟨_,_,h1,h2,_⟩=>⟨okOc_of h1,okOcs_of h2⟩
 | [],_::_,_,h=>h.elim
 | _::_,[],_,h=>h.elim
theorem okA_of {w:World} {S:Nat->Prop} {u:Value}:∀ {x:Arg} {F:List Nat},ArgOk w S u x F->OkA x
 | .im x,_,h=>⟨w,S,u,h.1⟩
 | .ow k,_,h=>okOc_of (c:=.ow k) h
 | .box _ _,_,⟨_,_,_,_,_,_,h,_⟩=>okOcs_of h
 | .lent k,_,h=>okOc_of (c:=.ow k) h
theorem oks_of {w:World} {S:Nat->Prop}:∀ {us:List Value} {xs:List Arg} {F:List Nat},zem w S us xs F->OkAs xs
 | [],[],_,_=>trivial
 | _::_,_::_,_,⟨_,_,h1,h2,_⟩=>⟨okA_of h1,oks_of h2⟩
 | [],_::_,_,h=>h.elim
 | _::_,[],_,h=>h.elim
theorem sp_of {P:Program} {f:FuncId} {fn:Func} {c:Code} {xs:List Arg} {r:Rs} (hm:P.follows .mixedOrders=true) (own:List Nat) (hf:P.funcs[f]?=some fn) (hname:(fn.name=="runtime.NumGoroutine")=false) (hb:fn.body=some c)
  (hn:xs.length<=fn.ntmps) (hok:zsw xs=true) (h:OkAs xs->frcW (entW xs) 0 sig0 fun _ σ=>zkk P (SpX P) fn.ntmps own c (retK P fn.results.toList xs r) σ):Sp P f xs r :=
 sp_of_code hm (C:=SpX P) (fun _ _ _ h=>h) hf hname hb hn hok fun _ _ _ _ ha=>by
  have:=h (oks_of ha);rw [zrc] at this;exact this
theorem sp_ofA {P:Program} {f:FuncId} {fn:Func} {c:Code} {xs:List Arg} {r:Rs} (hm:P.follows .mixedOrders=true) (own:List Nat) (t:TypeId) (l:List Oc) (k:Nat) (hl:l.length+k=xs.length) (hf:P.funcs[f]?=some fn) (hname:(fn.name=="runtime.NumGoroutine")=false) (hb:fn.body=some c)
  (hn:xs.length<=fn.ntmps) (hn2:k+1<=fn.ntmps) (hok:zsw xs=true) (h:OkAs xs->frcW (entW xs) 0 sig0 fun m σ=>frcW (entA l.length k σ) m σ fun _ σ'=>zkk P (SpX P) fn.ntmps own c (retKA P t fn.results.toList xs r) σ'):SpX P f (.lent .dead::.box t l::xs) r :=
 sp_ofA_code hm (C:=SpX P) (fun _ _ _ h=>h) hf hname hb hl hn hn2 hok fun _ _ _ _ ha=>by
  have:=h (oks_of ha);rw [zrc,zrc] at this;exact this
theorem sp_ofT {P:Program} {f:FuncId} {fn:Func} {c:Code} {xs:List Arg} {r:Rs} (hm:P.follows .mixedOrders=true) (own:List Nat) (hf:P.funcs[f]?=some fn) (hname:(fn.name=="runtime.NumGoroutine")=false) (hb:fn.body=some c)
  (hn:xs.length<=fn.ntmps) (hok:zsw xs=true) (h:OkAs xs->frcW (entW xs) 0 sig0 fun _ σ=>zkk P (SpX P) fn.ntmps own c (retKA P 1 fn.results.toList xs r) σ):SpX P f (.lent .dead::.ow .dead::xs) r :=
 sp_ofT_code hm (C:=SpX P) (fun _ _ _ h=>h) hf hname hb hn hok fun _ _ _ _ ha=>by
  have:=h (oks_of ha);rw [zrc] at this;exact this
theorem sp_ofP {P:Program} {f:FuncId} {fn:Func} {c:Code} {xs:List Arg} {r:Rs} (hm:P.follows .mixedOrders=true) (own:List Nat) (hf:P.funcs[f]?=some fn) (hname:(fn.name=="runtime.NumGoroutine")=false) (hb:fn.body=some c)
  (hn:xs.length<=fn.ntmps) (hok:zsw xs=true) (h:OkAs xs->frcW (entW xs) 0 sig0 fun _ σ=>zkk P (SpX P) fn.ntmps own c (retKP P fn.results.toList r) σ):SpX P f (.lent .dead::.lent .dead::xs) r :=
 sp_ofP_code hm (C:=SpX P) (fun _ _ _ h=>h) hf hname hb hn hok fun _ _ _ _ ha=>by
  have:=h (oks_of ha);rw [zrc] at this;exact this
inductive FrzL:List Oc->List Oc->Prop
 | nil:FrzL [] []
 | keep (c:Oc) {l l':List Oc} (h:FrzL l l'):FrzL (c::l) (c::l')
 | row {e:TypeId} {k:Nat} {es:List (List IV)} {l l':List Oc} (h:FrzL l l'):FrzL (.ow (.row e k es)::l) (.im (.sl es)::l')
 | grid {e e':TypeId} {k:Nat} {gs:List (List IV)} {l l':List Oc} (h:FrzL l l'):FrzL (.ow (.grid e e' k gs none)::l) (.im (.sl gs)::l')
theorem RepI.up {w:World} {S S':Nat->Prop} (hS:∀ b,S b->S' b) {v:Value} {x:IV} (h:RepI w S v x):RepI w S' v x:=h.mono hS fun _ _ _ h=>h
theorem Sp.frz {P:Program} {g:FuncId} {xs:List Arg} {tp:Bool} {l l':List Oc} {ys:List Arg} (hl:FrzL l l') (h:Sp P g xs (.mk tp l ys)):Sp P g xs (.mk tp l' ys) :=
 ⟨h.1,fun w S vs F hS ha hn hF=>(h.2 w S vs F hS ha hn hF).mono fun e w' ⟨v,F',h1,h2,⟨us,F1,F2,h3,h4,h5,h6⟩,h7,h8⟩=>by
  subst h6
  rw [ybc] at h7
  -- the frozen blocks leave the footprint
  have hlt:∀ b∈F1,(w.heap.size<=b∨b∈F)∧b<w'.heap.size:=fun b hb=>h8 b (yai _ hb)
  have key:∀ (l l':List Oc),FrzL l l'->∀ (us:List Value) (F1:List Nat) (S:Nat->Prop),zlp w' S us l F1->F1.Nodup->∃ Fk,Fk.Sublist F1∧∀ (S':Nat->Prop),(∀ b,S b->S' b)->(∀ b∈F1,b∉Fk->S' b)->zlp w' S' us l' Fk:=by
   intro l l' hl
   induction hl with
   | nil =>
    intro us F1 S h _
    match us,h with
    | [],h=>exact ⟨[],List.nil_sublist _,fun _ _ _=>rfl⟩
   | keep c _ ih =>
    intro us F1 S h a0
    match us,h with
    | u::us,⟨G1,G2,h1,h2,h3⟩ =>
     subst h3
     rw [ybc] at a0
     obtain ⟨Fk,a1,a2⟩:=ih us G2 S h2 a0.2.1
     exact ⟨G1++Fk,List.Sublist.append_left a1 _,fun S' hS hF=>⟨G1,Fk,h1.mono fun u x hr=>hr.up hS,a2 S' hS fun b hb a3=>hF b (by simp [hb]) fun hm=>by
      rcases yal.1 hm with hm | hm
      ·exact a0.2.2 b hm b hb rfl
      ·exact a3 hm,rfl⟩⟩
   | row _ ih =>
    intro us F1 S h a0
    match us,h with
    | u::us,⟨G1,G2,⟨_,inn,h1,e1⟩,h2,h3⟩ =>
     subst h3
     rw [ybc] at a0
     obtain ⟨Fk,a1,a2⟩:=ih us G2 S h2 a0.2.1
     refine ⟨[]++Fk,(ycb Fk).symm ▸ a1.trans (ycx _ _),fun S' hS hF=>⟨[],Fk,⟨zjs.repI h1 (fun b hb=>?_) fun u x hr=>hr.up hS,rfl⟩,a2 S' hS fun b hb a3=>hF b (by simp [hb]) (by simpa using a3),rfl⟩⟩
     have a4:b∈G1:=by rw [e1];simp [fpk,hb]
     exact ⟨hF b (by simp [a4]) fun hm=>a0.2.2 b a4 b (a1.subset (by simpa using hm)) rfl,rfl⟩
   | grid _ ih =>
    intro us F1 S h a0
    match us,h with
    | u::us,⟨G1,G2,⟨_,inn,h1,e1⟩,h2,h3⟩ =>
     subst h3
     rw [ybc] at a0
     obtain ⟨Fk,a1,a2⟩:=ih us G2 S h2 a0.2.1
     refine ⟨[]++Fk,(ycb Fk).symm ▸ a1.trans (ycx _ _),fun S' hS hF=>⟨[],Fk,⟨zlj.repI h1 (fun b hb=>?_) fun u x hr=>hr.up hS,rfl⟩,a2 S' hS fun b hb a3=>hF b (by simp [hb]) (by simpa using a3),rfl⟩⟩
     have a4:b∈G1:=by rw [e1];exact hb
     exact ⟨hF b (by simp [a4]) fun hm=>a0.2.2 b a4 b (a1.subset (by simpa using hm)) rfl,rfl⟩
  obtain ⟨Fk,a1,a2⟩:=key l l' hl us F1 _ h4 h7.1
  have a5:∀ b,b∈Fk++F2->b∈F1++F2:=fun b hb=>by
   rcases yal.1 hb with hb | hb
   ·exact yai _ (a1.subset hb)
   ·exact yaf _ hb
  have a6:∀ b,((S b∨w.heap.size<=b∨b∈F)∧b<w'.heap.size∧b∉F1++F2)->((S b∨w.heap.size<=b∨b∈F)∧b<w'.heap.size∧b∉Fk++F2):=fun b hb=>⟨hb.1,hb.2.1,fun hm=>hb.2.2 (a5 b hm)⟩
  refine ⟨v,Fk++F2,h1,h2,⟨us,Fk,F2,h3,a2 _ a6 fun b hb a3=>⟨.inr (hlt b hb).1,(hlt b hb).2,fun hm=>?_⟩,h5.mono fun u x hr=>hr.up a6,rfl⟩,?_,fun b hb=>h8 b (a5 b hb)⟩
  ·rcases yal.1 hm with hm | hm
   ·exact a3 hm
   ·exact h7.2.2 b hb b hm rfl
  ·rw [ybc]
   exact ⟨a1.nodup h7.1,h7.2.1,fun x hx y hy=>h7.2.2 x (a1.subset hx) y hy⟩⟩
theorem Sp.im {P:Program} {g:FuncId} {xs:List Arg} {e:TypeId} {k:Nat} {es:List (List IV)} (h:Sp P g xs (.row e k es)):Sp P g xs (.im (.sl es)):=Sp.frz (.row .nil) h
theorem Sp.args {P:Program} {g:FuncId} {xs ys:List Arg} {r:Rs} (h:Sp P g xs r) (e:ys=xs):Sp P g ys r:=e ▸ h
abbrev cI (x:Int):List IV:=[.val (.int .i64 x)]
abbrev cB (x:Bool):List IV:=[.val (.bool x)]
abbrev cL {α:Type} (c:α->List IV) (l:List α):List IV:=[.sl (l.map c)]
abbrev nI (n:Int):IV:=.val (.int .i64 n)
abbrev nB (b:Bool):IV:=.val (.bool b)
abbrev nS (s:ByteArray):IV:=.val (.string s)
abbrev nL {α:Type} (c:α->List IV) (l:List α):IV:=.sl (l.map c)
instance (n:Int):Decidable (inR n):=by unfold inR;infer_instance
instance (n b:Nat):Decidable (za2 n b):=by unfold za2;infer_instance
def fuel:Nat:=1000000000000000000000
section
variable {α β:Type}
def chk (c:Prop) [Decidable c] (k:Option α):Option α:=if c then k else none
def idx (l:List α) (n:Int) (k:α->Option β):Option β:=if 0<=n then (match l[n.toNat]? with | some x=>k x | none=>none) else none
theorem zad {c:Prop} [Decidable c] {k:Option α} {r:α} (h:chk c k=some r):c∧k=some r:=by
 unfold chk at h;split at h
 ·exact ⟨‹_›,h⟩
 ·cases h
theorem zbp {l:List α} {n:Int} {k:α->Option β} {r:β} (h:idx l n k=some r):∃ x,0<=n∧l[n.toNat]?=some x∧k x=some r:=by
 unfold idx at h;split at h
 ·split at h
  ·rename_i x hx;exact ⟨x,‹_›,hx,h⟩
  ·cases h
 ·cases h
theorem bind_some {o:Option α} {f:α->Option β} {r:β} (h:o.bind f=some r):∃ x,o=some x∧f x=some r:=by
 cases o with
 | none=>cases h
 | some x=>exact ⟨x,rfl,h⟩
theorem zbi {Y Z R:Type} {f:Y->Option R} {g:Z->Option R} {y:Y} {r:R} (h:Sum.elim f g (.inl y)=some r):f y=some r:=h
theorem cond_t {b:Bool} {x y z:α} (hb:b=true) (h:cond b x y=z):x=z:=by rw [hb] at h;exact h
theorem cond_f {b:Bool} {x y z:α} (hb:b=false) (h:cond b x y=z):y=z:=by rw [hb] at h;exact h
def idxn (l:List α) (n:Nat) (k:α->Option β):Option β:=match l[n]? with | some x=>k x | none=>none
theorem zay {l:List α} {n:Nat} {k:α->Option β} {r:β} (h:idxn l n k=some r):∃ x,l[n]?=some x∧k x=some r:=by
 unfold idxn at h;split at h
 ·rename_i x hx;exact ⟨x,hx,h⟩
 ·cases h
theorem beq_tt {b:Bool} (h:(b==true)=true):b=true:=by cases b<;>simp_all
theorem beq_tf {b:Bool} (h:(b==true)=false):b=false:=by cases b<;>simp_all
theorem beq_ff {b:Bool} (h:(b==false)=true):b=false:=by cases b<;>simp_all
theorem beq_ft {b:Bool} (h:(b==false)=false):b=true:=by cases b<;>simp_all
theorem zda {b:Bool} (h:b=true):(b==true)=true:=by rw [h];rfl
theorem zfv {b:Bool} (h:b=false):(b==false)=true:=by rw [h];rfl
theorem zm7 {b:Bool} (h:b=true):(b==false)=false:=by rw [h];rfl
theorem zgw {b:Bool} (h:b=false):(b==true)=false:=by rw [h];rfl
theorem zaz {l:List α} {c:α->β} {i:Nat} {x:α} (h:l[i]?=some x):(l.map c)[i]?=some (c x):=by rw [yat,h];rfl
theorem zax {l:List α} {c:α->β} {i:Nat} {x:α} (h:l[i]?=some x):i<(l.map c).length:=by
 rw [zkK];exact (zkI.1 h).1
theorem zbf {l:List α} {c:α->List β} {k:Nat} (h:∀ x,(c x).length=k):∀ e∈l.map c,e.length=k:=fun e he=>by
 obtain ⟨x,_,rfl⟩:=yap.1 he;exact h x
theorem zaf {l:List α} {c:α->β}:l.length=(l.map c).length:=(zkK _).symm
theorem zbs {l m:List α} {c:α->β}:(l++m).map c=l.map c++m.map c:=ya9
theorem zqr {l:List α} {c:α->β} {n:Nat}:(l.take n).map c=((l.map c).take n).drop 0:=by rw [ydh];rfl
theorem zk7 {l:List α} {c:α->β} {n:Nat}:(l.drop n).map c=((l.map c).take ((l.map c).length:Int).toNat).drop n:=by rw [ydr,ybz,ycm]
theorem cut_map {l:List α} {c:α->β} {n m:Nat}:((l.take n).drop m).map c=((l.map c).take n).drop m:=by rw [ydr,ydh]
theorem zdn {l:List α} {c:α->List β} {i:Nat} {x y:α} {j:Nat} {xs:List β} (h:c y=splice (c x) j xs):(l.set i y).map c=(l.map c).set i (splice (c x) j xs):=by rw [yd9,h]
end
abbrev wI (n:Int):Value:=.int .i64 n
abbrev wB (b:Bool):Value:=.bool b
abbrev wS (s:ByteArray):Value:=.string s
section
variable {κ ν:Type}
def mapV (f:κ->Value) (g:ν->Value) (m:List (κ×ν)):List (Value×Value):=m.map fun p=>(f p.1,g p.2)
def mget [BEq κ] (k:κ):List (κ×ν)->Option ν
 | []=>none
 | p::m=>match k==p.1 with | true=>some p.2 | false=>mget k m
def mset [BEq κ] (k:κ) (v:ν):List (κ×ν)->List (κ×ν)
 | []=>[(k,v)]
 | p::m=>match k==p.1 with | true=>(k,v)::m | false=>p::mset k v m
theorem find_str (k:ByteArray) (g:ν->Value):∀ m:List (ByteArray×ν),findV .string (.string k) (mapV wS g m)=some ((mget k m).map g)
 | []=>rfl
 | p::m=>by
  have ih:=find_str k g m;unfold mapV at ih ⊢;rw [yan];unfold findV mget;simp only [Instr.sameNow];cases k==p.1 with
  | true=>rfl
  | false=>exact ih
theorem find_int (k:Int) (g:ν->Value):∀ m:List (Int×ν),findV (.int .i64) (.int .i64 k) (mapV wI g m)=some ((mget k m).map g)
 | []=>rfl
 | p::m=>by
  have ih:=find_int k g m;unfold mapV at ih ⊢;rw [yan];unfold findV mget;simp only [Instr.sameNow,if_true];cases k==p.1 with
  | true=>rfl
  | false=>exact ih
theorem set_str (k:ByteArray) (v:ν) (g:ν->Value):∀ m:List (ByteArray×ν),setV .string (.string k) (g v) (mapV wS g m)=some (mapV wS g (mset k v m))
 | []=>rfl
 | p::m=>by
  have ih:=set_str k v g m;unfold mapV at ih ⊢;rw [yan];unfold setV mset;simp only [Instr.sameNow];cases k==p.1 with
  | true=>rfl
  | false=>simp only [ih];rfl
theorem set_int (k:Int) (v:ν) (g:ν->Value):∀ m:List (Int×ν),setV (.int .i64) (.int .i64 k) (g v) (mapV wI g m)=some (mapV wI g (mset k v m))
 | []=>rfl
 | p::m=>by
  have ih:=set_int k v g m;unfold mapV at ih ⊢;rw [yan];unfold setV mset;simp only [Instr.sameNow,if_true];cases k==p.1 with
  | true=>rfl
  | false=>simp only [ih];rfl
theorem get_arr (ks:yab) (g:ν->Value):∀ m:List (yab×ν),getA ks (m.map fun p=>(p.1,g p.2))=(mget ks m).map g
 | []=>rfl
 | p::m=>by
  rw [yan];unfold getA mget;rw [show (ks==p.1)=decide (ks=p.1) from by rw [yec];simp];simp only;cases decide (ks=p.1) with
  | true=>rfl
  | false=>exact get_arr ks g m
theorem set_arr (ks:yab) (v:ν) (g:ν->Value):∀ m:List (yab×ν),setA ks (g v) (m.map fun p=>(p.1,g p.2))=(mset ks v m).map fun p=>(p.1,g p.2)
 | []=>rfl
 | p::m=>by
  rw [yan];unfold setA mset;rw [show (ks==p.1)=decide (ks=p.1) from by rw [yec];simp];simp only;cases decide (ks=p.1) with
  | true=>rfl
  | false=>simp only [set_arr ks v g m];rfl
def cA (l:yab):List IV:=l.map fun c=>.val (.int .i64 c)
theorem flat_cA {l:yab}:cA l=(l.map cI).flatten:=by
 induction l with
 | nil=>rfl
 | cons c l ih=>rw [yan,ya4,<- ih];rfl
theorem len_mapV {κ ν:Type} {f:κ->Value} {g:ν->Value} {m:List (κ×ν)}:m.length=(mapV f g m).length:=(zkK _).symm
theorem keys_arr {n:Nat} {cs:List IV} {ks:yab} {g:ν->Value} {m:List (yab×ν)} (hc:cs=ks.map fun c=>.val (.int .i64 c)) (hn:ks.length=n∧∀ p∈m,p.1.length=n):KeysA n cs (mapV wA g m) ks (m.map fun p=>(p.1,g p.2)) :=
 ⟨hc,hn.1,by unfold mapV;rw [List.map_map];rfl,fun p hp=>by obtain ⟨q,hq,rfl⟩:=yap.1 hp;exact hn.2 q hq⟩
theorem mapA_set (g:ν->Value) (m:List (yab×ν)):mapV wA g m=(m.map fun p=>(p.1,g p.2)).map fun p=>(wA p.1,p.2):=by unfold mapV;rw [List.map_map];rfl
theorem getD_map {g:ν->Value} {d:ν} {z:Value} (h:g d=z) (o:Option ν):g (o.getD d)=(o.map g).getD z:=by cases o<;>simp [h]
theorem zr0 {g:ν->Value} (o:Option ν):o.isSome=(o.map g).isSome:=by cases o<;>rfl
theorem clr_map {α β:Type} {c:α->β} {z:α} {e:β} {l:List α} {k:Nat} (hc:c z=e):(l.take k++List.replicate (l.length-k) z).map c=(l.map c).take k++List.replicate ((l.map c).length-k) e:=by rw [ya9,ydh,List.map_replicate,zkK,hc]
theorem cpy_map {α β:Type} {c:α->β} {l m:List α}:(l.take m.length++m.drop l.length).map c=(l.map c).take (m.map c).length++(m.map c).drop (l.map c).length:=by rw [ya9,ydh,ydr,zkK,zkK]
theorem cut_own {α β:Type} {c:α->β} {l:List α} {k:Nat}:(l.take k).map c=(l.map c).take k:=ydh
theorem len_own {α β:Type} {c:α->β} {l:List α} {k:Nat}:l.length-k=(l.map c).length-k:=by rw [zkK]
theorem zgq {α β:Type} {c:α->β} {z:α} {e:β} {n m:Nat} (h:n=m) (hc:c z=e):(List.replicate n z).map c=List.replicate m e:=by rw [List.map_replicate,h,hc]
end
theorem zke {v:Value}:flatRs (.mk false [.im (.val v)] []):=⟨fun c hc=>by rcases yaw.1 hc with rfl;exact Or.inl ⟨v,rfl⟩,fun y hy=>by cases hy⟩
theorem zac {α:Type} {c:α->List IV} {l:List α} (h:Ok (.sl (l.map c))):l.length<=17592186044416:=by have:=h.sl.1;rwa [zkK] at this
theorem zmv {α:Type} {c:α->List IV} {l:List α} (h:OkL (l.map c)):l.length<=17592186044416:=by have:=h.1;rwa [zkK] at this
theorem Holds.avl {σ:St} {α:Type} {c:α->List IV} {l:List α} (t:Nat) (h:σ.av t=.im (.sl (l.map c))):Holds σ (l.length<=17592186044416):=(Holds.av t h).mono zac
theorem Holds.cel {σ:St} {α:Type} {c:α->List IV} {l:List α} (o i:Nat) {t:TypeId} {m:Nat} (hk:σ.kd o=.box t m) (hi:i<m) (h:σ.ce o i=.im (.sl (l.map c))):Holds σ (l.length<=17592186044416):=(Holds.ce o i hk hi h).mono zac
def oP {α:Type} (c:α->List IV):Option α->IV
 | none=>.val (.pointer none)
 | some x=>.ref (c x)
theorem zt6 {α:Type} {c:α->List IV} {g:List (List α)} {i:Nat} {r:List α}:(g.set i r).map (cL c)=(g.map (cL c)).set i [.sl (r.map c)]:=by rw [yd9]
theorem zju {α:Type} {c:α->List IV} {g:List (List α)} {i j k:Nat} {ev:List α} {x y:α} {xs:List IV} (h:c y=splice (c x) k xs):(g.set i (ev.set j y)).map (cL c)=(g.map (cL c)).set i [.sl ((ev.map c).set j (splice (c x) k xs))]:=by
 rw [<- h,yd9];show (g.map (cL c)).set i [.sl ((ev.set j y).map c)]=_;rw [yd9]
theorem Holds.kdg {σ:St} {α:Type} {c:α->List IV} {l:List α} (o:Nat) {e e':TypeId} {k:Nat} {q:Option Nat} (hk:σ.kd o=.grid e e' k (l.map c) q):Holds σ (l.length<=17592186044416):=fun B a w ⟨ρ,hs⟩=>by
 have ho:=hs.obs o;rw [hk] at ho;obtain ⟨_,_,us,h,_⟩:=ho;simpa using h
theorem Holds.kdql {σ:St} {α:Type} {c:α->List IV} {l:List α} (o:Nat) {t:TypeId} {k:Nat} (hk:σ.kd o=.que t k (l.map c)):Holds σ (l.length<=17592186044416):=(Holds.kdq o hk).mono zmv
theorem Holds.kdl {σ:St} {α:Type} {c:α->List IV} {l:List α} (o:Nat) {t:TypeId} {k:Nat} (hk:σ.kd o=.row t k (l.map c)):Holds σ (l.length<=17592186044416):=(Holds.kd o hk).mono zmv
def zct {Y Z:Type} (oc:Y⊕Z) (st:Y->St) (σ':St):Prop:=∃ y,oc=.inl y∧Ent σ' (st y)
theorem Cut.mkS {Y Z:Type} (oc:Y⊕Z) (st:Y->St) (φ:Y->Prop) {body:(St->Prop)->Prop} {rest:St->Prop} (hφ:∀ y,Holds (st y) (φ y)) (h:body (zct oc st)) (k:∀ y,oc=.inl y->φ y->rest (st y)):Cut body rest:=by
 unfold Cut;have e:zct oc st=fun σ'=>∃ σ1,Ent σ' σ1∧∃ y,oc=.inl y∧σ1=st y:=funext fun σ'=>propext ⟨fun ⟨y,h1,h2⟩=>⟨_,h2,y,h1,rfl⟩,fun ⟨σ1,h1,y,h2,h3⟩=>⟨y,h2,h3 ▸ h1⟩⟩;rw [e] at h;refine ⟨fun σ1=>∃ y,oc=.inl y∧σ1=st y,h,?_⟩;rintro σ ⟨y,h1,rfl⟩;exact ⟨φ y,hφ y,k y h1⟩
attribute [irreducible] zct
theorem zct.mk' {Y Z:Type} {oc:Y⊕Z} {st:Y->St} {σ':St} (y:Y) (h:oc=.inl y) (e:Ent σ' (st y)):zct oc st σ':=by unfold zct;exact ⟨y,h,e⟩
abbrev zlA:=@bind_some
abbrev zlB:=@Side.mk
abbrev zlC:=@Both.mk
abbrev zlD:=@Both.yes
abbrev zlE:=@Both.no
abbrev zlF:=@Nf.mk
abbrev zlG:=@Join.mk
abbrev zlH:=@Holds.avl
abbrev zlI:=@Ok.agg_at
abbrev zlJ:=@Cut.mkS
abbrev zlK:=@Nxt.mk
end
structure zaa where
 Inputs:Int
 Start:Int
 Next:yaa
 Out:yaa
 deriving DecidableEq
def zae (s:zaa):List IV:=[nI s.Inputs,nI s.Start,nL (cL cI) s.Next,nL (cL cI) s.Out]
structure zq3 where
 Step:yab
 Reset:Int
 deriving DecidableEq
structure zr4 where
 Lost:Int
 Wrong:Int
 Crash:Int
 deriving DecidableEq
structure zla where
 M:zaa
 State:Int
 Ready:Bool
 Latency:zq3
 Faults:zr4
 Seed:Int
 Steps:Int
 Resets:Int
 Time:Int
 deriving DecidableEq
structure zab where
 In:yab
 Out:yab
 deriving DecidableEq
def zag (s:zab):List IV:=[nL cI s.In,nL cI s.Out]
structure zal where
 Inputs:Int
 Traces:List zab
 deriving DecidableEq
def zcl (s:zal):List IV:=[nI s.Inputs,nL zag s.Traces]
structure T_api_Oracle where
 Device:zla
 Obs:zal
 Votes:Int
 Tries:Int
 Asked:Int
 Hits:Int
 deriving DecidableEq
structure T_api_Table where
 Inputs:Int
 Prefixes:yaa
 Suffixes:yaa
 deriving DecidableEq
structure T_api_Baseline where
 M:zaa
 Words:yaa
 deriving DecidableEq
structure T_api_Report where
 Run:Int
 Changes:List zab
 deriving DecidableEq
structure zbt where
 Inputs:Int
 Abstract:Int
 Start:Int
 Next:yaa
 Sym:yaa
 deriving DecidableEq
def zdi (s:zbt):List IV:=[nI s.Inputs,nI s.Abstract,nI s.Start,nL (cL cI) s.Next,nL (cL cI) s.Sym]
structure zeq where
 Word:yab
 First:Int
 Second:Int
 deriving DecidableEq
def zud (s:zeq):List IV:=[nL cI s.Word,nI s.First,nI s.Second]
structure zb3 where
 M:zaa
 Access:yaa
 deriving DecidableEq
def zg7 (s:zb3):List IV:=[nI s.M.Inputs,nI s.M.Start,nL (cL cI) s.M.Next,nL (cL cI) s.M.Out,nL (cL cI) s.Access]
structure zam where
 Inputs:Int
 Start:Int
 Next:yaa
 Out:yaa
 deriving DecidableEq
def za9 (s:zam):List IV:=[nI s.Inputs,nI s.Start,nL (cL cI) s.Next,nL (cL cI) s.Out]
structure zv7 where
 Inputs:Int
 Short:yaa
 Suffixes:yaa
 deriving DecidableEq
structure zc7 where
 Prefix:yab
 Symbol:Int
 Suffix:yab
 deriving DecidableEq
def zg3 (s:zc7):List IV:=[nL cI s.Prefix,nI s.Symbol,nL cI s.Suffix]
structure T_learnerlaw28_Case where
 M:zaa
 O:zal
 L:zv7
 S:zc7
 deriving DecidableEq
structure T_learnerlaw35_Parts where
 P:zam
 W:yab
 S:Int
 T:Int
 Out:Int
 deriving DecidableEq
structure zdk where
 Mealy:zaa
 deriving DecidableEq
def zva (s:zdk):List IV:=[nI s.Mealy.Inputs,nI s.Mealy.Start,nL (cL cI) s.Mealy.Next,nL (cL cI) s.Mealy.Out]
structure zcu where
 machine:zdk
 at_:Int
 deriving DecidableEq
structure T_api_Mutation where
 Kind:Int
 State:Int
 Input:Int
 Value:Int
 Value2:Int
 deriving DecidableEq
structure T_regress_runner where
 m:zaa
 report:T_api_Report
 deriving DecidableEq
structure T_table_view where
 rows:List (yaa)
 prefixes:yab
 next:yaa
 number:List (ByteArray×Int)
 deriving DecidableEq
structure zdc where
 m:zaa
 states:yab
 words:yaa
 class_:yab
 deriving DecidableEq
def zfr (s:zdc):List IV:=[nI s.m.Inputs,nI s.m.Start,nL (cL cI) s.m.Next,nL (cL cI) s.m.Out,nL cI s.states,nL (cL cI) s.words,nL cI s.class_]
structure zas where
 list:yab
 word:yab
 deriving DecidableEq
def zew (s:zas):List IV:=[nL cI s.list,nL cI s.word]
structure zbw where
 m:zaa
 p:zbt
 sets:List zas
 of:List (ByteArray×Int)
 deriving DecidableEq
structure T_evidence_candidate where
 score:Int
 blue:Int
 red:Int
 deriving DecidableEq
structure T_lazy_reader where
 l:zv7
 o:zal
 missing:yaa
 long:Bool
 deriving DecidableEq
structure T_nondet_group where
 word:yab
 before:yab
 least:yab
 deriving DecidableEq
structure T_device_unit where
 Device:zla
 deriving DecidableEq
structure zek where
 s:Int
 t:Int
 deriving DecidableEq
def znl (s:zek):List IV:=[nI s.s,nI s.t]
structure zc1 where
 Mapper:zbt
 state:Int
 deriving DecidableEq
structure zcg where
 state:Int
 word:yab
 deriving DecidableEq
def ze4 (s:zcg):List IV:=[nI s.state,nL cI s.word]
structure T_A2 where
 f0:Int
 f1:Int
 deriving DecidableEq
def c_A2 (s:T_A2):List IV:=[nI s.f0,nI s.f1]
structure zbo where
 up:List (Int×Int)
 deriving DecidableEq
structure zcm where
 at_:zek
 word:yab
 deriving DecidableEq
def zgf (s:zcm):List IV:=[nI s.at_.s,nI s.at_.t,nL cI s.word]
structure T_A2_api_Mealy where
 f0:zaa
 f1:zaa
 deriving DecidableEq
structure T_learnerref09_Pair where
 S:Int
 T:Int
 Word:yab
 deriving DecidableEq
structure zak where
 Leaf:Bool
 Access:yab
 Suffix:yab
 Outs:yaa
 Kids:yab
 deriving DecidableEq
def zbl (s:zak):List IV:=[nB s.Leaf,nL cI s.Access,nL cI s.Suffix,nL (cL cI) s.Outs,nL cI s.Kids]
structure za5 where
 Nodes:List zak
 deriving DecidableEq
def zcv (s:za5):List IV:=[nL zbl s.Nodes]
structure zba where
 Inputs:Int
 Tree:za5
 deriving DecidableEq
def zcq (s:zba):List IV:=[nI s.Inputs,nL zbl s.Tree.Nodes]
structure zah where
 TreeState:zba
 o:zal
 deriving DecidableEq
def za7 (s:zah):List IV:=[nI s.TreeState.Inputs,nL zbl s.TreeState.Tree.Nodes,nI s.o.Inputs,nL zag s.o.Traces]
structure zb8 where
 h:zb3
 o:zal
 w:yab
 states:yab
 outs:yab
 deriving DecidableEq
def zdu (s:zb8):List IV:=[nI s.h.M.Inputs,nI s.h.M.Start,nL (cL cI) s.h.M.Next,nL (cL cI) s.h.M.Out,nL (cL cI) s.h.Access,nI s.o.Inputs,nL zag s.o.Traces,nL cI s.w,nL cI s.states,nL cI s.outs]
structure zaj where
 w:yab
 node:Int
 deriving DecidableEq
def za6 (s:zaj):List IV:=[nL cI s.w,nI s.node]
end Go.Proofs.YtkiajpbdicaceaaGreatDoor.Sym
namespace Go.Proofs.YtkiajpbdicaceaaGreatDoor
section
open Go.ChangeShapes Go.WideShapes Go.ChangeAt Go.RowKit
theorem Tryz.own:ownKnob Tryz.prog.godebug=none:=by kernel_rfl
theorem Tryz.laidOut:laidOutB Tryz.prog=true:=by kernel_rfl
noncomputable def laidWorld (os:Os):World :=
 let w0:=World.holding Tryz.prog os ⟨#[],#[],[]⟩
 let h0:=w0.heap
 let h1:=h0.modify 0 fun
   | .cells _ t frozen=>.cells #[.int .u64 1,.int .u64 10,.int .u64 100,.int .u64 1000,.int .u64 10000,.int .u64 100000,.int .u64 1000000,.int .u64 10000000,.int .u64 100000000,.int .u64 1000000000,.int .u64 10000000000,.int .u64 100000000000,.int .u64 1000000000000,.int .u64 10000000000000,.int .u64 100000000000000,.int .u64 1000000000000000,.int .u64 10000000000000000,.int .u64 100000000000000000,.int .u64 1000000000000000000,.int .u64 10000000000000000000] t frozen
   | o=>o
 let h2:=h1.modify 1 fun
   | .cells _ t frozen=>.cells #[.int .u8 0,.int .u8 1,.int .u8 28,.int .u8 2,.int .u8 29,.int .u8 14,.int .u8 24,.int .u8 3,.int .u8 30,.int .u8 22,.int .u8 20,.int .u8 15,.int .u8 25,.int .u8 17,.int .u8 4,.int .u8 8,.int .u8 31,.int .u8 27,.int .u8 13,.int .u8 23,.int .u8 21,.int .u8 19,.int .u8 16,.int .u8 7,.int .u8 26,.int .u8 12,.int .u8 18,.int .u8 6,.int .u8 11,.int .u8 5,.int .u8 10,.int .u8 9] t frozen
   | o=>o
 let h3:=h2.modify 2 fun
   | .cells _ t frozen=>.cells #[.int .u8 0,.int .u8 1,.int .u8 56,.int .u8 2,.int .u8 57,.int .u8 49,.int .u8 28,.int .u8 3,.int .u8 61,.int .u8 58,.int .u8 42,.int .u8 50,.int .u8 38,.int .u8 29,.int .u8 17,.int .u8 4,.int .u8 62,.int .u8 47,.int .u8 59,.int .u8 36,.int .u8 45,.int .u8 43,.int .u8 51,.int .u8 22,.int .u8 53,.int .u8 39,.int .u8 33,.int .u8 30,.int .u8 24,.int .u8 18,.int .u8 12,.int .u8 5,.int .u8 63,.int .u8 55,.int .u8 48,.int .u8 27,.int .u8 60,.int .u8 41,.int .u8 37,.int .u8 16,.int .u8 46,.int .u8 35,.int .u8 44,.int .u8 21,.int .u8 52,.int .u8 32,.int .u8 23,.int .u8 11,.int .u8 54,.int .u8 26,.int .u8 40,.int .u8 15,.int .u8 34,.int .u8 20,.int .u8 31,.int .u8 10,.int .u8 25,.int .u8 14,.int .u8 19,.int .u8 9,.int .u8 13,.int .u8 8,.int .u8 7,.int .u8 6] t frozen
   | o=>o
 { w0 with heap:=h3 }
end
end Go.Proofs.YtkiajpbdicaceaaGreatDoor
namespace Go.Proofs.YtkiajpbdicaceaaGreatDoor.Sym
section
open Go.ChangeShapes Go.WideShapes Go.ChangeAt Go.RowKit Go.Deep
section
variable {H:Type} {enc:TypeId×Value->H} {W:World} {α β:Type}
theorem bulk_pos (d:DataW H):1<=Rows.uptoBulk d:=by
 cases d with
 | lit l=>cases l<;>simp [Rows.uptoBulk]
 | nil=>simp [Rows.uptoBulk]
 | ptr d=>simp [Rows.uptoBulk]
 | slice elems spare=>simp [Rows.uptoBulk]
 | agg parts=>simp [Rows.uptoBulk]
 | iface t d=>simp [Rows.uptoBulk]
 | map entries=>simp [Rows.uptoBulk]
 | held h=>simp [Rows.uptoBulk]
theorem bulk_mem {d:DataW H} {l:List (DataW H)} (h:d∈l):Rows.uptoBulk d<=Rows.uptoBulkAll l:=by
 induction l with
 | nil=>cases h
 | cons x r ih =>
  simp only [Rows.uptoBulkAll];rcases yau.1 h with e | e
  ·subst e;omega
  ·have:=ih e;omega
theorem ztc (l r:List (DataW H)):Rows.uptoBulkAll (l++r)=Rows.uptoBulkAll l+Rows.uptoBulkAll r:=by
 induction l with
 | nil=>simp [Rows.uptoBulkAll]
 | cons x l ih=>simp only [ycq,Rows.uptoBulkAll,ih];omega
theorem bulk_length (l:List (DataW H)):l.length<=Rows.uptoBulkAll l:=by
 induction l with
 | nil=>simp [Rows.uptoBulkAll]
 | cons x r ih=>have:=bulk_pos x;simp only [Rows.uptoBulkAll,zkL];omega
theorem bulk_small {l:List (DataW H)} (hk:Rows.uptoSmall H l=true):Rows.uptoBulkAll l<=1048576:=by
 simpa [Rows.uptoSmall] using hk
def lowS (W:World):Nat->Prop:=fun b=>b<W.heap.size
def Opn (W:World) (enc:TypeId×Value->H) (t:TypeId) (c:α->List IV) (sz:α->Nat) (ok:α->Prop):Prop :=
 ∀ (fuel:Nat) (cs:List Value) (d:DataW H) (ps:List MemPlace),DataW.trod enc Tryz.prog W 0 (fun _=>true) true fuel t cs=some (d,ps)->Rows.uptoBulk d<=1048576 ->
  ∃ x,zk2 W (lowS W) cs (c x)∧(∀ u∈cs,u.oneCell'=true)∧sz x<=Rows.uptoBulk d∧ok x
def sz1 {α:Type} (_:α):Nat:=1
def szL (sz:α->Nat) (l:List α):Nat:=(l.map sz).sum+1
def okL (ok:α->Prop) (l:List α):Prop:=∀ x∈l,ok x
def okT {α:Type} (_:α):Prop:=True
theorem opn_int:Opn W enc 3 cI sz1 inR:=by
 intro fuel cs d ps h hd;cases fuel with
 | zero=>simp [DataW.trod] at h
 | succ f =>
  unfold DataW.trod at h;rw [Tryz.underlying3] at h;split at h<;>try (cases h;done)
  all_goals (try (rename_i e;cases e;done))
  rename_i k k' n e;injection e with e
  injection e with e
  subst e;split at h
  ·rename_i hw;injection h with h
   injection h with h1 h2
   subst h1;obtain ⟨rfl,hw⟩:=hw;refine ⟨n,⟨rfl,fun i u x hu hx=>?_⟩,fun u hu=>?_,by simp [sz1,Rows.uptoBulk],?_⟩
   ·match i,hu,hx with
    | 0,hu,hx =>
     simp at hu hx;subst hu hx;exact .val _
   ·rcases yaw.1 hu with rfl;rfl
   ·simp [Lit.wf,IntKind.min,IntKind.max,IntKind.wrap,IntKind.bits,IntKind.signed] at hw;unfold inR;omega
  ·cases h
theorem opn_elems {t:TypeId} {c:α->List IV} {sz:α->Nat} {ok:α->Prop} {k b o:Nat} (hc:∀ x,(c x).length=k) (D:Nat->DataW H):∀ (n:Nat),
  (∀ i,i<n->∃ (x:α) (cs:List Value),(∀ j,j<k->W.cell? ⟨b,o+(i*k+j),none⟩=cs[j]?)∧zk2 W (lowS W) cs (c x)∧(∀ u∈cs,u.oneCell'=true)∧sz x<=Rows.uptoBulk (D i)∧ok x) ->
  ∃ (xs:List α) (us:List Value),xs.length=n∧us.length=n*k∧(∀ (i:Nat) u,us[i]?=some u->W.cell? ⟨b,o+i,none⟩=some u)∧zk2 W (lowS W) us (xs.map c).flatten∧(∀ u∈us,u.oneCell'=true) ∧
   (xs.map sz).sum<=Rows.uptoBulkAll ((List.range n).map D)∧∀ x∈xs,ok x
 | 0,_=>⟨[],[],rfl,by simp,by simp,⟨rfl,by simp⟩,by simp,by simp,by simp⟩
 | n+1,h=>by
  obtain ⟨xs,us,h1,h2,h3,h4,h5,h6,h7⟩:=opn_elems (t:=t) hc D n fun i hi=>h i (by omega);obtain ⟨x,cs,g1,g2,g3,g4,g5⟩:=h n (by omega);have hcl:cs.length=k:=by rw [g2.1,hc]
  have a2:(xs.map c).flatten.length=n*k:=by rw [<- h4.1,h2]
  refine ⟨xs++[x],us++cs,by simp [h1],by rw [zkJ,h2,hcl,Nat.add_mul];omega,fun i u hu=>?_,⟨?_,fun i u y hu hy=>?_⟩,fun u hu=>?_,?_,fun y hy=>?_⟩
  ·rw [yaq] at hu;split at hu
   ·exact h3 i u hu
   ·rename_i a0;have hj:=(zkI.1 hu).1;have:=g1 (i-us.length) (by omega);rw [hu,show o+(n*k+(i-us.length))=o+i by omega] at this;exact this
  ·rw [ya9,ybt,zkJ,zkJ,h4.1];simp [g2.1]
  ·rw [ya9,ybt,yaq] at hy;rw [yaq] at hu;by_cases a0:i<us.length
   ·rw [if_pos a0] at hu;rw [if_pos (by rw [a2,<- h2];exact a0)] at hy;exact h4.2 i u y hu hy
   ·rw [if_neg a0] at hu;rw [if_neg (by rw [a2,<- h2];exact a0),a2,<- h2] at hy;simp only [yan,ycu,ya4,List.flatten_nil,ybp] at hy;exact g2.2 _ u y hu hy
  ·rcases yal.1 hu with hu | hu
   ·exact h5 u hu
   ·exact g3 u hu
  ·rw [ydz,ya9,ya9,List.sum_append,ztc];simp only [yan,ycu,List.sum_cons,List.sum_nil,Rows.uptoBulkAll];omega
  ·rcases yal.1 hy with hy | hy
   ·exact h7 y hy
   ·rcases yaw.1 hy with rfl;exact g5
theorem opn_slice {t e:TypeId} {c:α->List IV} {sz:α->Nat} {ok:α->Prop} {k:Nat} (ht:Tryz.prog.underlying t=some (.slice e)) (hk:Tryz.prog.cellsOf e=k) (hk0:0<k) (hc:∀ x,(c x).length=k) (O:Opn W enc e c sz ok) :
  Opn W enc t (cL c) (szL sz) (okL ok):=by
 intro fuel cs d ps h hd;rcases open_slice ht h with ⟨rfl,hx⟩ | ⟨a,len,b4,m,n,D,Pl,rfl,_,hl,_,hm,hx,a2⟩
 ·injection hx with a3 a8
  subst a3;refine ⟨[],⟨rfl,fun i u x hu hx=>?_⟩,fun u hu=>?_,by simp [szL,Rows.uptoBulk],fun x hx=>by cases hx⟩
  ·match i,hu,hx with
   | 0,hu,hx =>
    simp at hu hx;subst hu hx;exact .emp _ _
  ·rcases yaw.1 hu with rfl;rfl
 ·injection hx with a3 a8
  subst a3;simp only [if_true] at hm;subst hm
  have a9:Rows.uptoBulkAll ((List.range len).map D)+1<=Rows.uptoBulk (.slice ((List.range len).map D) ((List.range (m-len)).map fun j=>D (len+j))):=by
   simp only [Rows.uptoBulk];omega
  have b3:len<=1048576:=by
   have:=bulk_length ((List.range len).map D);simp at this;omega
  by_cases h0:len=0
  ·subst h0;refine ⟨[],⟨rfl,fun i u x hu hx=>?_⟩,fun u hu=>?_,by simp [szL,Rows.uptoBulk],fun x hx=>by cases hx⟩
   ·match i,hu,hx with
    | 0,hu,hx =>
     simp at hu hx;subst hu hx;exact .emp _ _
   ·rcases yaw.1 hu with rfl;rfl
  ·obtain ⟨ab,ao,a6⟩:=a;rw [hk] at a2
   have b2:a6=none:=by
    obtain ⟨a5,h1,_⟩:=a2 0 (by omega);obtain ⟨_,b0,a0⟩:=World.cells?_some h1;have h2:=a0 0 hk0;rw [zkM (by omega)] at h2;unfold World.cell? Addr.add at h2;simp only [ydv,if_true] at h2;cases a6 with
    | none=>rfl
    | some q =>
     simp at h2;split at h2<;>simp at h2
   subst b2
   obtain ⟨xs,us,h1,h2,h3,h4,h5,h6,h7⟩:=opn_elems (W:=W) (t:=e) (sz:=sz) (ok:=ok) (b:=ab) (o:=ao) hc D len fun i hi=>by
    obtain ⟨a5,e1,e2⟩:=a2 i (by omega);obtain ⟨_,b0,a0⟩:=World.cells?_some e1;obtain ⟨x,r1,r2,r3,r4⟩:=O _ _ _ _ e2 (yce (bulk_mem (yap.2 ⟨i,ycz.2 hi,rfl⟩)) (by omega));refine ⟨x,a5,fun j hj=>?_,r1,r2,r3,r4⟩;have:=a0 j hj;rw [addr_add,addr_add,ybb] at this;exact this
   have a4:ab<W.heap.size:=by
    have a7:0<us.length:=by rw [h2];exact Nat.mul_pos (by omega) hk0
    exact World.block_lt_of_cell? W _ (h3 0 _ (zkM a7))
   refine ⟨xs,⟨rfl,fun i u x hu hx=>?_⟩,fun u hu=>?_,?_,h7⟩
   ·match i,hu,hx with
    | 0,hu,hx =>
     simp at hu hx;subst hu hx;refine .sl ab ao m k len (xs.map c) us (by simp [h1]) (fun e he=>by obtain ⟨y,_,rfl⟩:=yap.1 he;exact hc y) hl (by omega) a4 h4.1 h5 h3 h4.2
   ·rcases yaw.1 hu with rfl;rfl
   ·show (xs.map sz).sum+1<=_;omega
def OpnFs (W:World) (enc:TypeId×Value->H) (fs:List Field) (off len:Nat) (c:α->List IV) (sz:α->Nat) (ok:α->Prop):Prop :=
 ∀ (n:Nat) (cs:List Value) (xs:List (DataW H×List MemPlace)),xs.length=fs.length ->
  (∀ (i:Nat) f,fs[i]?=some f->DataW.trod enc Tryz.prog W 0 (fun _=>true) true n f.type ((cs.drop f.offset).take (Tryz.prog.cellsOf f.type))=xs[i]?)->Rows.uptoBulkAll (xs.map (·.1))<=1048576 ->
  ∃ x,zk2 W (lowS W) ((cs.drop off).take len) (c x)∧(∀ u∈(cs.drop off).take len,u.oneCell'=true)∧sz x<=Rows.uptoBulkAll (xs.map (·.1))∧ok x
theorem opnFs_nil {off:Nat}:OpnFs W enc [] off 0 (fun _:Unit=>[]) (fun _=>0) okT:=by
 intro n cs xs hx h hb;exact ⟨(),⟨by simp,by simp⟩,by simp,yas _,trivial⟩
theorem zon {f:Field} {fs:List Field} {off k len:Nat} {c1:α->List IV} {c2:β->List IV} {s1:α->Nat} {s2:β->Nat} {ok1:α->Prop} {ok2:β->Prop} (ho:f.offset=off) (hk:Tryz.prog.cellsOf f.type=k)
  (O:Opn W enc f.type c1 s1 ok1) (hc:∀ x,(c1 x).length=k) (R:OpnFs W enc fs (off+k) len c2 s2 ok2) :
  OpnFs W enc (f::fs) off (k+len) (fun p:α×β=>c1 p.1++c2 p.2) (fun p=>s1 p.1+s2 p.2) (fun p=>ok1 p.1∧ok2 p.2):=by
 intro n cs xs hx h hb
 match xs,hx with
 | x::xs,hx =>
  have e0:=h 0 f rfl;rw [ho,hk] at e0;simp only [yan,Rows.uptoBulkAll] at hb;obtain ⟨a,r1,r2,r3,r4⟩:=O n _ x.1 x.2 e0 (by omega)
  obtain ⟨b,q1,q2,q3,q4⟩:=R n cs xs (by simpa using hx) (fun i g hg=>by
   have:=h (i+1) g (by simpa using hg)
   simpa using this) (by omega)
  have a0:(cs.drop off).take (k+len)=(cs.drop off).take k++(cs.drop (off+k)).take len:=by
   rw [List.take_add,List.drop_drop]
  have a3:((cs.drop off).take k).length=(c1 a).length:=r1.1;refine ⟨(a,b),?_,fun u hu=>?_,by simp only [yan,Rows.uptoBulkAll];omega,r4,q4⟩
  ·rw [a0];refine ⟨by rw [zkJ,zkJ,r1.1,q1.1],fun i u y hu hy=>?_⟩;rw [yaq,a3] at hu;rw [yaq] at hy;split at hu
   ·rename_i a2;rw [if_pos a2] at hy;exact r1.2 i u y hu hy
   ·rename_i a2;rw [if_neg a2] at hy;exact q1.2 _ u y hu hy
  ·rw [a0] at hu;rcases yal.1 hu with hu | hu
   ·exact r2 u hu
   ·exact q2 u hu
theorem opn_struct {t:TypeId} {fs:Array Field} {len:Nat} {c:α->List IV} {sz:α->Nat} {ok:α->Prop} {c':β->List IV} {sz':β->Nat} {ok':β->Prop} (ht:Tryz.prog.underlying t=some (.struct fs)) (hl:Tryz.prog.cellsOf t=len)
  (R:OpnFs W enc fs.toList 0 len c sz ok) (conv:α->β) (hc:∀ p,c' (conv p)=c p) (hs:∀ p,sz' (conv p)=sz p+1) (ho:∀ p,ok p->ok' (conv p)):Opn W enc t c' sz' ok':=by
 intro fuel cs d ps h hd;obtain ⟨xs,n,rfl,hx,a0,a3,hf⟩:=DataW.trod_struct ht h;injection hx with a2 a4
 subst a2;simp only [Rows.uptoBulk] at hd;obtain ⟨x,r1,r2,r3,r4⟩:=R n cs xs (by rw [a3];simp) (fun i f hi=>hf i f (by simpa using hi)) (by omega);rw [hl] at a0;have e:(cs.drop 0).take len=cs:=by rw [List.drop_zero,<- a0,ycm]
 rw [e] at r1 r2;refine ⟨conv x,by rw [hc];exact r1,r2,?_,ho x r4⟩;rw [hs];simp only [Rows.uptoBulk];omega
theorem arg_struct {t:TypeId} {fs:Array Field} {v:Value} {d:DataW H} {p:List MemPlace} {base:Nat} {c:α->List IV} {sz:α->Nat} {ok:α->Prop} (ht:Tryz.prog.underlying t=some (.struct fs)) (hv:Value.okWide Tryz.prog W .any base t v)
  (h:DataW.Trod enc Tryz.prog W 0 (fun _=>true) true t v d p) (O:Opn W enc t c sz ok) (hb:Rows.uptoBulk d<=1048576):∃ x,RepI W (lowS W) v (.agg (c x))∧sz x<=Rows.uptoBulk d∧ok x:=by
 obtain ⟨cs,rfl,_⟩:=okWide_struct ht hv;obtain ⟨fuel,hf⟩:=h;obtain ⟨x,r1,r2,r3,r4⟩:=O fuel cs.toList d p (by simpa [Value.cells] using hf) hb;refine ⟨x,?_,r3,r4⟩;have:=RepI.agg (w:=W) (S:=lowS W) cs.toList (c x) r1.1 r2 r1.2;simpa using this
theorem arg_slice {t e:TypeId} {v:Value} {d:DataW H} {p:List MemPlace} {base:Nat} {c:α->List IV} {sz:List α->Nat} {ok:List α->Prop} (ht:Tryz.prog.underlying t=some (.slice e)) (hv:Value.okWide Tryz.prog W .any base t v)
  (h:DataW.Trod enc Tryz.prog W 0 (fun _=>true) true t v d p) (O:Opn W enc t (cL c) sz ok) (hb:Rows.uptoBulk d<=1048576):∃ x,RepI W (lowS W) v (nL c x)∧sz x<=Rows.uptoBulk d∧ok x:=by
 obtain ⟨a,l,cp,rfl⟩:=okWide_slice ht hv;obtain ⟨fuel,hf⟩:=h;obtain ⟨x,r1,r2,r3,r4⟩:=O fuel [.slice a l cp] d p (by simpa [Value.cells] using hf) hb;exact ⟨x,r1.2 0 _ _ rfl rfl,r3,r4⟩
theorem sp_law {f:FuncId} {W:World} {vs:List Value} {xs:List Arg} (h:Sp Tryz.prog f xs (.im (nB true))) (ha:zem W (lowS W) vs xs []) :
  Calls Tryz.prog f vs.toArray W fun e W'=>e=.returned (.bool true)∧Below W.heap.size W W':=by
 refine (h.2 W (lowS W) vs [] (fun b hb=>hb) ha yb8 (fun b hb=>by cases hb)).mono ?_;rintro e W' ⟨v,F',rfl,hb,⟨us,F1,F2,e1,ho,_,_⟩,_,_⟩;have e1:us=[v]:=e1;subst e1;refine ⟨?_,hb.below fun b hb=>by cases hb⟩;obtain ⟨F3,F4,⟨hr,_⟩,_⟩:=ho;cases hr;rfl
end
end
section
section
variable {H:Type} {enc:TypeId×Value->H} {W:World}
theorem opn_0:Opn W enc 25 (cL cI) (szL sz1) (okL inR):=opn_slice (k:=1) Tryz.underlying25 (by kernel_rfl) (by decide) (fun _=>rfl) opn_int
theorem opn_1:Opn W enc 22 (cL (cL cI)) (szL (szL sz1)) (okL (okL inR)):=opn_slice (k:=1) Tryz.underlying22 (by kernel_rfl) (by decide) (fun _=>rfl) opn_0
def zr5 (x:zaa):Nat:=(sz1 x.Inputs+(sz1 x.Start+((szL (szL sz1)) x.Next+((szL (szL sz1)) x.Out+0))))+1
def zsi (x:zaa):Prop:=inR x.Inputs∧inR x.Start∧(okL (okL inR)) x.Next∧(okL (okL inR)) x.Out
theorem opn_api_Mealy:Opn W enc 24 zae zr5 zsi :=
 opn_struct (len:=4) Tryz.underlying24 (by kernel_rfl) (zon (k:=1) rfl (by kernel_rfl) opn_int (fun _=>rfl) (zon (k:=1) rfl (by kernel_rfl) opn_int (fun _=>rfl) (zon (k:=1) rfl (by kernel_rfl) opn_1 (fun _=>rfl) (zon (k:=1) rfl (by kernel_rfl) opn_1 (fun _=>rfl) opnFs_nil)))) (fun p=>⟨p.1,p.2.1,p.2.2.1,p.2.2.2.1⟩) (fun _=>rfl) (fun _=>rfl) (fun p h=>⟨h.1,h.2.1,h.2.2.1,h.2.2.2.1⟩)
end
end
end Go.Proofs.YtkiajpbdicaceaaGreatDoor.Sym
namespace Go.Proofs.YtkiajpbdicaceaaGreatDoor
def zn8:List Int->List Int->Nat
 | x::xs,y::ys=>if x=y then zn8 xs ys+1 else 0
 | _,_=>0
def lexI:List Int->List Int->Int
 | [],[]=>0
 | [],_::_=>-1
 | _::_,[]=>1
 | x::xs,y::ys=>if x<y then -1 else if y<x then 1 else lexI xs ys
def cmpW (a b:List Int):Int:=if a.length<b.length then -1 else if b.length<a.length then 1 else lexI a b
def zhq (xs:List Int) (inputs:Int):Int :=
 if 1<=inputs∧inputs<=1024 then if 1024<xs.length then 3 else if xs.all fun a=>decide (0<=a∧a<inputs) then 0 else 1 else 2
section
def Keeps (w w':World):Prop:=∀ p u,w.cell? p=some u->w'.cell? p=some u
theorem Keeps.of_below {w w':World} (h:Below w.heap.size w w'):Keeps w w':=fun p _ hu =>
 (h.cell (p:=p) (World.block_lt_of_cell? w p hu)).trans hu
def ziv {α:Type} (w:World) (R:Value->α->Prop) (A:Option Addr) (n c:Nat) (l:List α):Prop :=
 l.length=n∧n<=c∧n<=17592186044416 ∧
  (0<n->∃ b o,A=some ⟨b,o,none⟩∧∀ i x,l[i]?=some x->∃ u,w.cell? ⟨b,o+i,none⟩=some u∧R u x)
def zo1 (u:Value) (x:Int):Prop:=u=.int .i64 x
section
variable {α:Type} {w w':World} {R R':Value->α->Prop} {A:Option Addr} {n c k:Nat} {l:List α}
theorem ziv.len (h:ziv w R A n c l):l.length=n:=h.1
theorem ziv.small (h:ziv w R A n c l):n<=17592186044416:=h.2.2.1
theorem ziv.keep (h:ziv w R A n c l) (hk:Keeps w w') (hR:∀ u x,R u x->R' u x):ziv w' R' A n c l :=
 ⟨h.1,h.2.1,h.2.2.1,fun hn=>by
  obtain ⟨b,o,e,hc⟩:=h.2.2.2 hn
  refine ⟨b,o,e,fun i x hx=>?_⟩
  obtain ⟨u,hu,hr⟩:=hc i x hx
  exact ⟨u,hk _ _ hu,hR _ _ hr⟩⟩
theorem ziv.at_ (h:ziv w R A n c l) (hk:k<n):∃ b o u x,A=some ⟨b,o,none⟩∧l[k]?=some x∧w.cell? ⟨b,o+k,none⟩=some u∧R u x:=by
 obtain ⟨b,o,e,hc⟩:=h.2.2.2 (by omega);have hl:k<l.length:=by rw [h.1];exact hk
 obtain ⟨u,hu,hr⟩:=hc k l[k] (List.getElem?_eq_getElem hl);exact ⟨b,o,u,l[k],e,List.getElem?_eq_getElem hl,hu,hr⟩
end
theorem ziv.int_at {w:World} {A:Option Addr} {n c k:Nat} {xs:List Int} (h:ziv w zo1 A n c xs) (hk:k<n) :
  ∃ b o x,A=some ⟨b,o,none⟩∧xs[k]?=some x∧w.cell? ⟨b,o+k,none⟩=some (.int .i64 x):=by
 obtain ⟨b,o,u,x,e,hx,hu,rfl⟩:=h.at_ hk;exact ⟨b,o,x,e,hx,hu⟩
theorem zlu {k:IntKind} {a b:Int} (h:a=b):Ending.returned (.int k a)=.returned (.int k b):=by rw [h]
theorem ziv.kept {α:Type} {w w':World} {R:Value->α->Prop} {A:Option Addr} {n c:Nat} {l:List α} (h:ziv w R A n c l) (hk:Keeps w w'):ziv w' R A n c l:=h.keep hk fun _ _ h=>h
theorem zft {α:Type} {l:List α} {k:Nat} {x:α} (hl:l[k]?=some x):l.take (k+1)=l.take k++[x]:=by
 rw [List.take_add_one,hl];rfl
theorem zk9 {α:Type} {l:List α} {k:Nat} {x d:α} (h:l[k]?=some x):l.getD k d=x:=by simp [List.getD_eq_getElem?_getD,h]
end
section
theorem Tryz.infoInt:(Tryz.prog.info? 3).map (fun i=>(i.zero,i.size,i.bytes))=some (some (.int .i64 0),1,8):=by kernel_rfl
theorem Tryz.infoWord:(Tryz.prog.info? 25).map (fun i=>(i.zero,i.size,i.bytes))=some (some (.slice none 0 0),1,24):=by kernel_rfl
theorem addr_add (b o j:Nat):(⟨b,o,none⟩:Addr).add j=⟨b,o+j,none⟩:=by
 unfold Addr.add;split
 ·rename_i h;subst h;rfl
 ·rfl
def Src (w:World) (A:Option Addr) (m:Nat) (news:List Value):Prop :=
 news.length=m∧(0<m->∃ b o,A=some ⟨b,o,none⟩∧∀ j u,news[j]?=some u->w.cell? ⟨b,o+j,none⟩=some u)
section
variable {P:Program} {w:World}
theorem zvw (base:Nat) (t ty e:TypeId) (i:TypeInfo) (z:Value) (bytes:Nat) (ht:P.underlying t=some (.slice e)) (hi:P.info? e=some i) (hz:i.zero=some z)
  (hsize:i.size=1) (hby:i.bytes=bytes) (hzs:z.cells.size=1) (v:Value) (n:Nat) (xs:List Value) (hown:w.ownsRow base e 1 v n xs)
  (A:Option Addr) (m c:Nat) (news:List Value) (hs:Src w A m news) (h1:∀ u∈news,u.oneCell'=true)
  (a2:n+m<=maxLen) (hbytes:(n+m)*bytes<=140737488355328) (hbase:base<=w.heap.size) :
  ∃ v' w',(Builtin.append_ #[t,t] ty #[v,.slice A m c]).run P w=.ok v' w'∧w'.ownsRow base e 1 v' (n+m) (xs++news)∧w.grownBy w' v.ownBlock ∧
   (v'.ownBlock=v.ownBlock∨v'.ownBlock=some w.heap.size):=by
 obtain ⟨hl,hc⟩:=hs;cases A with
 | none =>
  have hm:m=0:=by
   rcases Nat.eq_zero_or_pos m with h0 | h0
   ·exact h0
   ·obtain ⟨b,o,h,_⟩:=hc h0;cases h
  subst hm;have hn:news=[]:=List.eq_nil_of_length_eq_zero hl;subst hn;refine ⟨v,w,?_,by simpa using hown,World.grownBy.refl w _,.inl rfl⟩;rcases hown.2 with ⟨rfl,rfl⟩ | ⟨g,a6,cur,rfl,_,_,a5,_⟩
  ·simp [Builtin.append_,run_underlying ht,sizeOf,typeInfo,hi,Builtin.lenOf,Builtin.firstCells]
  ·simp [Builtin.append_,run_underlying ht,sizeOf,typeInfo,hi,Builtin.lenOf,Builtin.firstCells,a5,storeCells]
 | some ad =>
  have a0:∀ j u,news[j]?=some u->w.cell? (ad.add j)=some u:=by
   intro j u hu;rcases Nat.eq_zero_or_pos m with h0 | h0
   ·subst h0;have hn:news=[]:=List.eq_nil_of_length_eq_zero hl;subst hn;simp at hu
   ·obtain ⟨b,o,h,a4⟩:=hc h0;injection h with h
    subst h;rw [addr_add];exact a4 j u hu
  obtain ⟨v',w',a3,h2,h3,_,h5⟩:=run_append_own_at (P:=P) w base t ty e i z 1 bytes ht hi hz hsize hby hzs (by omega) v n xs hown ad m c news (by omega) a0 h1 a2 hbytes hbase;exact ⟨v',w',a3,h2,h3,h5⟩
theorem wp_append_row {o:Oper} {a:Act} {K:Act->World->Prop} {Q:Exit->Act->World->Prop} (s x:Operand) (t:TypeId)
  (ho:o.op=.call { callee:=.builtin .append,args:=#[s,x],argTypes:=#[t,t] })
  (base:Nat) (e:TypeId) (i:TypeInfo) (z:Value) (bytes:Nat) (ht:P.underlying t=some (.slice e)) (hi:P.info? e=some i) (hz:i.zero=some z)
  (hsize:i.size=1) (hby:i.bytes=bytes) (hzs:z.cells.size=1) (v:Value) (n:Nat) (xs:List Value) (hs:a.eval s=v) (hown:w.ownsRow base e 1 v n xs)
  (A:Option Addr) (m c:Nat) (news:List Value) (hx:a.eval x=.slice A m c) (hsrc:Src w A m news) (h1:∀ u∈news,u.oneCell'=true)
  (a2:n+m<=maxLen) (hbytes:(n+m)*bytes<=140737488355328) (hbase:base<=w.heap.size)
  (h:∀ v' w',w'.ownsRow base e 1 v' (n+m) (xs++news)->w.grownBy w' v.ownBlock->(v'.ownBlock=v.ownBlock∨v'.ownBlock=some w.heap.size)->K (a.put o.dst v') w'):o.wp P a w K Q:=by
 obtain ⟨v',w',a0,h2,h3,h4⟩:=zvw (P:=P) base t o.type e i z bytes ht hi hz hsize hby hzs v n xs hown A m c news hsrc h1 a2 hbytes hbase;unfold Oper.wp execOp;simp only [ho,resolve,invoke,builtin,Sem.run_bind,Sem.run_pure,Result.andThen_ok,List.map_toArray,List.map_cons,List.map_nil,hs,hx,a0];exact h v' w' h2 h3 h4
theorem zhe {ops:Array Oper} {rest:List Oper} {o:Oper} {a:Act} {Q:Exit->Act->World->Prop} (hgd:o.guard=none) (s x:Operand) (t:TypeId)
  (ho:o.op=.call { callee:=.builtin .append,args:=#[s,x],argTypes:=#[t,t] })
  (base:Nat) (e:TypeId) (i:TypeInfo) (z:Value) (bytes:Nat) (ht:P.underlying t=some (.slice e)) (hi:P.info? e=some i) (hz:i.zero=some z)
  (hsize:i.size=1) (hby:i.bytes=bytes) (hzs:z.cells.size=1) (v:Value) (n:Nat) (xs:List Value) (hs:a.eval s=v) (hown:w.ownsRow base e 1 v n xs)
  (A:Option Addr) (m c:Nat) (news:List Value) (hx:a.eval x=.slice A m c) (hsrc:Src w A m news) (h1:∀ u∈news,u.oneCell'=true)
  (a2:n+m<=maxLen) (hbytes:(n+m)*bytes<=140737488355328) (hbase:base<=w.heap.size)
  (h:∀ v' w',w'.ownsRow base e 1 v' (n+m) (xs++news)->w.grownBy w' v.ownBlock->(v'.ownBlock=v.ownBlock∨v'.ownBlock=some w.heap.size)->wpList P ops Q rest (a.put o.dst v') w') :
  wpList P ops Q (o::rest) a w :=
 wpList_plain hgd fun _ hK=>wp_append_row s x t ho base e i z bytes ht hi hz hsize hby hzs v n xs hs hown A m c news hx hsrc h1 a2 hbytes hbase fun v' w' h2 h3 h4=>hK _ _ (h v' w' h2 h3 h4)
end
theorem zh9 {w w':World} (hg:w.grownBy w' none):Keeps w w':=fun _ _ hu=>hg.cell hu (by simp)
theorem zwj {w w':World} (h:Below w.heap.size w w'):w.grownBy w' none:=⟨h.os,h.tape,h.output,h.size,fun k hk _=>h.block k hk⟩
theorem zpr {w w':World} {row:Option Nat} (hg:w.grownBy w' row) {B:Nat} (hB:B<=w.heap.size) (hr:∀ g,row=some g->B<=g):Below B w w':=(Below.refl B w).grown hg hB hr
theorem src_one (w:World) (x:Value) (t:TypeId):Src (w.alloc (.cells #[x] t)) (some ⟨w.heap.size,0,none⟩) 1 [x] :=
 ⟨rfl,fun _=>⟨_,_,rfl,fun j u hu=>by
  have:=cell_one_new w x t j u hu
  rwa [addr_add] at this⟩⟩
end
end Go.Proofs.YtkiajpbdicaceaaGreatDoor
namespace Go.Proofs.YtkiajpbdicaceaaGreatDoor.Sym
section
section
variable {P:Program} {w:World}
theorem zgx {ops:Array Oper} {rest:List Oper} {o:Oper} {a:Act} {Q:Exit->Act->World->Prop} (hgd:o.guard=none) (s x:Operand) (t:TypeId)
  (ho:o.op=.call { callee:=.builtin .append,args:=#[s,x],argTypes:=#[t,t] })
  (base:Nat) (e:TypeId) (i:TypeInfo) (z:Value) (size bytes:Nat) (ht:P.underlying t=some (.slice e)) (hi:P.info? e=some i) (hz:i.zero=some z)
  (hsize:i.size=size) (hby:i.bytes=bytes) (hzs:z.cells.size=size) (hsz:0<size) (v:Value) (n:Nat) (xs:List Value) (hs:a.eval s=v) (hown:w.ownsRow base e size v n xs)
  (A:Option Addr) (m c:Nat) (news:List Value) (hx:a.eval x=.slice A m c) (hl:news.length=m*size) (hsrc:0<m->∃ b q,A=some ⟨b,q,none⟩∧∀ (j:Nat) u,news[j]?=some u->w.cell? ⟨b,q+j,none⟩=some u) (h1:∀ u∈news,u.oneCell'=true)
  (a2:n+m<=maxLen) (hbytes:(n+m)*bytes<=140737488355328) (hbase:base<=w.heap.size)
  (h:∀ v' w',w'.ownsRow base e size v' (n+m) (xs++news)->w.grownBy w' v.ownBlock->(v'.ownBlock=v.ownBlock∨v'.ownBlock=some w.heap.size)->wpList P ops Q rest (a.put o.dst v') w') :
  wpList P ops Q (o::rest) a w:=by
 refine wpList_plain hgd fun _ hK=>?_;obtain ⟨v',w',a0,h2,h3,h4⟩:=zgz (P:=P) base t o.type e i z size bytes ht hi hz hsize hby hzs hsz v n xs hown A m c news hl hsrc h1 a2 hbytes hbase;unfold Oper.wp execOp;simp only [ho,resolve,invoke,builtin,Sem.run_bind,Sem.run_pure,Result.andThen_ok,ydg,yan,ycu,hs,hx,a0];exact hK _ _ (h v' w' h2 h3 h4)
end
theorem zrk {a b c:World} {row row':Option Nat} (h:a.grownBy b row) (k:b.grownBy c row') (hr:row'=row∨∀ g,row'=some g->a.heap.size<=g):a.grownBy c row :=
 ⟨k.os.trans h.os,k.tape.trans h.tape,k.output.trans h.output,yce h.size k.size,fun i hi hne =>
  (k.block i (yb2 hi h.size) (by
   rcases hr with e | e
   ·rw [e];exact hne
   ·intro he
    have:=e i he.symm
    omega)).trans (h.block i hi hne)⟩
def zqh (t:TypeId) (k n:Nat) (us:List Value) (w:World) (e:Ending) (w':World):Prop :=
 ∃ v',e=.returned v'∧w'.ownsRow w.heap.size t k v' n us∧Below w.heap.size w w'
theorem zn7 (w:World) (t:TypeId) (k:Nat):(w.alloc (.cells #[] t)).ownsRow w.heap.size t k (.slice (some ⟨w.heap.size,0,none⟩) 0 0) 0 []:=by
 refine ⟨by simp,.inr ⟨w.heap.size,0,#[],rfl,yam _,?_,yas _,by unfold maxLen;omega,by simp,by simp⟩⟩;exact heap_alloc_new w _
theorem zps {g:FuncId} {t:TypeId} {k by_:Nat} (he:∀ args w,(callFunc g args).run Tryz.prog w=.ok (.enter g args) w) (hk0:0<k)
  (h:∀ (w:World) (A:Option Addr) (n c:Nat) (us:List Value),us.length=n*k->(0<n->∃ b q,A=some ⟨b,q,none⟩∧∀ (j:Nat) u,us[j]?=some u->w.cell? ⟨b,q+j,none⟩=some u) ->
   (∀ u∈us,u.oneCell'=true)->n<=17592186044416->n*by_<=140737488355328->Calls Tryz.prog g #[.slice A n c] w (zqh t k n us w))
  {es:List (List IV)} (hk:∀ e∈es,e.length=k) (hc:za2 es.length by_):Sp Tryz.prog g [.im (.sl es)] (.row t k es):=by
 refine ⟨he,fun w S vs F hS hv hn hF=>?_⟩
 match vs,hv with
 | [v],⟨F1,F2,⟨h3,e1⟩,h5,e3⟩ =>
  have h5:F2=[]:=h5;subst e1 h5 e3;obtain ⟨A,c,us,rfl,hl,h1,a0,a5,hr⟩:=zu8 h3 hk;have a7:us.length=es.length*k:=by rw [hl,zby hk]
  refine (h w A es.length c us a7 a5 h1 a0 hc.1).mono ?_;rintro e w' ⟨v',rfl,ho,hb⟩
  have a2:w'.ownsRow 0 t k v' es.length us:=by
   refine ⟨ho.1,?_⟩;rcases ho.2 with h6 | ⟨g1,cap,cur,k1,_,k3⟩
   ·exact .inl h6
   ·exact .inr ⟨g1,cap,cur,k1,yas _,k3⟩
  have a6:=ho.lt
  have a3:∀ b∈(zbm v').toList,w.heap.size<=b∧b<w'.heap.size:=fun b hb=>by
   refine a6 b ?_;rw [zit a2];simpa using hb
  refine ⟨v',(zbm v').toList,rfl,.of hb,⟨[v'],(zbm v').toList,[],rfl,⟨(zbm v').toList,[],⟨row_one a2,[],⟨us,hk0,hk,a0,a2,hl,h1,fun i u x hu hx=>?_⟩,rfl⟩,rfl,by simp⟩,rfl,by simp⟩,?_,fun b hb=>⟨.inl (a3 b hb).1,(a3 b hb).2⟩⟩
  ·have k1:∀ b,S b->(S b∨w.heap.size<=b∨b∈[])∧b<w'.heap.size∧b∉(zbm v').toList:=fun b a4=>⟨.inl a4,yb2 (hS b a4) hb.size,fun hm=>by
    have h1:=(a3 b hm).1
    have h2:=hS b a4
    omega⟩
   have k2:∀ (p:Addr) u,S p.block->w.cell? p=some u->w'.cell? p=some u:=fun p u hp hu=>by
    have h6:=hb.block p.block (hS _ hp)
    have h7:w'.cell? p=w.cell? p:=by
     unfold World.cell?;rw [h6]
    rw [h7];exact hu
   exact (hr i u x hu hx).mono k1 k2
  ·cases zbm v'<;>simp
end
theorem Tryz.infoC_int:(Tryz.prog.info? 3).map (fun i=>(i.zero,i.size,i.bytes))=some (some (.int .i64 0),1,8):=by kernel_rfl
set_option maxRecDepth 100000 in
set_option maxHeartbeats 400000 in
theorem clone_int (w:World) (A:Option Addr) (n c:Nat) (us:List Value) (hl:us.length=n*1) (hs:0<n->∃ b q,A=some ⟨b,q,none⟩∧∀ (j:Nat) u,us[j]?=some u->w.cell? ⟨b,q+j,none⟩=some u)
  (h1:∀ u∈us,u.oneCell'=true) (hn:n<=17592186044416) (hby:n*8<=140737488355328):Calls Tryz.prog 24 #[.slice A n c] w (zqh 3 1 n us w):=by
 obtain ⟨j0,ji,b3,a6,b0⟩:=info_parts Tryz.infoC_int;have b4:=Lib.run_eql_slice_nil (P:=Tryz.prog) w 25 3 A n c 0 0 Tryz.underlying25;cases A with
 | none =>
  have h0:n=0:=by
   rcases yb4 n with h | h
   ·exact h
   ·obtain ⟨b,q,e,_⟩:=hs h;cases e
  subst h0;have a2:us=[]:=yav (by omega);have HX:=Lib.hid a2;clear a2 hs hl h1
  go_enter Tryz.func24,Tryz.ntmps24
  go_wp2
  go_ret
  rw [HX.out];exact ⟨_,rfl,World.ownsRow_nil _ _ _ _,Below.refl _ _⟩
 | some a =>
  have a3:∀ o,0<n->∃ b q,some a=some ⟨b,q,none⟩∧∀ (j:Nat) u,us[j]?=some u->(w.alloc o).cell? ⟨b,q+j,none⟩=some u:=fun o h=>by
   obtain ⟨b,q,e,hc⟩:=hs h;exact ⟨b,q,e,fun j u hu=>zh9 (World.grownBy_alloc w o none) _ _ (hc j u hu)⟩
  have a4:0+n<=maxLen:=by unfold maxLen;omega
  have a8:(0+n)*8<=140737488355328:=by omega
  have a9:∀ o,w.heap.size<=(w.alloc o).heap.size:=fun o=>by simp
  have a7:=Lib.hid hl;clear hs
  go_enter Tryz.func24,Tryz.ntmps24
  go_wp2_with (at_builtin;refine zgx rfl (.tmp 5) (.tmp 6) 25 rfl w.heap.size 3 j0 (.int .i64 0) 1 8 Tryz.underlying25 ji b3 a6 b0 rfl (by decide) (.slice (some ⟨w.heap.size,0,none⟩) 0 0) 0 _ rfl (zn7 _ _ _) _ _ _ _ rfl a7.out (a3 _) h1 a4 a8 (a9 _) ?_;intro v1 w1 a0 a5 b5)
  go_ret
  have b2:w.grownBy w1 none:=zrk (World.grownBy_alloc w _ none) a5 (.inr fun g e=>by
   have:some w.heap.size=some g:=e
   injection this with this
   omega)
  exact ⟨v1,rfl,by simpa using a0,zpr b2 (yam _) (fun g e=>by cases e)⟩
theorem Tryz.infoC_words:(Tryz.prog.info? 25).map (fun i=>(i.zero,i.size,i.bytes))=some (some (.slice none 0 0),1,24):=by kernel_rfl
set_option maxRecDepth 100000 in
set_option maxHeartbeats 400000 in
theorem clone_words (w:World) (A:Option Addr) (n c:Nat) (us:List Value) (hl:us.length=n*1) (hs:0<n->∃ b q,A=some ⟨b,q,none⟩∧∀ (j:Nat) u,us[j]?=some u->w.cell? ⟨b,q+j,none⟩=some u)
  (h1:∀ u∈us,u.oneCell'=true) (hn:n<=17592186044416) (hby:n*24<=140737488355328):Calls Tryz.prog 136 #[.slice A n c] w (zqh 25 1 n us w):=by
 obtain ⟨j0,ji,b3,a6,b0⟩:=info_parts Tryz.infoC_words;have b4:=Lib.run_eql_slice_nil (P:=Tryz.prog) w 22 25 A n c 0 0 Tryz.underlying22;cases A with
 | none =>
  have h0:n=0:=by
   rcases yb4 n with h | h
   ·exact h
   ·obtain ⟨b,q,e,_⟩:=hs h;cases e
  subst h0;have a2:us=[]:=yav (by omega);have HX:=Lib.hid a2;clear a2 hs hl h1
  go_enter Tryz.func136,Tryz.ntmps136
  go_wp2
  go_ret
  rw [HX.out];exact ⟨_,rfl,World.ownsRow_nil _ _ _ _,Below.refl _ _⟩
 | some a =>
  have a3:∀ o,0<n->∃ b q,some a=some ⟨b,q,none⟩∧∀ (j:Nat) u,us[j]?=some u->(w.alloc o).cell? ⟨b,q+j,none⟩=some u:=fun o h=>by
   obtain ⟨b,q,e,hc⟩:=hs h;exact ⟨b,q,e,fun j u hu=>zh9 (World.grownBy_alloc w o none) _ _ (hc j u hu)⟩
  have a4:0+n<=maxLen:=by unfold maxLen;omega
  have a8:(0+n)*24<=140737488355328:=by omega
  have a9:∀ o,w.heap.size<=(w.alloc o).heap.size:=fun o=>by simp
  have a7:=Lib.hid hl;clear hs
  go_enter Tryz.func136,Tryz.ntmps136
  go_wp2_with (at_builtin;refine zgx rfl (.tmp 5) (.tmp 6) 22 rfl w.heap.size 25 j0 (.slice none 0 0) 1 24 Tryz.underlying22 ji b3 a6 b0 rfl (by decide) (.slice (some ⟨w.heap.size,0,none⟩) 0 0) 0 _ rfl (zn7 _ _ _) _ _ _ _ rfl a7.out (a3 _) h1 a4 a8 (a9 _) ?_;intro v1 w1 a0 a5 b5)
  go_ret
  have b2:w.grownBy w1 none:=zrk (World.grownBy_alloc w _ none) a5 (.inr fun g e=>by
   have:some w.heap.size=some g:=e
   injection this with this
   omega)
  exact ⟨v1,rfl,by simpa using a0,zpr b2 (yam _) (fun g e=>by cases e)⟩
theorem Tryz.infoC_traces:(Tryz.prog.info? 150).map (fun i=>(i.zero,i.size,i.bytes))=some (some (.agg #[.slice none 0 0,.slice none 0 0]),2,48):=by kernel_rfl
set_option maxRecDepth 100000 in
set_option maxHeartbeats 400000 in
theorem clone_traces (w:World) (A:Option Addr) (n c:Nat) (us:List Value) (hl:us.length=n*2) (hs:0<n->∃ b q,A=some ⟨b,q,none⟩∧∀ (j:Nat) u,us[j]?=some u->w.cell? ⟨b,q+j,none⟩=some u)
  (h1:∀ u∈us,u.oneCell'=true) (hn:n<=17592186044416) (hby:n*48<=140737488355328):Calls Tryz.prog 176 #[.slice A n c] w (zqh 150 2 n us w):=by
 obtain ⟨j0,ji,b3,a6,b0⟩:=info_parts Tryz.infoC_traces;have b4:=Lib.run_eql_slice_nil (P:=Tryz.prog) w 77 150 A n c 0 0 Tryz.underlying77;cases A with
 | none =>
  have h0:n=0:=by
   rcases yb4 n with h | h
   ·exact h
   ·obtain ⟨b,q,e,_⟩:=hs h;cases e
  subst h0;have a2:us=[]:=yav (by omega);have HX:=Lib.hid a2;clear a2 hs hl h1
  go_enter Tryz.func176,Tryz.ntmps176
  go_wp2
  go_ret
  rw [HX.out];exact ⟨_,rfl,World.ownsRow_nil _ _ _ _,Below.refl _ _⟩
 | some a =>
  have a3:∀ o,0<n->∃ b q,some a=some ⟨b,q,none⟩∧∀ (j:Nat) u,us[j]?=some u->(w.alloc o).cell? ⟨b,q+j,none⟩=some u:=fun o h=>by
   obtain ⟨b,q,e,hc⟩:=hs h;exact ⟨b,q,e,fun j u hu=>zh9 (World.grownBy_alloc w o none) _ _ (hc j u hu)⟩
  have a4:0+n<=maxLen:=by unfold maxLen;omega
  have a8:(0+n)*48<=140737488355328:=by omega
  have a9:∀ o,w.heap.size<=(w.alloc o).heap.size:=fun o=>by simp
  have a7:=Lib.hid hl;clear hs
  go_enter Tryz.func176,Tryz.ntmps176
  go_wp2_with (at_builtin;refine zgx rfl (.tmp 5) (.tmp 6) 77 rfl w.heap.size 150 j0 (.agg #[.slice none 0 0,.slice none 0 0]) 2 48 Tryz.underlying77 ji b3 a6 b0 rfl (by decide) (.slice (some ⟨w.heap.size,0,none⟩) 0 0) 0 _ rfl (zn7 _ _ _) _ _ _ _ rfl a7.out (a3 _) h1 a4 a8 (a9 _) ?_;intro v1 w1 a0 a5 b5)
  go_ret
  have b2:w.grownBy w1 none:=zrk (World.grownBy_alloc w _ none) a5 (.inr fun g e=>by
   have:some w.heap.size=some g:=e
   injection this with this
   omega)
  exact ⟨v1,rfl,by simpa using a0,zpr b2 (yam _) (fun g e=>by cases e)⟩
section
open Go.RowKit Go.Sort
section plain
variable {α:Type}
def totB [DecidableEq α] (f:α->α->Option Int) (l:List α):Bool :=
 l.all fun a=>l.all fun b=>match f a b,f b a with
  | some m,some n=>(decide (m=0)==decide (a=b))&&(decide (m<0)==decide (0<n))&&(decide (-1<=m∧m<=1))&&l.all fun c=>!(decide (m<0)&&(match f b c with | some x=>decide (x<0) | none=>false))||(match f a c with | some x=>decide (x<0) | none=>false)
  | _,_=>false
def insF (f:α->α->Option Int) (x:α):List α->List α
 | []=>[x]
 | y::l=>match f x y with
  | some m=>cond (decide (m<=0)) (x::y::l) (y::insF f x l)
  | none=>x::y::l
def zo5 (f:α->α->Option Int):List α->List α
 | []=>[]
 | x::l=>insF f x (zo5 f l)
def libSort [DecidableEq α] (l:List α) (f:α->α->Option Int):Option (List α):=chk (l.length<=1000000000) (cond (totB f l) (some (zo5 f l)) none)
def cfv (f:α->α->Option Int) (a b:α):Int:=(f a b).getD 0
structure TotF (f:α->α->Option Int) (l:List α):Prop where
 get:∀ a∈l,∀ b∈l,f a b=some (cfv f a b)
 zero:∀ a∈l,∀ b∈l,cfv f a b=0->a=b
 self:∀ a∈l,cfv f a a=0
 swap:∀ a∈l,∀ b∈l,(cfv f a b<0↔0<cfv f b a)
 trans:∀ a∈l,∀ b∈l,∀ c∈l,cfv f a b<0->cfv f b c<0->cfv f a c<0
theorem totB_iff [DecidableEq α] {f:α->α->Option Int} {l:List α} (h:totB f l=true):TotF f l:=by
 have key:∀ a∈l,∀ b∈l,∃ m n,f a b=some m∧f b a=some n∧(m=0↔a=b)∧(m<0↔0<n)∧∀ c∈l,m<0->(∃ x,f b c=some x∧x<0)->∃ x,f a c=some x∧x<0:=by
  intro a ha b hb;have h1:=ybf.1 (ybf.1 h a ha) b hb;cases e1:f a b with
  | none=>rw [e1] at h1;cases h1
  | some m =>
   cases e2:f b a with
   | none=>rw [e1,e2] at h1;cases h1
   | some n =>
    rw [e1,e2] at h1;simp only [yar] at h1;obtain ⟨⟨⟨h2,h3⟩,_⟩,h5⟩:=h1;refine ⟨m,n,rfl,rfl,?_,?_,fun c hc hm ⟨x,hx,a0⟩=>?_⟩
    ·have h2:=eq_of_beq h2;simpa using h2
    ·have h3:=eq_of_beq h3;simpa using h3
    ·have h6:=ybf.1 h5 c hc;rw [hx] at h6;simp only [hm,a0,decide_true,Bool.and_self,yc7,Bool.false_or] at h6;cases e3:f a c with
     | none=>rw [e3] at h6;cases h6
     | some y=>rw [e3] at h6;exact ⟨y,rfl,by simpa using h6⟩
 have get:∀ a∈l,∀ b∈l,f a b=some (cfv f a b):=fun a ha b hb=>by
  obtain ⟨m,n,e1,_⟩:=key a ha b hb;unfold cfv;rw [e1];rfl
 refine ⟨get,fun a ha b hb=>?_,fun a ha=>?_,fun a ha b hb=>?_,fun a ha b hb c hc h1 h2=>?_⟩
 ·obtain ⟨m,n,e1,e2,h3,_⟩:=key a ha b hb;rw [get a ha b hb] at e1;injection e1 with e1
  rw [e1];exact h3.1
 ·obtain ⟨m,n,e1,e2,h3,_⟩:=key a ha a ha;rw [get a ha a ha] at e1;injection e1 with e1
  rw [e1];exact h3.2 rfl
 ·obtain ⟨m,n,e1,e2,h3,h4,_⟩:=key a ha b hb;rw [get a ha b hb] at e1;rw [get b hb a ha] at e2;injection e1 with e1
  injection e2 with e2
  rw [e1,e2];exact h4
 ·obtain ⟨m,n,e1,e2,h3,h4,h5⟩:=key a ha b hb;rw [get a ha b hb] at e1;injection e1 with e1
  obtain ⟨x,hx,a0⟩:=h5 c hc (by omega) ⟨_,get b hb c hc,h2⟩;rw [get a ha c hc] at hx;injection hx with hx
  omega
theorem TotF.sub {f:α->α->Option Int} {l l':List α} (T:TotF f l) (h:∀ x∈l',x∈l):TotF f l' :=
 ⟨fun a ha b hb=>T.get a (h a ha) b (h b hb),fun a ha b hb=>T.zero a (h a ha) b (h b hb),fun a ha=>T.self a (h a ha),fun a ha b hb=>T.swap a (h a ha) b (h b hb),fun a ha b hb c hc=>T.trans a (h a ha) b (h b hb) c (h c hc)⟩
def NGt (f:α->α->Option Int) (a b:α):Prop:=¬ cfv f b a<0
theorem TotF.ngt_trans {f:α->α->Option Int} {l:List α} (T:TotF f l) {a b c:α} (ha:a∈l) (hb:b∈l) (hc:c∈l) (h1:NGt f a b) (h2:NGt f b c):NGt f a c:=by
 intro h3;have s1:=T.swap a ha b hb;have s2:=T.swap b hb c hc;have s3:=T.swap c hc a ha;have t1:=T.swap b hb a ha;have t2:=T.swap c hc b hb;unfold NGt at h1 h2;by_cases e1:cfv f b a=0
 ·have:=T.zero b hb a ha e1;subst this;exact h2 h3
 ·by_cases e2:cfv f c b=0
  ·have:=T.zero c hc b hb e2;subst this;exact h1 h3
  ·have h4:cfv f a b<0:=s1.2 (by omega);have h5:=T.trans c hc a ha b hb h3 h4;exact h2 h5
theorem insF_le {f:α->α->Option Int} {x y:α} {l:List α} {m:Int} (h:f x y=some m) (hm:m<=0):insF f x (y::l)=x::y::l:=by
 simp [insF,h,hm]
theorem insF_gt {f:α->α->Option Int} {x y:α} {l:List α} {m:Int} (h:f x y=some m) (hm:¬ m<=0):insF f x (y::l)=y::insF f x l:=by
 simp [insF,h,hm]
theorem ztb (f:α->α->Option Int) (x:α):∀ l:List α,(insF f x l).Perm (x::l)
 | []=>List.Perm.refl _
 | y::l=>by
  cases h:f x y with
  | none=>simp [insF,h]
  | some m =>
   by_cases hm:m<=0
   ·rw [insF_le h hm]
   ·rw [insF_gt h hm];exact ((ztb f x l).cons y).trans (List.Perm.swap x y l)
theorem zjb (f:α->α->Option Int):∀ l:List α,(zo5 f l).Perm l
 | []=>List.Perm.refl _
 | x::l=>(ztb f x _).trans ((zjb f l).cons x)
theorem zu6 {f:α->α->Option Int} {x:α}:∀ {l:List α},TotF f (x::l)->l.Pairwise (NGt f)->(insF f x l).Pairwise (NGt f)
 | [],_,_=>yc6 _ _
 | y::l,T,h=>by
  have hx:x∈x::y::l:=by simp
  have hy:y∈x::y::l:=by simp
  have hc:=ybi.1 h;by_cases hd:cfv f x y<=0
  ·rw [insF_le (T.get x hx y hy) hd]
   have a2:NGt f x y:=fun h0=>by
    have:=(T.swap y hy x hx).1 h0;omega
   exact ybi.2 ⟨fun z hz=>by
    rcases yau.1 hz with rfl | a0
    ·exact a2
    ·exact T.ngt_trans hx hy (by simp [a0]) a2 (hc.1 z a0),h⟩
  ·rw [insF_gt (T.get x hx y hy) hd];have a3:NGt f y x:=by unfold NGt;omega
   refine ybi.2 ⟨fun z hz=>?_,zu6 (T.sub fun z hz=>?_) hc.2⟩
   ·rcases yau.1 ((ztb f x l).mem_iff.1 hz) with rfl | a0
    ·exact a3
    ·exact hc.1 z a0
   ·rcases yau.1 hz with rfl | a0
    ·simp
    ·simp [a0]
theorem zqq {f:α->α->Option Int}:∀ {l:List α},TotF f l->(zo5 f l).Pairwise (NGt f)
 | [],_=>List.Pairwise.nil
 | x::l,T=>zu6 (T.sub fun z hz=>by
   rcases yau.1 hz with rfl | hz'
   ·simp
   ·exact yay _ ((zjb f l).mem_iff.1 hz')) (zqq (T.sub fun z hz=>yay _ hz))
theorem ztw {f:α->α->Option Int}:∀ {l1 l2:List α},TotF f l1->l1.Perm l2->l1.Pairwise (NGt f)->l2.Pairwise (NGt f)->l1=l2
 | [],l2,_,hp,_,_=>(List.nil_perm.1 hp).symm
 | x::l1,[],_,hp,_,_=>absurd hp.length_eq (by simp)
 | x::l1,y::l2,T,hp,h1,h2=>by
  have p1:=ybi.1 h1;have p2:=ybi.1 h2;have hx:x∈x::l1:=by simp
  have hy:y∈x::l1:=hp.mem_iff.2 (by simp)
  have e:x=y:=by
   rcases yau.1 hy with e | a4
   ·exact e.symm
   ·have a2:=p1.1 y a4;rcases yau.1 (hp.mem_iff.1 hx) with e | a3
    ·exact e
    ·have a0:=p2.1 x a3;have s1:=T.swap y hy x hx;have s2:=T.swap x hx y hy;unfold NGt at a2 a0;exact T.zero x hx y hy (by omega)
  subst e;rw [ztw (T.sub fun z hz=>yay _ hz) (List.Perm.cons_inv hp) p1.2 p2.2]
end plain
section model
variable {α:Type}
def CmpG (P:Program) (g:FuncId) (X:α->IV) (f:α->α->Option Int):Prop :=
 ∀ (W:World) (S:Nat->Prop) (u u':Value) (x y:α) (r:Int),f x y=some r->RepI W S u (X x)->RepI W S u' (X y) ->
  Calls P g #[u,u'] W fun e w'=>e=.returned (.int .i64 r)∧∃ q os,w'=Sort.grow (W.drewN q) os
def El (w:World) (S:Nat->Prop) (k:Nat) (c:α->List IV) (l:List α):Type:={ p:List Value×α // p.1.length=k∧(∀ v∈p.1,v.oneCell'=true)∧zk2 w S p.1 (c p.2)∧p.2∈l }
variable {w:World} {S:Nat->Prop} {k:Nat} {c:α->List IV} {l:List α}
def El.enc (x:El w S k c l):List Value:=x.val.1
def El.wd (x:El w S k c l):α:=x.val.2
def El.of (us:List Value) (x:α) (h1:us.length=k) (h2:∀ v∈us,v.oneCell'=true) (h3:zk2 w S us (c x)) (h4:x∈l):El w S k c l:=⟨(us,x),h1,h2,h3,h4⟩
theorem el_list (hk:∀ x,(c x).length=k):∀ (l0:List α) (us:List Value),(∀ x∈l0,x∈l)->us.length=(l0.map c).flatten.length->(∀ u∈us,u.oneCell'=true) ->
  (∀ (i:Nat) u x,us[i]?=some u->(l0.map c).flatten[i]?=some x->RepI w S u x)->∃ zs:List (El w S k c l),(zs.map El.enc).flatten=us∧zs.map El.wd=l0
 | [],us,_,hl,_,_=>⟨[],(yav hl).symm,rfl⟩
 | x::l0,us,hm,hl,h1,hr=>by
  rw [yan,ya4] at hl hr;rw [zkJ,hk] at hl
  obtain ⟨zs,e1,e2⟩:=el_list hk l0 (us.drop k) (fun y hy=>hm y (yay _ hy)) (by rw [ya0];omega) (fun u hu=>h1 u (ya1 hu)) fun i u y hu hy=>by
   rw [ya6] at hu;refine hr (k+i) u y hu ?_;rw [yaq,if_neg (by rw [hk];omega),hk]
   rwa [ycp]
  have hx1:(us.take k).length=k:=by rw [yak];omega
  have a0:∀ v∈us.take k,v.oneCell'=true:=fun u hu=>h1 u (yaz hu)
  have a2:zk2 w S (us.take k) (c x):=⟨by rw [hx1,hk],fun i u y hu hy=>by
   have hi:i<k:=by
    rw [<- hk x]
    exact (zkI.1 hy).1
   rw [yax,if_pos hi] at hu
   exact hr i u y hu (by rw [yaq,if_pos (by rw [hk];exact hi)];exact hy)⟩
  refine ⟨El.of (us.take k) x hx1 a0 a2 (hm x (by simp))::zs,?_,?_⟩
  ·rw [yan,ya4,e1];exact List.take_append_drop k us
  ·rw [yan,e2];rfl
theorem el_swo {f:α->α->Option Int} (T:TotF f l):SWO (ltOf fun x y:El w S k c l=>cfv f x.wd y.wd) where
 irrefl x:=by
  have:=T.self x.wd x.property.2.2.2;simp [ltOf,this]
 trans x y z h1 h2:=by
  simp only [ltOf,decide_eq_true_eq] at *;exact T.trans _ x.property.2.2.2 _ y.property.2.2.2 _ z.property.2.2.2 h1 h2
 ntrans x y z h1 h2:=by
  simp only [ltOf,decide_eq_false_iff_not] at *;exact T.ngt_trans z.property.2.2.2 y.property.2.2.2 x.property.2.2.2 h2 h1
def SortC (P:Program) (sg:FuncId) (k:Nat) (mk:List Value->Value):Prop :=
 (∀ (p:Option Addr) (cap:Nat) (fv:Value) (w:World),Calls P sg #[.slice p 0 cap,fv] w fun e w'=>e=.returned (.tuple #[])∧w'=w) ∧
 ∀ (E:Type) [Inhabited E] (enc:E->List Value) (cf:E->E->Int) (g blk cap:Nat) (d:Array E) (w:World),(∀ x,(enc x).length=k)->(∀ x,∀ v∈enc x,v.oneCell'=true)->SWO (ltOf cf) ->
  (∀ args w,(callFunc g args).run P w=.ok (.enter g args) w) ->
  (∀ (m:Nat) (os:Array Obj) (dk:Array E),dk.size=d.size->∀ x y:E,Calls P g #[mk (enc x),mk (enc y)] (Sort.grow (putRow id (Sort.ahead w m) blk 0 (Go.Sort.flatK enc k dk)) os) fun e w' =>
   e=.returned (.int .i64 (cf x y))∧∃ q os',w'=Sort.grow ((Sort.grow (putRow id (Sort.ahead w m) blk 0 (Go.Sort.flatK enc k dk)) os).drewN q) os') ->
  Go.Sort.Holds id w blk 0 (Go.Sort.flatK enc k d)->blk<w.heap.size->d.size<4611686018427387904 ->
  Calls P sg #[.slice (some ⟨blk,0,none⟩) d.size cap,.func (.func g) #[] #[]] w fun e w' =>
   e=.returned (.tuple #[])∧∃ d' n os,PermIn 0 d.size d d'∧SortedIn (ltOf cf) 0 d.size d'∧w'=Sort.grow (putRow id (Sort.ahead w n) blk 0 (Go.Sort.flatK enc k d')) os
theorem perm_of_in' {β:Type} [Inhabited β] {d d':Array β} (h:PermIn 0 d.size d d'):d'.toList.Perm d.toList:=by
 obtain ⟨hs,_,hp⟩:=h;have e1:d'.extract 0 d.size=d':=by rw [<- hs];simp
 have e2:d.extract 0 d.size=d:=by simp
 rwa [e1,e2] at hp
theorem ztd {β:Type} [Inhabited β] {lt:β->β->Bool} {d:Array β} {n:Nat} (hn:d.size=n) (h:SortedIn lt 0 n d):d.toList.Pairwise fun a b=>lt b a=false:=by
 rw [yca];intro i j hi hj a0;have:=h i j (yas _) a0 (by rw [<- hn];simpa using hj);simp at hi hj;simpa [getElem!_pos,hi,hj] using this
theorem zwl {β:Type} [Inhabited β] {enc:β->List Value} {k:Nat} (hk:∀ x,(enc x).length=k) (d:Array β):Go.Sort.flatK enc k d=(d.toList.map enc).flatten.toArray:=by
 have hl:((d.toList.map enc).flatten).length=d.size*k:=by
  rw [zby (k:=k) fun x hx=>by obtain ⟨y,_,rfl⟩:=yap.1 hx;exact hk y];simp
 refine ext_get! (by simp [hl]) fun t ht=>?_;rw [size_flatK] at ht;rw [get_flatK _ _ _ t ht]
 have k0:0<k:=by
  rcases yb4 k with h | h
  ·subst h;simp at ht
  ·exact h
 have hq:t / k<d.size:=Nat.div_lt_of_lt_mul (by rwa [ydx] at ht);have hm:t%k<k:=Nat.mod_lt _ k0;have hg:=flat_get (es:=d.toList.map enc) (i:=t / k) (j:=t%k) (e:=enc (d[t / k]'hq)) (fun x hx=>by obtain ⟨y,_,rfl⟩:=yap.1 hx;exact hk y) (by simp [hq]) hm;rw [show t / k*k+t%k=t by rw [ydx];exact yeb t k] at hg;have a0:t%k<(enc (d[t / k]'hq)).length:=by rw [hk];exact hm
 rw [zkM a0,zkM (by rw [hl];exact ht)] at hg;injection hg with hg
 rw [getElem!_pos d _ hq,getElem!_pos (enc (d[t / k]'hq)) (t%k) a0,getElem!_pos ((d.toList.map enc).flatten.toArray) t (by simpa [hl] using ht)];simpa using hg.symm
theorem own_put {w:World} {base:Nat} {e:TypeId} {g n cap k q:Nat} {us us':List Value} {os:Array Obj} (h:w.ownsRow base e k (.slice (some ⟨g,0,none⟩) n cap) n us) (hl:us'.length=n*k) :
  (Sort.grow (putRow id (Sort.ahead w q) g 0 us'.toArray) os).ownsRow base e k (.slice (some ⟨g,0,none⟩) n cap) n us':=by
 rcases h.2 with ⟨e0,_⟩ | ⟨g',a3,cur,e0,hb,hg,hn,hm,hs,ht⟩
 ·cases e0
 ·injection e0 with e1 _ e3
  injection e1 with e1
  injection e1 with e1
  subst e1;subst e3
  have a2:g<w.heap.size:=by
   rcases ya8 g w.heap.size with h' | h'
   ·exact h'
   ·rw [ydp h'] at hg;cases hg
  refine ⟨hl,.inr ⟨g,cap,putCells id 0 us'.toArray cur,rfl,hb,?_,hn,hm,by simpa [putCells] using hs,?_⟩⟩
  ·have:g<(putRow id (Sort.ahead w q) g 0 us'.toArray).heap.size:=by simpa [putRow,mapBlock,Sort.ahead] using a2
   simp only [Sort.grow,Array.getElem?_append,if_pos this];simp [putRow,mapBlock,Sort.ahead,ycv,hg,onCells]
  ·have a4:n*k<=cap*k:=ybd k hn;apply yb7;intro j;rw [yax,yao];by_cases hj:j<n*k
   ·have a0:j<cur.size:=by omega
    rw [if_pos hj];simp only [putCells,Array.getElem?_mapIdx,ycn a0,yaj];rw [if_pos (by simp;omega),zkM (by omega)];simp [getElem!_pos,show j<us'.length by omega]
   ·rw [if_neg hj,ybe (by omega)]
theorem holds_own {w:World} {base:Nat} {e:TypeId} {g n cap k:Nat} {us:List Value} (h:w.ownsRow base e k (.slice (some ⟨g,0,none⟩) n cap) n us):Go.Sort.Holds id w g 0 us.toArray:=by
 rcases h.2 with ⟨e0,_⟩ | ⟨g',a3,cur,e0,hb,hg,hn,hm,hs,ht⟩
 ·cases e0
 ·injection e0 with e1 _ e3
  injection e1 with e1
  injection e1 with e1
  subst e1;subst e3;intro j hj;have a0:j<us.length:=by simpa using hj
  have a2:j<n*k:=by rw [<- h.1];exact a0
  have a4:n*k<=cap*k:=ybd k hn;have a5:j<cur.size:=by omega
  have e1:(cur.toList.take (n*k))[j]?=us[j]?:=by rw [ht]
  rw [yax,if_pos a2,yao,zkM a0] at e1;refine ⟨?_,by simp [World.frozen?,hg]⟩;simp only [World.cell?,hg,yae,yc8,ydl,if_false];rw [e1];simp [getElem!_pos,a0]
theorem zu2 {w:World} {g q:Nat} {F:Array Value} {os:Array Obj} {b:Nat} (hb:b<w.heap.size) (hne:b≠g):(Sort.grow (putRow id (Sort.ahead w q) g 0 F) os).heap[b]?=w.heap[b]?:=by
 have:b<(putRow id (Sort.ahead w q) g 0 F).heap.size:=by simpa [putRow,mapBlock,Sort.ahead] using hb
 simp only [Sort.grow,Array.getElem?_append,if_pos this];simp [putRow,mapBlock,Sort.ahead,ycv,Ne.symm hne]
theorem put_cell {w:World} {g q:Nat} {F:Array Value} {os:Array Obj} {p:Addr} {u:Value} (hne:p.block≠g) (h:w.cell? p=some u):(Sort.grow (putRow id (Sort.ahead w q) g 0 F) os).cell? p=some u:=by
 have a0:=World.block_lt_of_cell? w _ h;unfold World.cell? at h ⊢;rw [zu2 a0 hne];exact h
theorem zwd [DecidableEq α] {P:Program} {sg:FuncId} {mk:List Value->Value} {t:TypeId} {X:α->IV} (he:∀ args w,(callFunc sg args).run P w=.ok (.enter sg args) w) (C:SortC P sg k mk) (hk0:0<k) (hk:∀ x,(c x).length=k)
  (hX:∀ (W:World) (S:Nat->Prop) us x,us.length=k->(∀ v∈us,v.oneCell'=true)->zk2 W S us (c x)->RepI W S (mk us) (X x))
  {f:α->α->Option Int} {g:FuncId} (eg:∀ args w,(callFunc g args).run P w=.ok (.enter g args) w) (hg:CmpG P g X f) {l r:List α} (h:libSort l f=some r) :
  Sp P sg [.lent (.row t k (l.map c)),.im (.fn g [])] (.mk true [] [.lent (.row t k (r.map c))]):=by
 obtain ⟨e6,h⟩:=zad h;cases hT:totB f l with
 | false=>rw [hT] at h;cases h
 | true =>
 rw [hT] at h;injection h with h
 subst h;have T:=totB_iff hT;refine ⟨he,fun w S vs F hS hv hn hF=>?_⟩
 match vs,hv with
 | [v,u],⟨F1,F2,⟨hv1,inn,hrow,e1⟩,⟨F3,F4,⟨h4,e2⟩,h5,e3⟩,e4⟩ =>
  have h5:F4=[]:=h5;have e1:F1=(zbm v).toList:=e1;subst e1 e2 h5 e3;have e4:F=(zbm v).toList:=by rw [e4];simp
  subst e4;obtain ⟨us,_,_,b2,a0,b4,h1,hr⟩:=hrow;rw [zkK] at a0 b2
  have hu:u=.func (.func g) #[] #[]:=by
   generalize hx:IV.fn g []=x at h4;cases h4 with
   | fn f us cs hl hr =>
    injection hx with d3 d5
    subst d3 d5;have:=yav hl;subst this;rfl
   | _=>cases hx
  subst hu
  have b8:∀ (w':World) (a4:List Value),w'.ownsRow 0 t k v l.length a4->a4.length=((zo5 f l).map c).flatten.length->(∀ u∈a4,u.oneCell'=true) ->
    Belo (fun b=>b∈(zbm v).toList) w.heap.size w w'->(∀ (i:Nat) u x,a4[i]?=some u->((zo5 f l).map c).flatten[i]?=some x->RepI w' (fun b=>(S b∨w.heap.size<=b∨b∈(zbm v).toList)∧b<w'.heap.size∧b∉(zbm v).toList) u x) ->
    ∃ (v1:Value) (F':List Nat),Ending.returned (.tuple #[])=.returned v1∧Belo (fun b=>b∈(zbm v).toList) w.heap.size w w' ∧
     zm5 w' (fun b=>(S b∨w.heap.size<=b∨b∈(zbm v).toList)∧b<w'.heap.size∧b∉F') v1 (bxVs [v,.func (.func g) #[] #[]] [.lent (.row t k (l.map c)),.im (.fn g [])]) (.mk true [] [.lent (.row t k ((zo5 f l).map c))]) F'∧F'.Nodup∧∀ b∈F',(w.heap.size<=b∨b∈(zbm v).toList)∧b<w'.heap.size:=by
   intro w' a4 ho d8 d1 hb d7;refine ⟨_,(zbm v).toList,rfl,hb,⟨[],[],(zbm v).toList,rfl,rfl,⟨(zbm v).toList,[],⟨hv1,inn,⟨a4,hk0,fun x hx=>?_,?_,?_,d8,d1,d7⟩,rfl⟩,rfl,by simp⟩,by simp⟩,hn,fun b a9=>⟨.inr a9,yb2 (hF b a9).2 hb.size⟩⟩
   ·obtain ⟨y,_,rfl⟩:=yap.1 hx;exact hk y
   ·rw [zkK,(zjb f l).length_eq];exact b2
   ·rw [zkK,(zjb f l).length_eq];exact ho
  by_cases b3:v=.slice none 0 0
  ·subst b3
   have a5:l.length=0:=by
    rcases a0.2 with ⟨_,h0⟩ | ⟨_,_,_,e,_⟩
    ·exact h0
    ·cases e
   have a5:l=[]:=yav a5;subst a5;refine (C.1 none 0 _ w).mono ?_;rintro e w' ⟨rfl,rfl⟩;have b6:us=[]:=yav (by rw [b4];rfl);subst b6;exact b8 w' [] a0 rfl (fun u hu=>by cases hu) (Belo.refl _ _ _) fun i u x hu=>by simp at hu
  ·obtain ⟨blk,cap,rfl⟩:∃ blk cap,v=.slice (some ⟨blk,0,none⟩) l.length cap:=by
    rcases a0.2 with ⟨e0,_⟩ | ⟨g,cap,cur,e,_⟩
    ·exact absurd e0 b3
    ·exact ⟨g,cap,e⟩
   have c7:blk<w.heap.size:=(hF blk (by simp [zbm])).2;have b0:¬ S blk:=(hF blk (by simp [zbm])).1;obtain ⟨zs,d4,c6⟩:=el_list (w:=w) (S:=S) (l:=l) hk l us (fun x hx=>hx) b4 h1 hr;by_cases a5:l=[]
   ·subst a5;refine (C.1 (some ⟨blk,0,none⟩) cap _ w).mono ?_;rintro e w' ⟨rfl,rfl⟩;have b6:us=[]:=yav (by rw [b4];rfl);subst b6;exact b8 w' [] a0 rfl (fun u hu=>by cases hu) (Belo.refl _ _ _) fun i u x hu=>by simp at hu
   ·have d6:zs.length=l.length:=by have:=congrArg List.length c6;simpa using this
    obtain ⟨z0,e7⟩:∃ z,z∈zs:=by
     cases zs with
     | nil=>exact absurd (by simpa using c6.symm) a5
     | cons z zs=>exact ⟨z,by simp⟩
    haveI:Inhabited (El w S k c l):=⟨z0⟩
    have a3:∀ x:El w S k c l,(El.enc x).length=k:=fun x=>x.property.1;have a6:∀ d:Array (El w S k c l),Go.Sort.flatK El.enc k d=(d.toList.map El.enc).flatten.toArray:=zwl a3
    have a7:=C.2 (El w S k c l) El.enc (fun x y=>cfv f x.wd y.wd) g blk cap zs.toArray w a3 (fun x=>x.property.2.1) (el_swo T) eg (fun m os dk _ x y=>by
      refine hg _ S _ _ x.wd y.wd _ (T.get _ x.property.2.2.2 _ y.property.2.2.2) (hX _ _ _ _ x.property.1 x.property.2.1 ⟨x.property.2.2.1.1,fun i u z hu hz=>?_⟩) (hX _ _ _ _ y.property.1 y.property.2.1 ⟨y.property.2.2.1.1,fun i u z hu hz=>?_⟩)
      ·exact (x.property.2.2.1.2 i u z hu hz).mono (fun _ h=>h) fun p u hp hu=>put_cell (fun e=>b0 (by rw [<- e];exact hp)) hu
      ·exact (y.property.2.2.1.2 i u z hu hz).mono (fun _ h=>h) fun p u hp hu=>put_cell (fun e=>b0 (by rw [<- e];exact hp)) hu)
     (by rw [a6];show Go.Sort.Holds id w blk 0 ((zs.map El.enc).flatten).toArray;rw [d4];exact holds_own a0) c7 (by simp;omega)
    have b9:zs.toArray.size=l.length:=by simpa using d6
    rw [b9] at a7;refine a7.mono ?_;rintro e w' ⟨rfl,d',n,os,hp,hs,rfl⟩;have b5:d'.size=l.length:=by rw [hp.1];exact b9
    have b7:=perm_of_in' (d:=zs.toArray) (by rw [b9];exact hp);have d2:=ztd b5 hs
    have d9:d'.toList.map El.wd=zo5 f l:=by
     have c9:(d'.toList.map El.wd).Perm l:=(b7.map El.wd).trans (List.Perm.of_eq c6);refine ztw (T.sub fun x hx=>c9.mem_iff.1 hx) (c9.trans (zjb f l).symm) ?_ (zqq T);rw [List.pairwise_map];refine d2.imp fun {a b} hab=>?_;have d0:¬ cfv f b.wd a.wd<0:=by simpa only [ltOf,decide_eq_false_iff_not] using hab
     exact d0
    rw [a6]
    have a2:((d'.toList.map El.enc).flatten).length=l.length*k:=by
     rw [zby (k:=k) fun x hx=>by obtain ⟨y,_,rfl⟩:=yap.1 hx;exact a3 y];simp [b5]
    have c0:((zo5 f l).map c).flatten.length=l.length*k:=by
     rw [zby (k:=k) fun x hx=>by obtain ⟨y,_,rfl⟩:=yap.1 hx;exact hk y,zkK,(zjb f l).length_eq]
    refine b8 _ _ (own_put a0 a2) (by rw [a2,c0]) (fun u hu=>?_) ⟨rfl,rfl,rfl,?_,fun b hb e5=>zu2 hb fun e=>e5 (by simp [zbm,e])⟩ fun i u x hu hx=>?_
    ·obtain ⟨e8,h2,h3⟩:=yc0.1 hu;obtain ⟨y,_,rfl⟩:=yap.1 h2;exact y.property.2.1 u h3
    ·simp [Sort.grow,putRow,mapBlock,Sort.ahead]
    ·have hi:i<l.length*k:=by rw [<- a2];exact (zkI.1 hu).1
     have hq:i / k<l.length:=Nat.div_lt_of_lt_mul (by rwa [ydx] at hi);have hm:i%k<k:=Nat.mod_lt _ hk0;have c8:i / k*k+i%k=i:=by rw [ydx];exact yeb i k
     have a8:i / k<d'.size:=by rw [b5];exact hq
     have g1:=flat_get (es:=d'.toList.map El.enc) (i:=i / k) (j:=i%k) (e:=El.enc (d'[i / k]'a8)) (fun x hx=>by obtain ⟨y,_,rfl⟩:=yap.1 hx;exact a3 y) (by simp [a8]) hm;have g2:=flat_get (es:=(zo5 f l).map c) (i:=i / k) (j:=i%k) (e:=c (El.wd (d'[i / k]'a8))) (fun x hx=>by obtain ⟨y,_,rfl⟩:=yap.1 hx;exact hk y) (by rw [<- d9];simp [a8]) hm;rw [c8,hu] at g1;rw [c8,hx] at g2;refine ((d'[i / k]'a8).property.2.2.1.2 _ _ _ g1.symm g2.symm).mono (fun b hb=>⟨.inl hb,?_,?_⟩) fun p u hp hu=>put_cell (fun e=>b0 (by rw [<- e];exact hp)) hu
     ·have:w.heap.size<=(Sort.grow (putRow id (Sort.ahead w n) blk 0 ((d'.toList.map El.enc).flatten).toArray) os).heap.size:=by simp [Sort.grow,putRow,mapBlock,Sort.ahead]
      exact yb2 (hS b hb) this
     ·intro a9;have:b=blk:=by simpa [zbm] using a9
      subst this;exact b0 hb
end model
end
end Go.Proofs.YtkiajpbdicaceaaGreatDoor.Sym
namespace Go.Proofs.YtkiajpbdicaceaaGreatDoor
def zj7 (d:Nat):UInt8:=if d<10 then UInt8.ofNat (48+d) else UInt8.ofNat (87+d)
def digsF:Nat->Nat->List UInt8
 | 0,u=>[zj7 u]
 | f+1,u=>if u<36 then [zj7 u] else digsF f (u / 36)++[zj7 (u%36)]
theorem zv8:∀ (f g u:Nat),u<=f->u<=g->digsF f u=digsF g u
 | 0,0,_,_,_=>rfl
 | 0,g+1,u,h,_=>by
  have h0:u=0:=by omega
  subst h0;rfl
 | f+1,0,u,_,h=>by
  have h0:u=0:=by omega
  subst h0;rfl
 | f+1,g+1,u,h1,h2=>by
  unfold digsF;by_cases h:u<36
  ·rw [if_pos h,if_pos h]
  ·rw [if_neg h,if_neg h,zv8 f g (u / 36) (by omega) (by omega)]
def digs (u:Nat):List UInt8:=digsF u u
theorem zjd {u:Nat} (h:u<36):digs u=[zj7 u]:=by
 unfold digs;cases u with
 | zero=>rfl
 | succ u=>unfold digsF;rw [if_pos h]
theorem zqk {u:Nat} (h:36<=u):digs u=digs (u / 36)++[zj7 (u%36)]:=by
 obtain ⟨v,rfl⟩:∃ v,u=v+1:=⟨u-1,by omega⟩;show digsF (v+1) (v+1)=digsF ((v+1) / 36) ((v+1) / 36)++[zj7 ((v+1)%36)];rw [digsF,if_neg (by omega),zv8 v ((v+1) / 36) ((v+1) / 36) (by omega) (Nat.le_refl _)]
theorem digs_len:∀ (k u:Nat),u<36^(k+1)->(digs u).length<=k+1
 | 0,u,h=>by rw [zjd (by simpa using h)];simp
 | k+1,u,h=>by
  by_cases h1:u<36
  ·rw [zjd h1];simp
  ·rw [zqk (by omega),List.length_append];have:=digs_len k (u / 36) (by rw [Nat.div_lt_iff_lt_mul (by omega),<- Nat.pow_succ];exact h);simp;omega
theorem zwc {u:Nat} (h:u<18446744073709551616):(digs u).length<=13 :=
 digs_len 12 u (Nat.lt_of_lt_of_le h (by decide))
theorem digs_pos (u:Nat):0<(digs u).length:=by
 by_cases h1:u<36
 ·rw [zjd h1];simp
 ·rw [zqk (by omega)];simp
def undig (c:UInt8):Nat:=if c.toNat<58 then c.toNat-48 else c.toNat-87
theorem undig_dig {d:Nat} (h:d<36):undig (zj7 d)=d:=by
 have:∀ d:Fin 36,undig (zj7 d.1)=d.1:=by decide
 exact this ⟨d,h⟩
theorem dig_char {d:Nat} (h:d<36):48<=(zj7 d).toNat:=by
 have:∀ d:Fin 36,48<=(zj7 d.1).toNat:=by decide
 exact this ⟨d,h⟩
def undigs (l:List UInt8):Nat:=l.foldl (fun n c=>n*36+undig c) 0
theorem zuz (u:Nat):undigs (digs u)=u:=by
 induction u using Nat.strongRecOn with
 | _ u ih =>
  by_cases h1:u<36
  ·rw [zjd h1];simp [undigs,undig_dig h1]
  ·rw [zqk (by omega),undigs,List.foldl_append];have:=ih (u / 36) (by omega);rw [undigs] at this;simp only [List.foldl_cons,List.foldl_nil,this,undig_dig (Nat.mod_lt u (by omega))];omega
theorem digs_inj {u v:Nat} (h:digs u=digs v):u=v:=by rw [<- zuz u,h,zuz]
theorem ztq (u:Nat):∀ c∈digs u,48<=c.toNat:=by
 induction u using Nat.strongRecOn with
 | _ u ih =>
  by_cases h1:u<36
  ·rw [zjd h1];intro c hc;simp at hc;rw [hc];exact dig_char h1
  ·rw [zqk (by omega)];intro c hc;rw [List.mem_append] at hc;rcases hc with hc | hc
   ·exact ih (u / 36) (by omega) c hc
   ·simp at hc;rw [hc];exact dig_char (Nat.mod_lt u (by omega))
def zm3 (a:Int):List UInt8:=if a<0 then 45::digs a.natAbs else digs a.natAbs
theorem zwe (a:Int):∀ c∈zm3 a,c≠32:=by
 intro c hc e;subst e;unfold zm3 at hc;split at hc
 ·simp only [List.mem_cons] at hc;rcases hc with hc | hc
  ·exact absurd hc (by decide)
  ·have:=ztq _ _ hc;exact absurd this (by decide)
 ·have:=ztq _ _ hc;exact absurd this (by decide)
theorem enc36_inj {a b:Int} (h:zm3 a=zm3 b):a=b:=by
 have a0:∀ u v:Nat,45::digs u≠digs v:=fun u v e=>by
  have:=ztq v 45 (by rw [<- e];simp);exact absurd this (by decide)
 unfold zm3 at h;split at h<;>split at h
 ·injection h with _ h
  have:=digs_inj h;omega
 ·exact absurd h (a0 _ _)
 ·exact absurd h.symm (a0 _ _)
 ·have:=digs_inj h;omega
theorem zuh {a:Int} (h1:-9223372036854775808<=a) (h2:a<=9223372036854775807):(zm3 a).length<=14:=by
 have:=zwc (u:=a.natAbs) (by omega);unfold zm3;split<;>simp<;>omega
def keyL:List Int->List UInt8
 | []=>[]
 | a::xs=>zm3 a++32::keyL xs
theorem zvd:∀ xs ys:List Int,keyL (xs++ys)=keyL xs++keyL ys
 | [],_=>rfl
 | a::xs,ys=>by simp [keyL,zvd xs ys]
theorem split_at {c:UInt8}:∀ {xs ys rs ss:List UInt8},(∀ d∈xs,d≠c)->(∀ d∈ys,d≠c)->xs++c::rs=ys++c::ss->xs=ys∧rs=ss
 | [],[],rs,ss,_,_,h=>by simpa using h
 | [],y::ys,rs,ss,_,h2,h=>by
  simp at h;exact absurd h.1.symm (h2 y (by simp))
 | x::xs,[],rs,ss,h1,_,h=>by
  simp at h;exact absurd h.1 (h1 x (by simp))
 | x::xs,y::ys,rs,ss,h1,h2,h=>by
  simp only [List.cons_append,List.cons.injEq] at h;obtain ⟨e1,e2⟩:=split_at (fun d hd=>h1 d (by simp [hd])) (fun d hd=>h2 d (by simp [hd])) h.2;exact ⟨by rw [h.1,e1],e2⟩
theorem keyL_inj:∀ {xs ys:List Int},keyL xs=keyL ys->xs=ys
 | [],[],_=>rfl
 | [],a::ys,h=>by simp [keyL] at h
 | a::xs,[],h=>by simp [keyL] at h
 | a::xs,b::ys,h=>by
  simp only [keyL] at h;obtain ⟨e1,e2⟩:=split_at (zwe a) (zwe b) h;rw [enc36_inj e1,keyL_inj e2]
theorem keyL_len:∀ {xs:List Int},(∀ x∈xs,-9223372036854775808<=x∧x<=9223372036854775807)->(keyL xs).length<=15*xs.length
 | [],_=>by simp [keyL]
 | a::xs,h=>by
  have h1:=keyL_len (xs:=xs) fun x hx=>h x (by simp [hx]);have h2:=h a (by simp);have h3:=zuh h2.1 h2.2;simp only [keyL,List.length_append,List.length_cons];omega
theorem Tryz.infoByte:(Tryz.prog.info? 5).map (fun i=>(i.zero,i.size,i.bytes))=some (some (.int .u8 0),1,1):=by kernel_rfl
def zi0 (l:List UInt8):List Value:=l.map fun b=>.int .u8 (b.toNat:Int)
theorem zqc (l:List UInt8):(zi0 l).length=l.length:=by simp [zi0]
theorem zkc (l m:List UInt8):zi0 (l++m)=zi0 l++zi0 m:=by simp [zi0]
theorem bcells_one (l:List UInt8):∀ u∈zi0 l,u.oneCell'=true:=by
 intro u hu;simp only [zi0,List.mem_map] at hu;obtain ⟨b,_,rfl⟩:=hu;rfl
def OwnB (w:World) (base:Nat) (v:Value) (l:List UInt8):Prop:=w.ownsRow base 5 1 v l.length (zi0 l)
theorem OwnB.lt {w:World} {base:Nat} {v:Value} {l:List UInt8} (h:OwnB w base v l):∀ k,v.ownBlock=some k->base<=k∧k<w.heap.size:=World.ownsRow.lt h
theorem OwnB.nil_ (w:World) (base:Nat):OwnB w base (.slice none 0 0) []:=World.ownsRow_nil _ _ _ _
def MoreB (w:World) (base:Nat) (l:List UInt8) (e:Ending) (w':World):Prop:=∃ v',e=.returned v'∧OwnB w' base v' l∧Below base w w'
theorem idx36 (k:IntKind) (z:Int) (d:Nat) (hz:z=(d:Int)) (hd:d<36) (w:World) :
  (Instr.index 9 (.string { data:=#[48,49,50,51,52,53,54,55,56,57,97,98,99,100,101,102,103,104,105,106,107,108,109,110,111,112,113,114,115,116,117,118,119,120,121,122] }) (.int k z)).run Tryz.prog w=.ok (.int .u8 ((zj7 d).toNat:Int)) w:=by
 subst hz;rw [run_index_string w 9 _ k _ Tryz.underlying9,dif_pos ⟨by omega,by show (d:Int)<((36:Nat):Int);omega⟩];have:∀ d:Fin 36,(({ data:=#[48,49,50,51,52,53,54,55,56,57,97,98,99,100,101,102,103,104,105,106,107,108,109,110,111,112,113,114,115,116,117,118,119,120,121,122] }:ByteArray)[d.1]'(by show d.1<36;exact d.2))=zj7 d.1:=by decide
 have h:=this ⟨d,hd⟩;simp only [Int.toNat_natCast];rw [h]
def Dig (zs:List Value) (i:Nat) (l:List UInt8):Prop:=zs.length=65∧zs.drop i=zi0 l
theorem Dig.push {zs:List Value} {j:Nat} {m:List UInt8} (h:Dig zs (j+1) m) (hj:j<65) (c:UInt8):Dig (zs.set j (.int .u8 (c.toNat:Int))) j (c::m):=by
 obtain ⟨h1,h2⟩:=h;refine ⟨by simpa using h1,?_⟩;rw [List.drop_eq_getElem_cons (by simp;omega),List.getElem_set_self,List.drop_set_of_lt (by omega),h2];rfl
set_option maxRecDepth 100000 in
set_option maxHeartbeats 1600000 in
theorem zvx {B u:Nat} {sv:Value} {l:List UInt8} {w:World} (hu:u<18446744073709551616) (hown:OwnB w B sv l) (hB:B<=w.heap.size) (hl:l.length<=1000000000) :
  Calls Tryz.prog 196 #[sv,.int .u64 u,.int .i64 36,.bool false,.bool true] w (fun e w'=>∃ v',e=.returned (.tuple #[v',.string ByteArray.empty])∧OwnB w' B v' (l++digs u)∧Below B w w'):=by
 obtain ⟨i0,hi,b7,c7,c6⟩:=info_parts Tryz.infoByte;have b5:=Lib.hid hown;clear hown;have b9:(bits BinOp.and IntKind.i64 36 35==0)=false:=by decide
 go_enter Tryz.func196,Tryz.ntmps196
 go_wp2
 go_loopw [1,13,18] (fun v i _ wr=>∃ k j:Nat,∃ m:List UInt8,∃ zs,v=.int .u64 k∧i=.int .i64 j∧k<18446744073709551616∧j+m.length=65∧Hid (digs k++m=digs u)∧Hid (Dig zs j m)∧wr.ownsRow w.heap.size 300 1 (.slice (some ⟨w.heap.size,0,none⟩) 65 65) 65 zs∧Below w.heap.size w wr) (fun v _ _ _=>(intOf v).toNat)
 case atStart=>exact ⟨u,65,[],_,rfl,rfl,hu,rfl,Lib.hid (by simp),Lib.hid ⟨rfl,rfl⟩,World.ownsRow_lit w _ 65 (Nat.le_refl _) (by unfold maxLen;omega) rfl,(Below.refl _ _).alloc (Nat.le_refl _) _⟩
 case round =>
  obtain ⟨k,j,m,zs,rfl,rfl,hk,hj,HD,HZ,a2,a5⟩:=hrel
  have d0:m.length<=12:=by
   have h1:=congrArg List.length HD.out;rw [List.length_append] at h1;have h2:=digs_pos k;have h3:=zwc hu;omega
  obtain ⟨j,rfl⟩:∃ j':Nat,j=j'+1:=⟨j-1,by omega⟩;have b3:j<zs.length:=by rw [HZ.out.1];omega
  have q1:wr.cell? ⟨w.heap.size,j,none⟩=some (zs[j]):=by rw [a2.cellAt j (by omega)];exact List.getElem?_eq_getElem b3
  have q2:wr.frozen? ⟨w.heap.size,j,none⟩=false:=a2.frozenAt j;generalize zs[j]=z0 at q1;have HR:=Lib.hid a2;have HB:=Lib.hid a5;clear a2 a5 b3;by_cases h1:36<=k
  ·have e0:((j+1:Nat):Int)-1=(j:Int):=by omega
   have b8:=fun W=>idx36 .u64 ((k:Int)-(k:Int) / 36*36) (k%36) (by omega) (by omega) W
   go_wp2
   go_roundw
   case rel =>
    obtain ⟨s1,s2⟩:=HR.out.stored j (.int .u8 ((zj7 (k%36)).toNat:Int));exact ⟨k / 36,j,zj7 (k%36)::m,_,by go_num,rfl,by omega,by simp;omega,Lib.hid (by rw [<- HD.out,zqk h1];simp),Lib.hid (HZ.out.push (by omega) _),s1,HB.out.grown s2 HB.out.size (fun g e=>by injection e with e;omega)⟩
   case measure=>simp [intOf]<;>omega
  ·have e0:((j+1:Nat):Int)-1=(j:Int):=by omega
   have b8:=fun W=>idx36 .u64 (k:Int) k rfl (by omega) W;have b0:Tryz.prog.arrayLen 300=65:=by simp [Program.arrayLen,Tryz.underlying300]
   have d3:∀ W,(Instr.sliceAt 300 (.pointer (some ⟨w.heap.size,0,none⟩)) (some (.int .i64 (j:Int))) none none).run Tryz.prog W=.ok (.slice (some ⟨w.heap.size,j,none⟩) (65-j) (65-j)) W:=fun W=>by
    rw [run_sliceAt_array_l W 300 ⟨w.heap.size,0,none⟩ (by simp [Program.arrayLen,Program.elem,Tryz.underlying300]) .i64 (j:Int) (by omega) (by rw [b0];omega)]
    go_simp
    omega
   obtain ⟨s1,s2⟩:=HR.out.stored j (.int .u8 ((zj7 k).toNat:Int));have a4:Below w.heap.size w (wr.setCell ⟨w.heap.size,j,none⟩ (.int .u8 ((zj7 k).toNat:Int))):=HB.out.grown s2 HB.out.size (fun g e=>by injection e with e;omega);have a0:OwnB (wr.setCell ⟨w.heap.size,j,none⟩ (.int .u8 ((zj7 k).toNat:Int))) B sv l:=World.ownsRow.kept b5.out (zwj a4) (by cases sv.ownBlock<;>simp);have a9:=HZ.out.push (by omega) (zj7 k)
   have a8:Src (wr.setCell ⟨w.heap.size,j,none⟩ (.int .u8 ((zj7 k).toNat:Int))) (some ⟨w.heap.size,j,none⟩) (65-j) (zi0 (zj7 k::m)):=by
    refine ⟨by rw [zqc];simp;omega,fun _=>⟨_,_,rfl,fun i v hv=>?_⟩⟩;have hi:i<(zi0 (zj7 k::m)).length:=(List.getElem?_eq_some_iff.1 hv).1;rw [zqc,List.length_cons] at hi;rw [s1.cellAt (j+i) (by omega),<- hv,<- a9.2,List.getElem?_drop]
   have b4:=bcells_one (zj7 k::m);have c0:l.length+(65-j)<=maxLen:=by unfold maxLen;omega
   have c8:(l.length+(65-j))*1<=140737488355328:=by omega
   have b2:B<=(wr.setCell ⟨w.heap.size,j,none⟩ (.int .u8 ((zj7 k).toNat:Int))).heap.size:=Nat.le_trans hB a4.size
   have a3:zi0 l++zi0 (zj7 k::m)=zi0 (l++digs u):=by
    rw [<- zkc,<- HD.out,zjd (by omega)];rfl
   have a7:l.length+(65-j)=(l++digs u).length:=by
    rw [<- HD.out,zjd (by omega)];simp;omega
   have HF:=Lib.hid (And.intro a3 a7);have c9:=Lib.hid a4;clear s1 s2 a9 a4 a3 a7 b0;unfold OwnB at a0
   go_wp2_with (at_builtin;refine zhe rfl (.tmp 95) (.tmp 97) 135 rfl B 5 i0 (.int .u8 0) 1 Tryz.underlying135 hi b7 c7 c6 rfl sv _ _ rfl a0 _ (65-j) (65-j) _ rfl a8 b4 c0 c8 b2 ?_;intro v1 w1 a6 b6 d1)
   go_ret2
   have d2:=a0;refine ⟨_,rfl,?_,?_⟩
   ·unfold OwnB;rw [<- HF.out.1,<- HF.out.2];exact a6
   ·exact (c9.out.mono hB).grown b6 b2 fun g e=>(OwnB.lt a0 g e).1
set_option maxRecDepth 100000 in
set_option maxHeartbeats 800000 in
theorem zo3 {B u:Nat} {sv:Value} {l:List UInt8} {w:World} (hu:u<18446744073709551616) (hown:OwnB w B sv l) (hB:B<=w.heap.size) (hl:l.length<=1000000000) :
  Calls Tryz.prog 164 #[sv,.int .u64 u,.int .i64 36] w (MoreB w B (l++digs u)):=by
 have a0:=zvx hu hown hB hl;clear hown
 go_enter Tryz.func164,Tryz.ntmps164
 go_wp2_with (go_at_call 196;refine a0.mono ?_;rintro e w' ⟨v',rfl,a2,a3⟩)
 go_ret
 exact ⟨_,rfl,a2,a3⟩
set_option maxRecDepth 100000 in
set_option maxHeartbeats 800000 in
theorem appendInt_any {B:Nat} {a:Int} {sv:Value} {l:List UInt8} {w:World} (ha1:-9223372036854775808<=a) (ha2:a<=9223372036854775807) (hown:OwnB w B sv l) (hB:B<=w.heap.size) (hl:l.length<=100000000) :
  Calls Tryz.prog 123 #[sv,.int .i64 a,.int .i64 36] w (MoreB w B (l++zm3 a)):=by
 obtain ⟨i0,hi,b5,b6,b4⟩:=info_parts Tryz.infoByte;by_cases h1:a<0
 ·have a9:∀ t,Src (w.alloc (.cells #[.int .u8 45] t)) (some ⟨w.heap.size,0,none⟩) 1 [.int .u8 45]:=fun t=>src_one w _ t;have b0:∀ u∈[Value.int .u8 45],u.oneCell'=true:=by intro u hu;simp at hu;subst hu;rfl
  have a3:∀ o,(w.alloc o).ownsRow B 5 1 sv l.length (zi0 l):=fun o=>World.ownsRow.alloc hown o;have b3:l.length+1<=maxLen:=by unfold maxLen;omega
  have b8:(l.length+1)*1<=140737488355328:=by omega
  have a7:∀ o,B<=(w.alloc o).heap.size:=fun o=>by simp;omega
  have c0:=OwnB.lt hown;have c6:∀ o,Below B w (w.alloc o):=fun o=>(Below.refl B w).alloc hB o;have b2:=Lib.hid hown;clear hown;have e1:(zm3 a)=45::digs a.natAbs:=by unfold zm3;rw [if_pos h1]
  have HE:=Lib.hid e1;clear e1
  go_enter Tryz.func123,Tryz.ntmps123
  go_wp2_with (at_builtin;refine zhe rfl (.tmp 12) (.tmp 13) 135 rfl B 5 i0 (.int .u8 0) 1 Tryz.underlying135 hi b5 b6 b4 rfl sv _ _ rfl (a3 _) _ 1 1 [.int .u8 45] rfl (a9 _) b0 b3 b8 (a7 _) ?_;intro v1 w1 a5 a6 b7)
  have hw:IntKind.u64.wrap (-IntKind.u64.wrap a)=((a.natAbs:Nat):Int):=by
   rw [IntKind.wrap_u64,IntKind.wrap_u64];omega
  rw [hw]
  have a4:OwnB w1 B v1 (l++[45]):=by
   unfold OwnB;rw [zkc,List.length_append];exact a5
  have b9:Below B w w1:=(c6 _).grown a6 (a7 _) fun g e=>(c0 g e).1;have a2:=zo3 (u:=a.natAbs) (by omega) a4 (Nat.le_trans hB (by have:=a6.size;simp at this;omega)) (by simp;omega);clear a5 a6 b7 a4 a3 a9 a7;refine a2.mono ?_;rintro e w' ⟨v',rfl,a0,a8⟩
  go_wp2
  go_ret
  refine ⟨_,rfl,?_,b9.trans a8⟩;rw [HE.out];simpa using a0
 ·have b2:=Lib.hid hown;have e1:(zm3 a)=digs a.natAbs:=by unfold zm3;rw [if_neg h1]
  have hw:IntKind.u64.wrap a=((a.natAbs:Nat):Int):=by
   rw [IntKind.wrap_u64];omega
  have a2:=zo3 (u:=a.natAbs) (by omega) hown hB (by omega);clear hown
  go_enter Tryz.func123,Tryz.ntmps123
  go_wp2_with (go_at_call 164;refine a2.mono ?_;rintro e w' ⟨v',rfl,a0,a8⟩)
  go_ret
  exact ⟨_,rfl,by rw [e1];exact a0,a8⟩
set_option maxRecDepth 100000 in
theorem zj1 {B:Nat} {a:Int} {sv:Value} {l:List UInt8} {w:World} (ha1:-9223372036854775808<=a) (ha2:a<=9223372036854775807) (hown:OwnB w B sv l) (hB:B<=w.heap.size) (hl:l.length<=100000000) :
  Calls Tryz.prog 82 #[sv,.int .i64 a,.int .i64 36] w (MoreB w B (l++zm3 a)):=by
 have a0:=appendInt_any ha1 ha2 hown hB hl;clear hown
 go_enter Tryz.func82,Tryz.ntmps82
 go_wp2_with (go_at_call 123;refine a0.mono ?_;rintro e w' ⟨v',rfl,a2,a3⟩)
 go_ret
 exact ⟨_,rfl,a2,a3⟩
theorem keyL_take {xs:List Int} {k:Nat} {x:Int} (h:xs[k]?=some x):keyL (xs.take (k+1))=(keyL (xs.take k)++zm3 x)++[32]:=by
 rw [zft h,zvd];simp [keyL]
def Rng (x:Int):Prop:=-9223372036854775808<=x∧x<=9223372036854775807
def KeyPost (w:World) (l:List UInt8) (e:Ending) (w':World):Prop:=e=.returned (.string ⟨l.toArray⟩)∧Below w.heap.size w w'
set_option maxRecDepth 100000 in
set_option maxHeartbeats 1600000 in
theorem key_any {A:Option Addr} {n c:Nat} {xs:List Int} {w:World} (hx:ziv w zo1 A n c xs) (hr:∀ x∈xs,Rng x) (hn:n<=2000000) :
  Calls Tryz.prog 91 #[.slice A n c] w (KeyPost w (keyL xs)):=by
 have HL:=Lib.hid hx.len;have HR:=Lib.hid hr;obtain ⟨i0,hi,b8,c8,c7⟩:=info_parts Tryz.infoByte;clear hr
 go_enter Tryz.func91,Tryz.ntmps91
 go_wp2
 go_loopw [3,5,8] (fun v _ i wr=>∃ k:Nat,k<=n∧i=.int .i64 k∧OwnB wr w.heap.size v (keyL (xs.take k))∧Below w.heap.size w wr) (fun _ _ i _=>n-(intOf i).toNat)
 case atStart=>exact ⟨0,by omega,rfl,OwnB.nil_ _ _,Below.refl _ _⟩
 case round =>
  obtain ⟨k,hk,rfl,a0,a3⟩:=hrel
  have d2:(keyL (xs.take k)).length<=15*k:=by
   have:=keyL_len (xs:=xs.take k) fun x hx=>HR.out x (List.mem_of_mem_take hx);rw [List.length_take] at this;omega
  by_cases h1:k<n
  ·obtain ⟨b,o,x,rfl,a9,b6⟩:=hx.int_at h1;have hc:=Keeps.of_below a3 _ _ b6;have a7:=HR.out x (List.mem_of_getElem? a9);have HX:=Lib.hid a9;have HC:=Lib.hid (zj1 a7.1 a7.2 a0 a3.size (by omega));have d1:=zuh a7.1 a7.2;have HB:=Lib.hid a3;clear a9 b6 a7 a0 a3;have b7:∀ u∈[Value.int .u8 32],u.oneCell'=true:=by intro u hu;simp at hu;subst hu;rfl
   have c6:(keyL (xs.take k)++zm3 x).length+1<=maxLen:=by unfold maxLen;simp;omega
   have c9:((keyL (xs.take k)++zm3 x).length+1)*1<=140737488355328:=by simp;omega
   go_wp2_with (first | (go_at_call 82;refine HC.out.mono ?_;rintro e w1 ⟨v1,rfl,a4,a8⟩;have HH:=Lib.hid (And.intro a4 a8);have b4:=fun t=>src_one w1 (.int .u8 32) t;have a6:=fun o=>World.ownsRow.alloc a4 o;have b0:∀ o,w.heap.size<=(w1.alloc o).heap.size:=(fun o=>by have:=HB.out.size;have:=a8.size;simp;omega);clear a4 a8) | (at_builtin;refine zhe rfl (.tmp 14) (.tmp 15) 135 rfl w.heap.size 5 i0 (.int .u8 0) 1 Tryz.underlying135 hi b8 c8 c7 rfl v1 _ _ rfl (a6 _) _ 1 1 [.int .u8 32] rfl (b4 _) b7 c6 c9 (b0 _) ?_;intro v2 w2 a5 b3 d0))
   have b5:OwnB w2 w.heap.size v2 (keyL (xs.take (k+1))):=by
    unfold OwnB;rw [keyL_take HX.out,zkc,List.length_append];exact a5
   have b2:Below w.heap.size w w2:=((HB.out.trans (HH.out.2.mono (Nat.le_refl _))).alloc (by have:=HB.out.size;have:=HH.out.2.size;omega) _).grown b3 (b0 _) fun g e=>(OwnB.lt HH.out.1 g e).1;clear a5 b3 d0 b4 a6 b0
   go_roundw
   case rel=>exact ⟨k+1,by omega,by go_num,b5,b2⟩
   case measure=>simp [intOf]<;>omega
  ·rw [List.take_of_length_le (by rw [HL.out];omega)] at a0
   have b9:(convert 135 9 u3).run Tryz.prog wr=.ok (.string ⟨(keyL xs).toArray⟩) wr:=by
    rcases a0.2 with ⟨rfl,h0⟩ | ⟨g,c0,cur,rfl,_,_,_⟩
    ·have a2:keyL xs=[]:=List.eq_nil_of_length_eq_zero h0;rw [a2];exact Lib.run_convert_nil_bytes wr _ _ _ 0 Tryz.underlying135 Tryz.underlying5 Tryz.underlying9
    ·refine run_convert_bytes_back wr _ _ _ ⟨g,0,none⟩ c0 (keyL xs) Tryz.underlying135 Tryz.underlying5 Tryz.underlying9 fun j hj=>?_;rw [a0.cells (g:=g) rfl j (.int .u8 ((keyL xs)[j].toNat:Int)) (by simp [zi0,hj])]
   clear a0
   go_wp2
   go_ret
   exact ⟨rfl,a3⟩
end Go.Proofs.YtkiajpbdicaceaaGreatDoor
namespace Go.Proofs.YtkiajpbdicaceaaGreatDoor.Sym
theorem zgo {w:World} {S:Nat->Prop} {v:Value} {l:yab} (h:RepI w S v (nL cI l)):∃ A n c,v=.slice A n c∧ziv w zo1 A n c l:=by
 have h:RepI w S v (.sl (l.map cI)):=h;generalize he:l.map cI=es at h;cases h with
 | emp A c =>
  have:l=[]:=by simpa using he
  subst this;exact ⟨A,0,c,rfl,rfl,yas _,by omega,fun h=>by omega⟩
 | sl b o c k n _ us hn hk hc hs hS hl h1 hu hr =>
  subst he
  have hf:(l.map cI).flatten=l.map fun x=>nI x:=by
   clear hn hk hl hr h
   induction l with
   | nil=>rfl
   | cons x l ih=>rw [yan,ya4,ih];rfl
  rw [hf] at hl hr;refine ⟨_,_,_,rfl,by simpa using hn,hc,hs,fun _=>⟨b,o,rfl,fun i x hx=>?_⟩⟩;have hi:i<us.length:=by rw [hl,zkK];exact (zkI.1 hx).1
  have hg:=zkM hi;refine ⟨_,hu i _ hg,?_⟩;have:=hr i _ (nI x) hg (by rw [yat,hx];rfl);generalize us[i]=u at this;cases this with
  | val _=>rfl
def ztt (l:yab):Option ByteArray:=chk (∀ x∈l,inR x) (chk (l.length<=2000000) (some ⟨(keyL l).toArray⟩))
set_option maxRecDepth 100000 in
theorem zvi (l:yab) (r:ByteArray) (h:ztt l=some r):Sp Tryz.prog 91 [.im (nL cI l)] (.im (nS r)):=by
 obtain ⟨h1,h⟩:=zad h;obtain ⟨h2,h⟩:=zad h;injection h with h
 subst h;refine ⟨fun args w=>zeo rfl rfl rfl args w,fun w S vs F hS hv hn hF=>?_⟩
 match vs,hv with
 | [v],⟨F1,F2,⟨h3,e1⟩,h4,e2⟩ =>
  have h4:F2=[]:=h4;subst e1 h4 e2;obtain ⟨A,n,c,rfl,a0⟩:=zgo h3;refine (key_any a0 h1 (by rw [<- a0.1];exact h2)).mono ?_;rintro e w' ⟨rfl,hb⟩;exact ⟨_,[],rfl,.of hb,⟨[_],[],[],rfl,⟨[],[],⟨.val _,rfl⟩,rfl,rfl⟩,rfl,rfl⟩,yb8,fun b hb=>by simp at hb⟩
end Go.Proofs.YtkiajpbdicaceaaGreatDoor.Sym
namespace Go.Proofs.YtkiajpbdicaceaaGreatDoor
def cmpI (x y:Int):Int:=if x<y then -1 else if y<x then 1 else 0
theorem zlr (x y:Int) (w:World) :
  Calls Tryz.prog 133 #[.int .i64 x,.int .i64 y] w fun e w'=>e=.returned (.int .i64 (cmpI x y))∧w=w':=by
 by_cases h1:x<y
 ·go_enter Tryz.func133,Tryz.ntmps133
  go_wp2
  go_ret
  exact ⟨zlu (by unfold cmpI;rw [if_pos h1]),rfl⟩
 ·by_cases h2:y<x
  ·go_enter Tryz.func133,Tryz.ntmps133
   go_wp2
   go_ret
   exact ⟨zlu (by unfold cmpI;rw [if_neg (by omega),if_pos h2]),rfl⟩
  ·go_enter Tryz.func133,Tryz.ntmps133
   go_wp2
   go_ret
   exact ⟨zlu (by unfold cmpI;rw [if_neg (by omega),if_neg (by omega)]),rfl⟩
theorem lexI_step {xs ys:List Int} {k:Nat} {x y:Int} (hx:xs[k]?=some x) (hy:ys[k]?=some y) :
  lexI (xs.drop k) (ys.drop k)=if cmpI x y=0 then lexI (xs.drop (k+1)) (ys.drop (k+1)) else cmpI x y:=by
 obtain ⟨h1,a2⟩:=List.getElem?_eq_some_iff.1 hx;obtain ⟨h2,a0⟩:=List.getElem?_eq_some_iff.1 hy;rw [List.drop_eq_getElem_cons h1,List.drop_eq_getElem_cons h2,a2,a0];simp only [lexI,cmpI];by_cases a:x<y
 ·simp [a]
 ·by_cases b:y<x
  ·simp [a,b]
  ·simp [a,b]
theorem lexI_long {xs ys:List Int} {k:Nat} (h1:k<xs.length) (h2:ys.length<=k):lexI (xs.drop k) (ys.drop k)=1:=by
 rw [List.drop_eq_getElem_cons h1,List.drop_eq_nil_of_le h2];rfl
theorem lexI_end {xs ys:List Int} {k:Nat} (h1:xs.length<=k):lexI (xs.drop k) (ys.drop k)=if k<ys.length then -1 else 0:=by
 rw [List.drop_eq_nil_of_le h1];by_cases h2:k<ys.length
 ·rw [if_pos h2,List.drop_eq_getElem_cons h2];rfl
 ·rw [if_neg h2,List.drop_eq_nil_of_le (by omega)];rfl
set_option maxHeartbeats 800000 in
theorem zmc {A B:Option Addr} {n c m c':Nat} {xs ys:List Int} {w:World} (hx:ziv w zo1 A n c xs) (hy:ziv w zo1 B m c' ys) :
  Calls Tryz.prog 134 #[.slice A n c,.slice B m c'] w fun e w'=>e=.returned (.int .i64 (lexI xs ys))∧w=w':=by
 have hn:=hx.small;have hm:=hy.small;have HL:=Lib.hid (And.intro hx.len hy.len)
 go_enter Tryz.func134,Tryz.ntmps134
 go_wp2
 go_loop [5,6,7,8,11] (fun _ _ _ _ i=>∃ k:Nat,k<=n∧k<=m∧i=.int .i64 k∧Hid (lexI xs ys=lexI (xs.drop k) (ys.drop k))) (fun _ _ _ _ i=>n-(intOf i).toNat)
 case atStart=>exact ⟨0,by omega,by omega,rfl,Lib.hid (by simp)⟩
 case round =>
  obtain ⟨k,hk,a5,rfl,HT⟩:=hrel;by_cases h1:k<n
  ·obtain ⟨b,o,x,rfl,a4,a6⟩:=hx.int_at h1;have HX:=Lib.hid a4;clear a4;by_cases h2:k<m
   ·obtain ⟨b',o',y,rfl,a3,a7⟩:=hy.int_at h2;have HY:=Lib.hid a3;clear a3;have a0:=lexI_step HX.out HY.out;by_cases h3:cmpI x y=0
    ·rw [if_pos h3] at a0;have a2:=Lib.hid a0;have d3:(cmpI x y != 0)=false:=by simp [h3]
     have H3:=Lib.hid h3;clear h3 a0
     go_wp2_with (go_at_call 133;refine (zlr _ _ _).mono ?_;rintro e w' ⟨rfl,rfl⟩)
     go_round
     case rel=>exact ⟨k+1,by omega,by omega,by go_num,Lib.hid (by rw [HT.out,a2.out])⟩
     case measure=>simp [intOf];omega
    ·rw [if_neg h3] at a0;have a2:=Lib.hid a0;have d3:(cmpI x y != 0)=true:=by simp [h3]
     clear h3 a0
     go_wp2_with (go_at_call 133;refine (zlr _ _ _).mono ?_;rintro e w' ⟨rfl,rfl⟩)
     go_ret
     exact ⟨zlu (by rw [HT.out,a2.out]),rfl⟩
   ·go_wp2
    go_ret
    obtain ⟨h3,h4⟩:=HL.out;exact ⟨zlu (by rw [HT.out,lexI_long (by omega) (by omega)]),rfl⟩
  ·obtain ⟨h3,h4⟩:=HL.out;have HE:=Lib.hid (lexI_end (xs:=xs) (ys:=ys) (k:=k) (by omega));clear h3 h4;by_cases h2:n<m
   ·go_wp2
    go_ret
    obtain ⟨h3,h4⟩:=HL.out;exact ⟨zlu (by rw [HT.out,HE.out,if_pos (by omega)]),rfl⟩
   ·go_wp2
    go_ret
    obtain ⟨h3,h4⟩:=HL.out;exact ⟨zlu (by rw [HT.out,HE.out,if_neg (by omega)]),rfl⟩
theorem ztx {A B:Option Addr} {n c m c':Nat} {xs ys:List Int} {w:World} (hx:ziv w zo1 A n c xs) (hy:ziv w zo1 B m c' ys) :
  Calls Tryz.prog 96 #[.slice A n c,.slice B m c'] w fun e w'=>e=.returned (.int .i64 (lexI xs ys))∧w=w':=by
 go_enter Tryz.func96,Tryz.ntmps96
 go_wp2_with (go_at_call 134;refine (zmc hx hy).mono ?_;rintro e w' ⟨rfl,rfl⟩)
 go_ret
 exact ⟨rfl,rfl⟩
def orI (xs:List Int):Int:=(xs.find? fun a=>a != 0).getD 0
set_option maxHeartbeats 400000 in
theorem cmpOr_any {A:Option Addr} {n c:Nat} {xs:List Int} {w:World} (hx:ziv w zo1 A n c xs) :
  Calls Tryz.prog 132 #[.slice A n c] w fun e w'=>e=.returned (.int .i64 (orI xs))∧w=w':=by
 have a4:=hx.small;have HL:=Lib.hid hx.len
 go_enter Tryz.func132,Tryz.ntmps132
 go_wp2
 go_loop [5,8] (fun _ i=>∃ k:Nat,k<=n∧i=.int .i64 k∧Hid (((xs.take k).find? fun a=>a != 0)=none)) (fun _ i=>n-(intOf i).toNat)
 case atStart=>exact ⟨0,by omega,rfl,Lib.hid (by simp)⟩
 case round =>
  obtain ⟨k,hk,rfl,HT⟩:=hrel;by_cases h1:k<n
  ·obtain ⟨b,o,x,rfl,a0,a3⟩:=hx.int_at h1;have HX:=Lib.hid a0;clear a0;by_cases h2:x=0
   ·have d2:(x != 0)=false:=by simp [h2]
    have H2:=Lib.hid h2;clear h2
    go_wp2
    go_round
    case rel=>exact ⟨k+1,by omega,by go_num,Lib.hid (by rw [zft HX.out,List.find?_append,HT.out,H2.out];rfl)⟩
    case measure=>simp [intOf]<;>omega
   ·have d2:(x != 0)=true:=by simp [h2]
    go_wp2
    go_ret
    refine ⟨zlu ?_,rfl⟩;have a2:=List.take_append_drop (k+1) xs;unfold orI;rw [<- a2,List.find?_append,zft HX.out,List.find?_append,HT.out];simp [h2]
  ·go_wp2
   go_ret
   have ht:=HT.out;rw [List.take_of_length_le (by rw [HL.out];omega)] at ht;exact ⟨zlu (by unfold orI;rw [ht];rfl),rfl⟩
theorem orI_cmp (xs ys:List Int):orI [cmpI xs.length ys.length,lexI xs ys]=cmpW xs ys:=by
 unfold orI cmpI cmpW;by_cases h1:xs.length<ys.length
 ·rw [if_pos (by omega),if_pos h1];rfl
 ·by_cases h2:ys.length<xs.length
  ·rw [if_neg (by omega),if_pos (by omega),if_neg h1,if_pos h2];rfl
  ·rw [if_neg (by omega),if_neg (by omega),if_neg h1,if_neg h2];by_cases h3:lexI xs ys=0
   ·simp [h3]
   ·simp [h3]
theorem src_two {w:World} (x y:Value) (t:TypeId):Src (w.alloc (.cells #[x,y] t)) (some ⟨w.heap.size,0,none⟩) 2 [x,y] :=
 ⟨rfl,fun _=>⟨_,_,rfl,fun j u hu=>by
  have:=cell_two_new w x y t j u hu
  rwa [addr_add] at this⟩⟩
theorem ints_row {w:World} (x y:Int) (t:TypeId):ziv (w.alloc (.cells #[.int .i64 x,.int .i64 y] t)) zo1 (some ⟨w.heap.size,0,none⟩) 2 2 [x,y]:=by
 refine ⟨rfl,Nat.le_refl _,by omega,fun _=>⟨_,_,rfl,fun i z hz=>?_⟩⟩;obtain ⟨_,hc⟩:=src_two (w:=w) (.int .i64 x) (.int .i64 y) t;obtain ⟨b,o,e,a0⟩:=hc (by omega);injection e with e
 injection e with e1 e2
 subst e1 e2
 match i,hz with
 | 0,hz =>
  simp at hz;subst hz;exact ⟨_,a0 0 _ rfl,rfl⟩
 | 1,hz =>
  simp at hz;subst hz;exact ⟨_,a0 1 _ rfl,rfl⟩
set_option maxHeartbeats 400000 in
theorem zta {A B:Option Addr} {n c m c':Nat} {xs ys:List Int} {w:World} (hx:ziv w zo1 A n c xs) (hy:ziv w zo1 B m c' ys) :
  Calls Tryz.prog 93 #[.slice A n c,.slice B m c'] w fun e w'=>e=.returned (.int .i64 (cmpW xs ys))∧w.alloc (.cells #[.int .i64 (cmpI xs.length ys.length),.int .i64 (lexI xs ys)] 3)=w':=by
 have hn:=hx.small;have hm:=hy.small;have a0:=Lib.hid (zmc hx hy);have HE:=Lib.hid (orI_cmp xs ys);have h1:=hx.len;have h2:=hy.len;have HO:=Lib.hid (fun t=>cmpOr_any (ints_row (w:=w) (cmpI xs.length ys.length) (lexI xs ys) t));rw [h1,h2] at HE HO;rw [h1,h2];clear h1 h2 hx hy
 go_enter Tryz.func93,Tryz.ntmps93
 go_wp2_with (first | (go_at_call 133;refine (zlr _ _ _).mono ?_;rintro e w' ⟨rfl,rfl⟩) | (go_at_call 134;refine a0.out.mono ?_;rintro e w' ⟨rfl,rfl⟩) | (go_at_call 132;refine (HO.out _).mono ?_;rintro e w' ⟨rfl,rfl⟩))
 go_ret
 exact ⟨zlu HE.out,rfl⟩
end Go.Proofs.YtkiajpbdicaceaaGreatDoor
namespace Go.Proofs
section
open Go.Shelf
def Tryz.sortI_ren:Go.Shelf.Ren:=⟨fun | 189=>22 | 125=>46 | 257=>45 | 128=>80 | 129=>81 | 294=>71 | 295=>72 | 296=>73 | 297=>74 | 298=>75 | 299=>76 | 216=>77 | 300=>78 | 301=>79 | 328=>117 | 329=>118 | 330=>119 | 331=>120 | 332=>121 | 215=>122 | 343=>163 | n=>n,fun | 28=>25 | 3=>3 | 46=>99 | 0=>0 | 51=>132 | 53=>134 | 4=>4 | 183=>126 | 182=>125 | 131=>64 | 5=>5 | 9=>9 | 218=>172 | 222=>176 | 228=>229 | 229=>120 | n=>n,fun | n=>n⟩
theorem Tryz.sortI:Go.Proofs.Lays.n189 Tryz.prog Tryz.sortI_ren:={
 mixed:=by kernel_rfl
 f125:=Tryz.func46.trans (congrArg some (by kernel_rfl))
 f128:=Tryz.func80.trans (congrArg some (by kernel_rfl))
 f129:=Tryz.func81.trans (congrArg some (by kernel_rfl))
 f189:=Tryz.func22.trans (congrArg some (by kernel_rfl))
 f215:=Tryz.func122.trans (congrArg some (by kernel_rfl))
 f216:=Tryz.func77.trans (congrArg some (by kernel_rfl))
 f257:=Tryz.func45.trans (congrArg some (by kernel_rfl))
 f294:=Tryz.func71.trans (congrArg some (by kernel_rfl))
 f295:=Tryz.func72.trans (congrArg some (by kernel_rfl))
 f296:=Tryz.func73.trans (congrArg some (by kernel_rfl))
 f297:=Tryz.func74.trans (congrArg some (by kernel_rfl))
 f298:=Tryz.func75.trans (congrArg some (by kernel_rfl))
 f299:=Tryz.func76.trans (congrArg some (by kernel_rfl))
 f300:=Tryz.func78.trans (congrArg some (by kernel_rfl))
 f301:=Tryz.func79.trans (congrArg some (by kernel_rfl))
 f328:=Tryz.func117.trans (congrArg some (by kernel_rfl))
 f329:=Tryz.func118.trans (congrArg some (by kernel_rfl))
 f330:=Tryz.func119.trans (congrArg some (by kernel_rfl))
 f331:=Tryz.func120.trans (congrArg some (by kernel_rfl))
 f332:=Tryz.func121.trans (congrArg some (by kernel_rfl))
 f343:=Tryz.func163.trans (congrArg some (by kernel_rfl))
 t0:=Tryz.underlying0
 a0:=Tryz.isAgg0
 z0:=Tryz.sizeOf0
 v0:=Tryz.zeroValue0
 t3:=Tryz.underlying3
 a3:=Tryz.isAgg3
 z3:=Tryz.sizeOf3
 v3:=Tryz.zeroValue3
 t4:=Tryz.underlying4
 a4:=Tryz.isAgg4
 z4:=Tryz.sizeOf4
 v4:=Tryz.zeroValue4
 t5:=Tryz.underlying5
 a5:=Tryz.isAgg5
 z5:=Tryz.sizeOf5
 v5:=Tryz.zeroValue5
 t9:=Tryz.underlying9
 a9:=Tryz.isAgg9
 z9:=Tryz.sizeOf9
 v9:=Tryz.zeroValue9
 t28:=Tryz.underlying25
 a28:=Tryz.isAgg25
 z28:=Tryz.sizeOf25
 v28:=Tryz.zeroValue25
 t46:=Tryz.underlying99
 a46:=Tryz.isAgg99
 z46:=Tryz.sizeOf99
 v46:=Tryz.zeroValue99
 t51:=Tryz.underlying132
 a51:=Tryz.isAgg132
 z51:=Tryz.sizeOf132
 v51:=Tryz.zeroValue132
 t53:=Tryz.underlying134
 a53:=Tryz.isAgg134
 z53:=Tryz.sizeOf134
 v53:=Tryz.zeroValue134
 t131:=Tryz.underlying64
 a131:=Tryz.isAgg64
 z131:=Tryz.sizeOf64
 v131:=Tryz.zeroValue64
 t182:=Tryz.underlying125
 a182:=Tryz.isAgg125
 z182:=Tryz.sizeOf125
 v182:=Tryz.zeroValue125
 t183:=Tryz.underlying126
 a183:=Tryz.isAgg126
 z183:=Tryz.sizeOf126
 v183:=Tryz.zeroValue126
 t218:=Tryz.underlying172
 a218:=Tryz.isAgg172
 z218:=Tryz.sizeOf172
 v218:=Tryz.zeroValue172
 t222:=Tryz.underlying176
 a222:=Tryz.isAgg176
 z222:=Tryz.sizeOf176
 v222:=Tryz.zeroValue176
 t228:=Tryz.underlying229
 a228:=Tryz.isAgg229
 z228:=Tryz.sizeOf229
 v228:=Tryz.zeroValue229
 t229:=Tryz.underlying120
 a229:=Tryz.isAgg120
 z229:=Tryz.sizeOf120
 v229:=Tryz.zeroValue120 }
def Tryz.sortW_ren:Go.Shelf.Ren:=⟨fun | 6=>92 | 15=>46 | 14=>131 | 28=>80 | 29=>81 | 20=>165 | 21=>166 | 22=>167 | 23=>168 | 24=>169 | 25=>170 | 26=>171 | 27=>172 | 46=>197 | 47=>118 | 48=>119 | 49=>198 | 50=>199 | 57=>223 | n=>n,fun | 22=>22 | 24=>25 | 25=>145 | 3=>3 | 39=>99 | 0=>0 | 53=>132 | 55=>134 | 4=>4 | 46=>126 | 45=>125 | 50=>64 | 5=>5 | 9=>9 | 66=>172 | 70=>176 | 76=>229 | 77=>120 | n=>n,fun | n=>n⟩
theorem Tryz.sortW:Go.Proofs.SlLaysF.n6 Tryz.prog Tryz.sortW_ren:={
 mixed:=by kernel_rfl
 f6:=⟨Tryz.f92.name,by decide,Tryz.func92.trans (congrArg some (by kernel_rfl))⟩
 f14:=⟨Tryz.f131.name,by decide,Tryz.func131.trans (congrArg some (by kernel_rfl))⟩
 f15:=Tryz.func46.trans (congrArg some (by kernel_rfl))
 f20:=⟨Tryz.f165.name,by decide,Tryz.func165.trans (congrArg some (by kernel_rfl))⟩
 f21:=⟨Tryz.f166.name,by decide,Tryz.func166.trans (congrArg some (by kernel_rfl))⟩
 f22:=⟨Tryz.f167.name,by decide,Tryz.func167.trans (congrArg some (by kernel_rfl))⟩
 f23:=⟨Tryz.f168.name,by decide,Tryz.func168.trans (congrArg some (by kernel_rfl))⟩
 f24:=⟨Tryz.f169.name,by decide,Tryz.func169.trans (congrArg some (by kernel_rfl))⟩
 f25:=⟨Tryz.f170.name,by decide,Tryz.func170.trans (congrArg some (by kernel_rfl))⟩
 f26:=⟨Tryz.f171.name,by decide,Tryz.func171.trans (congrArg some (by kernel_rfl))⟩
 f27:=⟨Tryz.f172.name,by decide,Tryz.func172.trans (congrArg some (by kernel_rfl))⟩
 f28:=Tryz.func80.trans (congrArg some (by kernel_rfl))
 f29:=Tryz.func81.trans (congrArg some (by kernel_rfl))
 f46:=⟨Tryz.f197.name,by decide,Tryz.func197.trans (congrArg some (by kernel_rfl))⟩
 f47:=Tryz.func118.trans (congrArg some (by kernel_rfl))
 f48:=Tryz.func119.trans (congrArg some (by kernel_rfl))
 f49:=⟨Tryz.f198.name,by decide,Tryz.func198.trans (congrArg some (by kernel_rfl))⟩
 f50:=⟨Tryz.f199.name,by decide,Tryz.func199.trans (congrArg some (by kernel_rfl))⟩
 f57:=⟨Tryz.f223.name,by decide,Tryz.func223.trans (congrArg some (by kernel_rfl))⟩
 t0:=Tryz.underlying0
 a0:=Tryz.isAgg0
 z0:=Tryz.sizeOf0
 v0:=Tryz.zeroValue0
 t3:=Tryz.underlying3
 a3:=Tryz.isAgg3
 z3:=Tryz.sizeOf3
 v3:=Tryz.zeroValue3
 t4:=Tryz.underlying4
 a4:=Tryz.isAgg4
 z4:=Tryz.sizeOf4
 v4:=Tryz.zeroValue4
 t5:=Tryz.underlying5
 a5:=Tryz.isAgg5
 z5:=Tryz.sizeOf5
 v5:=Tryz.zeroValue5
 t9:=Tryz.underlying9
 a9:=Tryz.isAgg9
 z9:=Tryz.sizeOf9
 v9:=Tryz.zeroValue9
 t22:=Tryz.underlying22
 a22:=Tryz.isAgg22
 z22:=Tryz.sizeOf22
 v22:=Tryz.zeroValue22
 a24:=Tryz.isAgg25
 z24:=Tryz.sizeOf25
 t25:=Tryz.underlying145
 a25:=Tryz.isAgg145
 z25:=Tryz.sizeOf145
 v25:=Tryz.zeroValue145
 t39:=Tryz.underlying99
 a39:=Tryz.isAgg99
 z39:=Tryz.sizeOf99
 v39:=Tryz.zeroValue99
 t45:=Tryz.underlying125
 a45:=Tryz.isAgg125
 z45:=Tryz.sizeOf125
 v45:=Tryz.zeroValue125
 t46:=Tryz.underlying126
 a46:=Tryz.isAgg126
 z46:=Tryz.sizeOf126
 v46:=Tryz.zeroValue126
 t50:=Tryz.underlying64
 a50:=Tryz.isAgg64
 z50:=Tryz.sizeOf64
 v50:=Tryz.zeroValue64
 t53:=Tryz.underlying132
 a53:=Tryz.isAgg132
 z53:=Tryz.sizeOf132
 v53:=Tryz.zeroValue132
 t55:=Tryz.underlying134
 a55:=Tryz.isAgg134
 z55:=Tryz.sizeOf134
 v55:=Tryz.zeroValue134
 t66:=Tryz.underlying172
 a66:=Tryz.isAgg172
 z66:=Tryz.sizeOf172
 v66:=Tryz.zeroValue172
 t70:=Tryz.underlying176
 a70:=Tryz.isAgg176
 z70:=Tryz.sizeOf176
 v70:=Tryz.zeroValue176
 t76:=Tryz.underlying229
 a76:=Tryz.isAgg229
 z76:=Tryz.sizeOf229
 v76:=Tryz.zeroValue229
 t77:=Tryz.underlying120
 a77:=Tryz.isAgg120
 z77:=Tryz.sizeOf120
 v77:=Tryz.zeroValue120 }
def Tryz.sortF_ren:Go.Shelf.Ren:=⟨fun | 14=>201 | 20=>225 | 21=>226 | 22=>227 | 23=>228 | 24=>229 | 25=>230 | 26=>231 | 27=>232 | 46=>253 | 47=>118 | 48=>119 | 49=>254 | 50=>255 | 15=>46 | 57=>260 | 28=>80 | 29=>81 | n=>n,fun | 24=>150 | 22=>77 | 3=>3 | 25=>195 | 4=>4 | 0=>0 | 46=>126 | 45=>125 | 50=>64 | 66=>172 | 39=>99 | 55=>134 | 70=>176 | 76=>229 | 77=>120 | 53=>132 | 5=>5 | 9=>9 | n=>n,fun | n=>n⟩
theorem Tryz.sortF:Go.Proofs.SlLaysF0.n14 Tryz.prog Tryz.sortF_ren:={
 mixed:=by kernel_rfl
 f14:=⟨Tryz.f201.name,by decide,Tryz.func201.trans (congrArg some (by kernel_rfl))⟩
 f15:=Tryz.func46.trans (congrArg some (by kernel_rfl))
 f20:=⟨Tryz.f225.name,by decide,Tryz.func225.trans (congrArg some (by kernel_rfl))⟩
 f21:=⟨Tryz.f226.name,by decide,Tryz.func226.trans (congrArg some (by kernel_rfl))⟩
 f22:=⟨Tryz.f227.name,by decide,Tryz.func227.trans (congrArg some (by kernel_rfl))⟩
 f23:=⟨Tryz.f228.name,by decide,Tryz.func228.trans (congrArg some (by kernel_rfl))⟩
 f24:=⟨Tryz.f229.name,by decide,Tryz.func229.trans (congrArg some (by kernel_rfl))⟩
 f25:=⟨Tryz.f230.name,by decide,Tryz.func230.trans (congrArg some (by kernel_rfl))⟩
 f26:=⟨Tryz.f231.name,by decide,Tryz.func231.trans (congrArg some (by kernel_rfl))⟩
 f27:=⟨Tryz.f232.name,by decide,Tryz.func232.trans (congrArg some (by kernel_rfl))⟩
 f28:=Tryz.func80.trans (congrArg some (by kernel_rfl))
 f29:=Tryz.func81.trans (congrArg some (by kernel_rfl))
 f46:=⟨Tryz.f253.name,by decide,Tryz.func253.trans (congrArg some (by kernel_rfl))⟩
 f47:=Tryz.func118.trans (congrArg some (by kernel_rfl))
 f48:=Tryz.func119.trans (congrArg some (by kernel_rfl))
 f49:=⟨Tryz.f254.name,by decide,Tryz.func254.trans (congrArg some (by kernel_rfl))⟩
 f50:=⟨Tryz.f255.name,by decide,Tryz.func255.trans (congrArg some (by kernel_rfl))⟩
 f57:=⟨Tryz.f260.name,by decide,Tryz.func260.trans (congrArg some (by kernel_rfl))⟩
 t0:=Tryz.underlying0
 a0:=Tryz.isAgg0
 z0:=Tryz.sizeOf0
 v0:=Tryz.zeroValue0
 t3:=Tryz.underlying3
 a3:=Tryz.isAgg3
 z3:=Tryz.sizeOf3
 v3:=Tryz.zeroValue3
 t4:=Tryz.underlying4
 a4:=Tryz.isAgg4
 z4:=Tryz.sizeOf4
 v4:=Tryz.zeroValue4
 t5:=Tryz.underlying5
 a5:=Tryz.isAgg5
 z5:=Tryz.sizeOf5
 v5:=Tryz.zeroValue5
 t9:=Tryz.underlying9
 a9:=Tryz.isAgg9
 z9:=Tryz.sizeOf9
 v9:=Tryz.zeroValue9
 t22:=Tryz.underlying77
 a22:=Tryz.isAgg77
 z22:=Tryz.sizeOf77
 v22:=Tryz.zeroValue77
 t25:=Tryz.underlying195
 a25:=Tryz.isAgg195
 z25:=Tryz.sizeOf195
 v25:=Tryz.zeroValue195
 t39:=Tryz.underlying99
 a39:=Tryz.isAgg99
 z39:=Tryz.sizeOf99
 v39:=Tryz.zeroValue99
 t45:=Tryz.underlying125
 a45:=Tryz.isAgg125
 z45:=Tryz.sizeOf125
 v45:=Tryz.zeroValue125
 t46:=Tryz.underlying126
 a46:=Tryz.isAgg126
 z46:=Tryz.sizeOf126
 v46:=Tryz.zeroValue126
 t50:=Tryz.underlying64
 a50:=Tryz.isAgg64
 z50:=Tryz.sizeOf64
 v50:=Tryz.zeroValue64
 t53:=Tryz.underlying132
 a53:=Tryz.isAgg132
 z53:=Tryz.sizeOf132
 v53:=Tryz.zeroValue132
 t55:=Tryz.underlying134
 a55:=Tryz.isAgg134
 z55:=Tryz.sizeOf134
 v55:=Tryz.zeroValue134
 t66:=Tryz.underlying172
 a66:=Tryz.isAgg172
 z66:=Tryz.sizeOf172
 v66:=Tryz.zeroValue172
 t70:=Tryz.underlying176
 a70:=Tryz.isAgg176
 z70:=Tryz.sizeOf176
 v70:=Tryz.zeroValue176
 t76:=Tryz.underlying229
 a76:=Tryz.isAgg229
 z76:=Tryz.sizeOf229
 v76:=Tryz.zeroValue229
 t77:=Tryz.underlying120
 a77:=Tryz.isAgg120
 z77:=Tryz.sizeOf120
 v77:=Tryz.zeroValue120 }
end
end Go.Proofs
namespace Go.Proofs.YtkiajpbdicaceaaGreatDoor.Sym
section
open Go.RowKit Go.Sort
theorem zwo {E:Type} [Inhabited E] (enc:E->Value) (w:World) (blk off:Nat) (d:Array E):putRow enc w blk off d=putRow id w blk off (d.map enc):=by
 unfold putRow;congr 1;funext c;unfold putCells;congr 1;funext k x;rw [Array.size_map];by_cases h:off<=k∧k<off+d.size
 ·have h1:k-off<d.size:=by omega
  rw [if_pos h,if_pos h,getElem!_pos d _ h1,getElem!_pos (d.map enc) _ (by simpa using h1)];simp
 ·rw [if_neg h,if_neg h]
theorem holds_map {E:Type} [Inhabited E] {enc:E->Value} {w:World} {blk off:Nat} {d:Array E} (h:Go.Sort.Holds id w blk off (d.map enc)):Go.Sort.Holds enc w blk off d:=fun j hj=>by
 have:=h j (by simpa using hj);rw [getElem!_pos (d.map enc) _ (by simpa using hj)] at this;rw [getElem!_pos d _ hj];simpa using this
def one1 (us:List Value):Value:=us.headD undef
theorem flat_one1 {E:Type} [Inhabited E] {enc:E->List Value} (hk:∀ x,(enc x).length=1) (d:Array E):Go.Sort.flatK enc 1 d=d.map fun x=>one1 (enc x):=by
 rw [zwl hk]
 have:(d.toList.map enc).flatten=d.toList.map fun x=>one1 (enc x):=by
  generalize d.toList=l
  induction l with
  | nil=>rfl
  | cons x l ih =>
   rw [yan,ya4,ih,yan];have:=hk x
   match h:enc x,this with
   | [v],_=>rfl
 rw [this];apply ydw;simp
theorem sortC_words:SortC Tryz.prog 92 1 one1:=by
 refine ⟨fun p a2 fv w=>AnyF.slices_SortFunc_none { Tryz.sortW with } p a2 fv w,?_⟩;intro E _ enc cf g a0 a2 d w hk h1 hO eg a3 hH a4 a6;have e1:∀ m (dk:Array E),putRow (fun x=>one1 (enc x)) (Sort.ahead w m) a0 0 dk=putRow id (Sort.ahead w m) a0 0 (Go.Sort.flatK enc 1 dk):=fun m dk=>by rw [flat_one1 hk,zwo]
 have a5:OneCell fun x=>one1 (enc x):=fun x=>by
  have h2:=hk x;have h3:=h1 x
  match h:enc x,h2 with
  | [v],_ =>
   show (one1 (enc x)).oneCell'=true;rw [h] at h3 ⊢;exact h3 v (by simp)
 refine (Any.slices_SortFunc Tryz.sortW (fun x=>one1 (enc x)) a5 cf hO g #[] a0 0 a2 d w eg (fun m os dk hs x y=>?_) (holds_map (by rw [<- flat_one1 hk];exact hH)) a4 a6).mono ?_
 ·have:=a3 m os dk hs x y;unfold sortWorld;rw [e1];simpa using this
 ·rintro e w' ⟨he,d',n,os,hp,hs,hw⟩;exact ⟨he,d',n,os,hp,hs,by rw [hw];unfold sortWorld;rw [e1]⟩
theorem aggF:∀ w,(isAgg (Tryz.sortF_ren.t 24)).run Tryz.prog w=.ok true w:=Tryz.isAgg150
theorem sizF:∀ w,(Go.sizeOf (Tryz.sortF_ren.t 24)).run Tryz.prog w=.ok 2 w:=Tryz.sizeOf150
set_option maxHeartbeats 2000000 in
theorem sortC_traces:SortC Tryz.prog 177 2 (fun us=>.agg us.toArray):=by
 refine ⟨fun p a3 fv w=>?_,?_⟩
 ·have hp:=fun a8 W=>AnyF.pdqsortCmpFunc_none (P:=Tryz.prog) (ρ:=Tryz.sortF_ren) Tryz.sortF p a3 a8 fv W
  have hl:∀ W,Calls Tryz.prog 46 #[.int .u64 0] W fun e w'=>e=.returned (.int .i64 (Lib.bitLen 0:Nat))∧w'=W:=fun W=>by
   have h:=Any.bits_Len (SlLaysF0.n15.bits (P:=Tryz.prog) (ρ:=Tryz.sortF_ren) { Tryz.sortF with }) 0 W (by omega) (by omega);exact h
  go_enter Tryz.func177,Tryz.ntmps177
  go_wp2_with (first | (go_at_call 46;refine (hl _).mono ?_;rintro e w' ⟨rfl,rfl⟩) | (go_at_call 201;refine (hp _ _).mono ?_;rintro e w' ⟨rfl,rfl⟩))
  go_end0
  exact ⟨rfl,rfl⟩
 ·intro E _ enc cf g a4 a3 d w hk h1 hO eg a2 hH a5 a9;have a7:Lib.bitLen d.size<4611686018427387904:=Nat.lt_of_le_of_lt (Lib.bitLen_le d.size 62 (by omega) (by omega)) (by omega)
  have a0:CmpLays Tryz.prog g #[] enc 2 cf a4 0 d.size w:=fun m os dk hs x y=>by
   unfold sortWorldK putRowK;simpa using a2 m os dk hs x y
  have hp:=AnyQ.pdqsortCmpFunc_all (P:=Tryz.prog) (ρ:=Tryz.sortF_ren) Tryz.sortF 2 aggF sizF enc cf g #[] hO a4 0 a3 d w eg a0 ⟨hk,h1,hH,a5⟩ (d.size+1) 0 d.size (Lib.bitLen d.size) d w (by omega) rfl (SWK.start hH) (yas _) (yam _) a9 a7 (Or.inl rfl)
  have hl:Calls Tryz.prog 46 #[.int .u64 (d.size:Int)] w fun e w'=>e=.returned (.int .i64 (Lib.bitLen d.size:Nat))∧w'=w:=by
   have h:=Any.bits_Len (SlLaysF0.n15.bits (P:=Tryz.prog) (ρ:=Tryz.sortF_ren) { Tryz.sortF with }) (d.size:Int) w (by omega) (by omega)
   rwa [ybz] at h
  have wr:IntKind.u64.wrap (d.size:Int)=d.size:=by simp [IntKind.wrap,IntKind.bits,IntKind.signed];omega
  have a6:=pdq_sorts (ltOf cf) hO d 0 d.size (Lib.bitLen d.size) true true (yas _) (yam _) (Or.inl rfl);clear hH a2 a0 hk h1
  go_enter Tryz.func177,Tryz.ntmps177
  go_wp2_with (first | (go_at_call 46;refine hl.mono ?_;rintro e w' ⟨rfl,rfl⟩) | (go_at_call 201;refine hp.mono ?_;rintro e w' ⟨rfl,n,os,rfl⟩))
  go_end0
  exact ⟨rfl,_,n,os,a6.1,a6.2,rfl⟩
theorem cmpG_lex {f:yab->yab->Option Int} (hf:∀ x y r,x.length<=17592186044416->f x y=some r->r=lexI x y):CmpG Tryz.prog 96 (nL cI) f:=by
 intro W S u u' x y r h hu a0;obtain ⟨A,n,c,rfl,h1⟩:=zgo hu;have:=hf x y r (by rw [h1.len];exact h1.small) h;subst this;obtain ⟨B,m,c',rfl,h2⟩:=zgo a0;refine (ztx h1 h2).mono fun e w' ⟨he,hw⟩=>⟨he,0,#[],?_⟩;rw [<- hw,Sort.grow_empty];rfl
theorem cmpG_compare {f:yab->yab->Option Int} (hf:∀ x y r,x.length<=17592186044416->f x y=some r->r=cmpW x y):CmpG Tryz.prog 93 (nL cI) f:=by
 intro W S u u' x y r h hu a0;obtain ⟨A,n,c,rfl,h1⟩:=zgo hu;have:=hf x y r (by rw [h1.len];exact h1.small) h;subst this;obtain ⟨B,m,c',rfl,h2⟩:=zgo a0;refine (zta h1 h2).mono fun e w' ⟨he,hw⟩=>⟨he,0,#[.cells #[.int .i64 (cmpI x.length y.length),.int .i64 (lexI x y)] 3],?_⟩;rw [<- hw,Sort.alloc_eq_grow];rfl
theorem rep_two {w:World} {S:Nat->Prop} {u:Value} {x y:IV} (h:RepI w S u (.agg [x,y])):∃ a b,u=.agg #[a,b]∧RepI w S a x∧RepI w S b y:=by
 generalize hz:IV.agg [x,y]=z at h;cases h with
 | agg us cs hl h1 hr =>
  injection hz with hz
  subst hz
  match us,hl with
  | [a,b],_=>exact ⟨a,b,rfl,hr 0 a x rfl rfl,hr 1 b y rfl rfl⟩
 | _=>cases hz
set_option maxHeartbeats 400000 in
theorem fits1_any {A A' B B':Option Addr} {n c m c' p q p' q':Nat} {xs ys:yab} {w:World} (hx:ziv w zo1 A n c xs) (hy:ziv w zo1 B m c' ys) :
  Calls Tryz.prog 178 #[.agg #[.slice A n c,.slice A' p q],.agg #[.slice B m c',.slice B' p' q']] w fun e w'=>e=.returned (.int .i64 (lexI xs ys))∧∃ q os,w'=Sort.grow (w.drewN q) os:=by
 have key:∀ o o',∃ q os,(w.alloc o).alloc o'=Sort.grow (w.drewN q) os:=fun o o'=>⟨0,#[o]++#[o'],by
  rw [Sort.alloc_eq_grow,Sort.alloc_eq_grow,Sort.grow_grow]
  rfl⟩
 have a0:∀ o o',ziv ((w.alloc o).alloc o') zo1 A n c xs:=fun o o'=>(hx.kept (zh9 (World.grownBy_alloc w o none))).kept (zh9 (World.grownBy_alloc _ o' none));have a2:∀ o o',ziv ((w.alloc o).alloc o') zo1 B m c' ys:=fun o o'=>(hy.kept (zh9 (World.grownBy_alloc w o none))).kept (zh9 (World.grownBy_alloc _ o' none))
 go_enter Tryz.func178,Tryz.ntmps178
 go_wp2_with (go_at_call 96;refine (ztx (a0 _ _) (a2 _ _)).mono ?_;rintro e w' ⟨rfl,rfl⟩)
 go_ret
 exact ⟨rfl,key _ _⟩
theorem cmpG_fits1 {T:Type} {X:T->IV} {i o:T->yab} (hX:∀ x,X x=.agg [nL cI (i x),nL cI (o x)]) {f:T->T->Option Int} (hf:∀ x y r,(i x).length<=17592186044416->f x y=some r->r=lexI (i x) (i y)):CmpG Tryz.prog 178 X f:=by
 intro W S u u' x y r h hu a0;rw [hX] at hu a0;obtain ⟨a,b,rfl,ha,hb⟩:=rep_two hu;obtain ⟨a',b',rfl,a2,a3⟩:=rep_two a0;obtain ⟨A,n,c,rfl,h1⟩:=zgo ha;have:=hf x y r (by rw [h1.len];exact h1.small) h;subst this;obtain ⟨B,m,c',rfl,h2⟩:=zgo a2;obtain ⟨_,_,_,rfl,_⟩:=zgo hb;obtain ⟨_,_,_,rfl,_⟩:=zgo a3;exact fits1_any h1 h2
theorem rep_of_one {W:World} {S:Nat->Prop} {us:List Value} {x:IV} (hl:us.length=1) (hr:zk2 W S us [x]):RepI W S (one1 us) x:=by
 match us,hl with
 | [u],_=>exact hr.2 0 u x rfl rfl
def CmpE {T:Type} (P:Program) (g:FuncId) (X:T->IV) (f:T->T->Option Int):Prop:=(∀ args w,(callFunc g args).run P w=.ok (.enter g args) w)∧CmpG P g X f
end
section
open Go.RowKit Go.Sort
def insZ (x:Int):yab->yab
 | []=>[x]
 | y::l=>cond (decide (x<=y)) (x::y::l) (y::insZ x l)
def zko:yab->yab
 | []=>[]
 | x::l=>insZ x (zko l)
def zgb (l:yab):Option (yab):=chk (l.length<=1000000000) (some (zko l))
theorem zrw (x:Int):∀ l:yab,(insZ x l).Perm (x::l)
 | []=>List.Perm.refl _
 | y::l=>by
  unfold insZ;by_cases h:x<=y
  ·rw [zkB h,zkD]
  ·rw [zkA h,zkC];exact ((zrw x l).cons y).trans (List.Perm.swap x y l)
theorem zjq:∀ l:yab,(zko l).Perm l
 | []=>List.Perm.refl _
 | x::l=>(zrw x _).trans ((zjq l).cons x)
theorem zsd (x:Int):∀ l:yab,l.Pairwise (·<=·)->(insZ x l).Pairwise (·<=·)
 | [],_=>by simp [insZ]
 | y::l,h=>by
  have hc:=ybi.1 h;unfold insZ;by_cases hx:x<=y
  ·rw [zkB hx,zkD]
   exact ybi.2 ⟨fun z hz=>by
    rcases yau.1 hz with rfl | hz
    ·exact hx
    ·exact Int.le_trans hx (hc.1 z hz),h⟩
  ·rw [zkA hx,zkC]
   exact ybi.2 ⟨fun z hz=>by
    rcases yau.1 ((zrw x l).mem_iff.1 hz) with rfl | hz
    ·omega
    ·exact hc.1 z hz,zsd x l hc.2⟩
theorem zo4:∀ l:yab,(zko l).Pairwise (·<=·)
 | []=>List.Pairwise.nil
 | x::l=>zsd x _ (zo4 l)
theorem merge_isortZ (l:yab):(l.mergeSort fun x y=>decide (x<=y))=zko l:=by
 refine List.Perm.eq_of_pairwise (le:=fun a b=>decide (a<=b)=true) (fun a b _ _ h1 h2=>?_) (List.pairwise_mergeSort (fun a b c h1 h2=>?_) (fun a b=>?_) l) ((zo4 l).imp fun h=>zkB h) ((List.mergeSort_perm l _).trans (zjq l).symm)
 ·have h1:=of_decide_eq_true h1;have h2:=of_decide_eq_true h2;omega
 ·have h1:=of_decide_eq_true h1;have h2:=of_decide_eq_true h2;exact zkB (by omega)
 ·by_cases h:a<=b
  ·simp [h]
  ·have:b<=a:=by omega
   simp [this]
theorem sp_of_sortZ {P:Program} {sg:FuncId} {t:TypeId} (he:∀ args w,(callFunc sg args).run P w=.ok (.enter sg args) w) (C1:∀ (p:Option Addr) (cap:Nat) (w:World),Calls P sg #[.slice p 0 cap] w fun e w'=>e=.returned (.tuple #[])∧w'=w)
  (C2:∀ (blk cap:Nat) (zs:yab) (w:World),Go.Sort.Holds (Value.int .i64) w blk 0 zs.toArray->blk<w.heap.size->zs.length<4611686018427387904->Calls P sg #[.slice (some ⟨blk,0,none⟩) zs.length cap] w fun e w' =>
   e=.returned (.tuple #[])∧∃ n os,w'=Sort.grow (putRow (Value.int .i64) (Sort.ahead w n) blk 0 (zs.mergeSort fun x y=>decide (x<=y)).toArray) os)
  {l r:yab} (h:zgb l=some r):Sp P sg [.lent (.row t 1 (l.map cI))] (.mk true [] [.lent (.row t 1 (r.map cI))]):=by
 obtain ⟨b3,h⟩:=zad h;injection h with h
 subst h;refine ⟨he,fun w S vs F hS hv hn hF=>?_⟩
 match vs,hv with
 | [v],⟨F1,F2,⟨hv1,inn,hrow,e1⟩,h5,e4⟩ =>
  have h5:F2=[]:=h5;have e1:F1=(zbm v).toList:=e1;subst e1 h5;have e4:F=(zbm v).toList:=by rw [e4];simp
  subst e4;obtain ⟨us,_,_,a3,a0,a8,h1,hr⟩:=hrow;rw [zkK] at a0 a3
  have a2:∀ l:yab,(l.map cI).flatten=l.map fun x=>nI x:=fun l=>by
   induction l with
   | nil=>rfl
   | cons x l ih=>rw [yan,ya4,ih];rfl
  have b2:us=l.map (Value.int .i64):=by
   rw [a2] at a8 hr;rw [zkK] at a8;apply yb7;intro i;rcases ya8 i us.length with hi | hi
   ·have hg:=zkM hi;have hx:=zkM (show i<l.length by omega);have:=hr i _ (nI l[i]) hg (by rw [yat,hx];rfl);rw [hg,yat,hx];generalize us[i]=u at this;cases this with
    | val _=>rfl
   ·rw [ybe hi,ybe (by rw [zkK];omega)]
  subst b2
  have a9:∀ (w':World),w'.ownsRow 0 t 1 v l.length ((zko l).map (Value.int .i64))->Belo (fun b=>b∈(zbm v).toList) w.heap.size w w' ->
    ∃ (v1:Value) (F':List Nat),Ending.returned (.tuple #[])=.returned v1∧Belo (fun b=>b∈(zbm v).toList) w.heap.size w w' ∧
     zm5 w' (fun b=>(S b∨w.heap.size<=b∨b∈(zbm v).toList)∧b<w'.heap.size∧b∉F') v1 (bxVs [v] [.lent (.row t 1 (l.map cI))]) (.mk true [] [.lent (.row t 1 ((zko l).map cI))]) F'∧F'.Nodup∧∀ b∈F',(w.heap.size<=b∨b∈(zbm v).toList)∧b<w'.heap.size:=by
   intro w' ho hb;refine ⟨_,(zbm v).toList,rfl,hb,⟨[],[],(zbm v).toList,rfl,rfl,⟨(zbm v).toList,[],⟨hv1,inn,⟨(zko l).map (Value.int .i64),by decide,fun x hx=>?_,?_,?_,?_,fun u hu=>?_,fun i u x hu hx=>?_⟩,rfl⟩,rfl,by simp⟩,by simp⟩,hn,fun b a6=>⟨.inr a6,yb2 (hF b a6).2 hb.size⟩⟩
   ·obtain ⟨y,_,rfl⟩:=yap.1 hx;rfl
   ·rw [zkK,(zjq l).length_eq];exact a3
   ·rw [zkK,(zjq l).length_eq];exact ho
   ·rw [a2,zkK,zkK]
   ·obtain ⟨y,_,rfl⟩:=yap.1 hu;rfl
   ·rw [a2,yat] at hx;rw [yat] at hu;cases hy:(zko l)[i]? with
    | none=>rw [hy] at hu;cases hu
    | some y =>
     rw [hy] at hu hx;injection hu with hu
     injection hx with hx
     rw [<- hu,<- hx];exact .val _
  by_cases a4:v=.slice none 0 0
  ·subst a4
   have a5:l.length=0:=by
    rcases a0.2 with ⟨_,h0⟩ | ⟨_,_,_,e,_⟩
    ·exact h0
    ·cases e
   have a5:l=[]:=yav a5;subst a5;refine (C1 none 0 w).mono ?_;rintro e w' ⟨rfl,rfl⟩;exact a9 w' a0 (Belo.refl _ _ _)
  ·obtain ⟨blk,cap,rfl⟩:∃ blk cap,v=.slice (some ⟨blk,0,none⟩) l.length cap:=by
    rcases a0.2 with ⟨e0,_⟩ | ⟨g,cap,cur,e,_⟩
    ·exact absurd e0 a4
    ·exact ⟨g,cap,e⟩
   have a7:blk<w.heap.size:=(hF blk (by simp [zbm])).2;have hH:=holds_own a0;have e2:(l.map (Value.int .i64)).toArray=l.toArray.map (Value.int .i64):=by simp
   rw [e2] at hH;refine (C2 blk cap l w (holds_map hH) a7 (by omega)).mono ?_;rintro e w' ⟨rfl,n,os,rfl⟩;rw [merge_isortZ,zwo];have e3:(zko l).toArray.map (Value.int .i64)=((zko l).map (Value.int .i64)).toArray:=by simp
   rw [e3];refine a9 _ (own_put a0 (by rw [zkK,(zjq l).length_eq,ycj])) ⟨rfl,rfl,rfl,?_,fun b hb b0=>zu2 hb fun e=>b0 (by simp [zbm,e])⟩;simp [Sort.grow,putRow,mapBlock,Sort.ahead]
theorem zkz (l r:yab) (h:zgb l=some r):Sp Tryz.prog 22 [.lent (.row 3 1 (List.map cI l))] (.mk true [] [.lent (.row 3 1 (List.map cI r))]) :=
 sp_of_sortZ (fun args w=>zeo rfl rfl rfl args w) (fun p cap w=>Go.Proofs.Any.slices_Sort_int_none Tryz.sortI p cap w) (fun blk cap zs w hH hb hs=>Go.Proofs.Any.slices_Sort_int Tryz.sortI blk 0 cap zs w hH hb hs) h
end
end Go.Proofs.YtkiajpbdicaceaaGreatDoor.Sym
namespace Go.Proofs.YtkiajpbdicaceaaGreatDoor
def GrowPost (t:TypeId) (w:World) (e:Ending) (w':World):Prop:=∃ v',e=.returned v'∧w'.ownsRow w.heap.size t 1 v' 0 []∧Below w.heap.size w w'
theorem zqi (w:World) (Z:Array Value) (t:TypeId) (c:Nat) (hc:c<=maxLen) (hZ:Z.size=c) :
  (w.drew.alloc (.cells Z t)).ownsRow w.heap.size t 1 (.slice (some ⟨w.heap.size,0,none⟩) 0 c) 0 []:=by
 refine ⟨rfl,.inr ⟨w.heap.size,c,Z,rfl,Nat.le_refl _,?_,Nat.zero_le _,hc,by omega,by simp⟩⟩;exact heap_alloc_new w.drew _
theorem ztk (w:World) (o:Obj):Below w.heap.size w (w.drew.alloc o):=(Below.refl w.heap.size w).drew.alloc (Nat.le_refl _) o
set_option maxRecDepth 100000 in
set_option maxHeartbeats 800000 in
theorem growI_any (n:Nat) (hn:n<=1000000000) (w:World) :
  Calls Tryz.prog 83 #[.slice none 0 0,.int .i64 n] w (GrowPost 3 w):=by
 obtain ⟨i0,hi,a9,b0,a8⟩:=info_parts Tryz.infoInt;have h1:¬ ((n:Int)<0):=by omega
 by_cases h0:n=0
 ·subst h0
  go_enter Tryz.func83,Tryz.ntmps83
  go_wp2
  go_ret
  exact ⟨_,rfl,World.ownsRow_nil _ _ _ _,Below.refl _ _⟩
 ·have h4:(n:Int) > 0:=by omega
  have a2:=Lib.run_append_nil_zeros (P:=Tryz.prog) w 25 3 25 3 i0 (.int .i64 0) .i64 .i64 Tryz.underlying25 Tryz.underlying3 hi a9 n (by omega) (by omega) (by omega) (by rw [a8];omega);generalize a3:grownCap w n 0 3=cap2 at a2;have a6:n<=cap2:=by rw [<- a3];exact grownCap_ge w _ 0 _
  have a0:cap2<=maxLen:=by rw [<- a3];exact grownCap_le_maxLen w _ 0 _ (by unfold maxLen;omega)
  generalize hZ:(Builtin.zeroCells (Value.cells (.int .i64 0)) n++Builtin.zeroCells (Value.cells (.int .i64 0)) (cap2-n))=Z at a2;have a5:Z.size=cap2:=by rw [<- hZ];simp [size_zeroCells,Value.cells];omega
  have a4:=zqi w Z 3 cap2 a0 a5;have a7:cap2<=9223372036854775807:=by unfold maxLen at a0;omega
  have HO:=Lib.hid (And.intro a4 (ztk w (.cells Z 3)));clear a3 hZ a4 a5
  go_enter Tryz.func83,Tryz.ntmps83
  go_wp2_with (at_builtin;refine Lib.wpList_append_run _ rfl _ _ _ _ rfl _ _ rfl rfl _ _ a2 ?_)
  go_ret
  exact ⟨_,rfl,HO.out.1,HO.out.2⟩
set_option maxRecDepth 100000 in
set_option maxHeartbeats 800000 in
theorem growW_any (n:Nat) (hn:n<=1000000000) (w:World) :
  Calls Tryz.prog 135 #[.slice none 0 0,.int .i64 n] w (GrowPost 25 w):=by
 obtain ⟨i0,hi,a9,b0,a8⟩:=info_parts Tryz.infoWord;have h1:¬ ((n:Int)<0):=by omega
 by_cases h0:n=0
 ·subst h0
  go_enter Tryz.func135,Tryz.ntmps135
  go_wp2
  go_ret
  exact ⟨_,rfl,World.ownsRow_nil _ _ _ _,Below.refl _ _⟩
 ·have h4:(n:Int) > 0:=by omega
  have a2:=Lib.run_append_nil_zeros (P:=Tryz.prog) w 22 3 22 25 i0 (.slice none 0 0) .i64 .i64 Tryz.underlying22 Tryz.underlying3 hi a9 n (by omega) (by omega) (by omega) (by rw [a8];omega);generalize a3:grownCap w n 0 25=cap2 at a2;have a6:n<=cap2:=by rw [<- a3];exact grownCap_ge w _ 0 _
  have a0:cap2<=maxLen:=by rw [<- a3];exact grownCap_le_maxLen w _ 0 _ (by unfold maxLen;omega)
  generalize hZ:(Builtin.zeroCells (Value.cells (.slice none 0 0)) n++Builtin.zeroCells (Value.cells (.slice none 0 0)) (cap2-n))=Z at a2;have a5:Z.size=cap2:=by rw [<- hZ];simp [size_zeroCells,Value.cells];omega
  have a4:=zqi w Z 25 cap2 a0 a5;have a7:cap2<=9223372036854775807:=by unfold maxLen at a0;omega
  have HO:=Lib.hid (And.intro a4 (ztk w (.cells Z 25)));clear a3 hZ a4 a5
  go_enter Tryz.func135,Tryz.ntmps135
  go_wp2_with (at_builtin;refine Lib.wpList_append_run _ rfl _ _ _ _ rfl _ _ rfl rfl _ _ a2 ?_)
  go_ret
  exact ⟨_,rfl,HO.out.1,HO.out.2⟩
end Go.Proofs.YtkiajpbdicaceaaGreatDoor
namespace Go.Proofs.YtkiajpbdicaceaaGreatDoor.Sym
theorem zwm {g:FuncId} {t:TypeId} {n:Int} (he:∀ args w,(callFunc g args).run Tryz.prog w=.ok (.enter g args) w) (h0:0<=n) (h1:n<=1000000000)
  (h:∀ (n:Nat),n<=1000000000->∀ w,Calls Tryz.prog g #[.slice none 0 0,.int .i64 n] w (GrowPost t w)):Sp Tryz.prog g [.im (.val (.slice none 0 0)),.im (nI n)] (.row t 1 []):=by
 refine ⟨he,fun w S vs F hS hv hn hF=>?_⟩
 match vs,hv with
 | [v,u],⟨F1,F2,⟨h3,e1⟩,⟨F3,F4,⟨h4,e2⟩,h5,e3⟩,e4⟩ =>
  have h5:F4=[]:=h5;subst e1 e2 h5 e3 e4;cases h3;cases h4;have hc:=h n.toNat (by omega) w;rw [Int.toNat_of_nonneg h0] at hc;refine hc.mono ?_;rintro e w' ⟨v',rfl,ho,hb⟩
  have a0:w'.ownsRow 0 t 1 v' 0 []:=by
   refine ⟨ho.1,?_⟩;rcases ho.2 with h6 | ⟨g1,cap,cur,k1,_,k3⟩
   ·exact .inl h6
   ·exact .inr ⟨g1,cap,cur,k1,yas _,k3⟩
  have a3:=ho.lt
  have a2:∀ b∈(zbm v').toList,w.heap.size<=b∧b<w'.heap.size:=fun b hb=>by
   refine a3 b ?_;rw [zit a0];simpa using hb
  refine ⟨v',(zbm v').toList,rfl,.of hb,⟨[v'],(zbm v').toList,[],rfl,⟨(zbm v').toList,[],⟨row_one a0,[],⟨[],Nat.one_pos,fun x hx=>by simp at hx,by decide,a0,rfl,fun u hu=>by simp at hu,fun i u x hu=>by simp at hu⟩,rfl⟩,rfl,by simp⟩,rfl,by simp⟩,?_,fun b hb=>⟨.inl (a2 b hb).1,(a2 b hb).2⟩⟩;cases zbm v'<;>simp
def zoa (n:Int):Option (yab):=chk (0<=n∧n<=1000000000) (some [])
theorem zu1 (n:Int) (r:yab) (h:zoa n=some r):Sp Tryz.prog 83 [.im (.val (.slice none 0 0)),.im (nI n)] (.row 3 1 (List.map cI r)):=by
 obtain ⟨h1,h⟩:=zad h;injection h with h
 subst h;exact zwm (fun args w=>zeo rfl rfl rfl args w) h1.1 h1.2 growI_any
def zo8 (n:Int):Option (yaa):=chk (0<=n∧n<=1000000000) (some [])
theorem zrf (n:Int) (r:yaa) (h:zo8 n=some r):Sp Tryz.prog 135 [.im (.val (.slice none 0 0)),.im (nI n)] (.row 25 1 (List.map (cL cI) r)):=by
 obtain ⟨h1,h⟩:=zad h;injection h with h
 subst h;exact zwm (fun args w=>zeo rfl rfl rfl args w) h1.1 h1.2 growW_any
section
theorem Tryz.infoI_traces:(Tryz.prog.info? 150).map (fun i=>(i.zero,i.size,i.bytes))=some (some (.agg #[.slice none 0 0,.slice none 0 0]),2,48):=by kernel_rfl
section
variable {P:Program}
theorem zv9 (w:World) {o:Oper} {a:Act} {K:Act->World->Prop} {Q:Exit->Act->World->Prop} (d s:Operand) (t t':TypeId)
  (ho:o.op=.call { callee:=.builtin .copy,args:=#[d,s],argTypes:=#[t,t'] }) (v u:Value) (hd:a.eval d=v) (hs:a.eval s=u) {v':Value} {w':World}
  (hr:(Builtin.copy_ #[t,t'] o.type #[v,u]).run P w=.ok v' w') (h:K (a.put o.dst v') w'):o.wp P a w K Q:=by
 unfold Oper.wp execOp;simp only [ho,resolve,invoke,builtin,Sem.run_bind,Sem.run_pure,Result.andThen_ok,ydg,yan,ycu,hd,hs,hr];exact h
theorem zpa (w:World) {ops:Array Oper} {rest:List Oper} {o:Oper} {a:Act} {Q:Exit->Act->World->Prop} (hgd:o.guard=none) (d s:Operand) (t t':TypeId)
  (ho:o.op=.call { callee:=.builtin .copy,args:=#[d,s],argTypes:=#[t,t'] }) (v u:Value) (hd:a.eval d=v) (hs:a.eval s=u) {v':Value} {w':World}
  (hr:(Builtin.copy_ #[t,t'] o.type #[v,u]).run P w=.ok v' w') (h:wpList P ops Q rest (a.put o.dst v') w'):wpList P ops Q (o::rest) a w :=
 wpList_plain hgd fun _ hK=>zv9 w d s t t' ho v u hd hs hr (hK _ _ h)
theorem zsb {ops:Array Oper} {o:Oper} {a:Act} {w:World} {K:Act->World->Prop} {Q:Exit->Act->World->Prop} {E:Prop}
  (hg:o.guard=none) (d x:Operand) (dT sT:TypeId) (hop:o.op=Op.call { callee:=Callee.builtin Builtin.copy,args:=#[d,x],argTypes:=#[dT,sT] })
  (v u:Value) (hd:a.eval d=v) (hx:a.eval x=u) {v':Value} {w':World} (hr:(Builtin.copy_ #[dT,sT] o.type #[v,u]).run P w=.ok v' w') (hK:K (a.put o.dst v') w') :
  if Region.wanted o (yielded ops a.tmps)=true then Oper.wp P o a w K Q else E:=by
 have hw:Region.wanted o (yielded ops a.tmps)=true:=by simp [Region.wanted,hg]
 rw [if_pos hw];exact zv9 w d x dT sT hop v u hd hx hr hK
end
def InsPost (t:TypeId) (k n:Nat) (us:List Value) (v:Value) (w:World) (e:Ending) (w':World):Prop :=
 ∃ v',e=.returned v'∧w'.ownsRow 0 t k v' (n+1) us∧w.grownBy w' v.ownBlock∧(v'.ownBlock=v.ownBlock∨v'.ownBlock=some w.heap.size)
set_option maxRecDepth 100000 in
set_option maxHeartbeats 400000 in
theorem insert_end (w:World) (v:Value) (n vb vc:Nat) (us news:List Value) (ho:w.ownsRow 0 150 2 v n us) (hl:news.length=1*2) (hb:∀ (j:Nat) u,news[j]?=some u->w.cell? ⟨vb,0+j,none⟩=some u)
  (h1:∀ u∈news,u.oneCell'=true) (hn:n<=1000000):Calls Tryz.prog 146 #[v,.int .i64 n,.slice (some ⟨vb,0,none⟩) 1 vc] w (InsPost 150 2 n (us++news) v w):=by
 obtain ⟨j0,ji,a7,a8,a6⟩:=info_parts Tryz.infoI_traces;have a4:n+1<=maxLen:=by unfold maxLen;omega
 have a5:(n+1)*48<=140737488355328:=by omega
 rcases ho.2 with ⟨hv,h0⟩ | ⟨g,b3,cur,hv,_,hg,b0,a9,b2,b4⟩
 ·subst hv h0
  go_enter Tryz.func146,Tryz.ntmps146
  go_wp2_with (at_builtin;refine zgx rfl (.tmp 23) (.tmp 24) 77 rfl 0 150 j0 (.agg #[.slice none 0 0,.slice none 0 0]) 2 48 Tryz.underlying77 ji a7 a8 a6 rfl (by decide) _ _ _ rfl ho _ _ _ _ rfl hl (fun _=>⟨vb,0,rfl,hb⟩) h1 a4 a5 (yas _) ?_;intro v1 w1 a0 a2 a3)
  all_goals (go_ret;exact ⟨v1,rfl,a0,a2,a3⟩)
 ·subst hv
  go_enter Tryz.func146,Tryz.ntmps146
  go_wp2_with (at_builtin;refine zgx rfl (.tmp 23) (.tmp 24) 77 rfl 0 150 j0 (.agg #[.slice none 0 0,.slice none 0 0]) 2 48 Tryz.underlying77 ji a7 a8 a6 rfl (by decide) _ _ _ rfl ho _ _ _ _ rfl hl (fun _=>⟨vb,0,rfl,hb⟩) h1 a4 a5 (yas _) ?_;intro v1 w1 a0 a2 a3)
  all_goals (go_ret;exact ⟨v1,rfl,a0,a2,a3⟩)
set_option maxRecDepth 100000 in
set_option maxHeartbeats 800000 in
theorem insert_shift (w:World) (g cap n i vb vc:Nat) (cur cur2:Array Value) (us news:List Value) (hg:w.heap[g]?=some (.cells cur 150 (0,0))) (hcz:cur.size=cap*2) (hct:cur.toList.take (n*2)=us)
  (hcm:cap<=maxLen) (hne:vb≠g) (hvb:w.heap[vb]?=some (.cells cur2 150 (0,0))) (hvz:cur2.toList.take 2=news) (hl:news.length=2) (h1:∀ u∈us,u.oneCell'=true) (h2:∀ u∈news,u.oneCell'=true) (hi:i<n) (hr:n<cap) (hn:n<=1000000) :
  Calls Tryz.prog 146 #[.slice (some ⟨g,0,none⟩) n cap,.int .i64 i,.slice (some ⟨vb,0,none⟩) 1 vc] w (InsPost 150 2 n (us.take (i*2)++news++us.drop (i*2)) (.slice (some ⟨g,0,none⟩) n cap) w):=by
 obtain ⟨j0,ji,e3,b7,e2⟩:=info_parts Tryz.infoI_traces;have d7:¬ ((i:Int)=(n:Int)):=by omega
 have c0:∀ lb cb,(callFunc 174 #[.slice (some ⟨vb,0,none⟩) 1 vc,.slice (some ⟨g,(i+1)*2,none⟩) lb cb]).run Tryz.prog w=.ok (.value (.bool false)) w:=fun lb cb=>by
  rw [run_callFunc_extern Tryz.func174 (by kernel_rfl) (by kernel_rfl) (by kernel_rfl) (e:=Extern.SlicesOverlaps.overlaps #[77,77] #[4]) (by kernel_rfl),
   Lib.run_overlaps_apart w 77 4 150 Tryz.underlying77 2 Tryz.sizeOf150 ⟨vb,0,none⟩ ⟨g,(i+1)*2,none⟩ 1 vc lb cb hne 150 150 cur2.size cur.size (by simp [World.shape?,hvb]) (by simp [World.shape?,hg]) (by omega) (by simp [World.frozen?,hvb]) (by simp [World.frozen?,hvb])]
  rfl
 have a7:∀ (j:Nat),j<n*2->cur[j]?=us[j]?:=fun j hj=>by
  rw [<- hct,yax,if_pos hj,yao]
 have a2:us.length=n*2:=by
  rw [<- hct,yak,ybw];omega
 have a0:(us.drop (i*2)).length=(n-i)*2:=by rw [ya0,a2];omega
 obtain ⟨R1,a3⟩:∃ R1,R1=(cur.toList.take ((i+1)*2)++us.drop (i*2)++cur.toList.drop ((i+1)*2+(us.drop (i*2)).length)).toArray:=⟨_,rfl⟩
 have b3:∀ ty dl dc sl sc,dl=n-i->sl=n+1-i->(Builtin.copy_ #[77,77] ty #[.slice (some ⟨g,(i+1)*2,none⟩) dl dc,.slice (some ⟨g,i*2,none⟩) sl sc]).run Tryz.prog w.drew=.ok (goInt ((n-i:Nat):Int)) (w.drew.setRow g R1):=fun ty dl dc sl sc hd hs=>by
  have hm:Nat.min sl dl=n-i:=by rw [hd,hs];simp only [yee];split<;>omega
  have:=zmb (P:=Tryz.prog) w.drew 77 77 ty 150 g ((i+1)*2) dl dc ⟨g,i*2,none⟩ sl sc cur 150 (us.drop (i*2)) 2 Tryz.underlying77 (by rw [ji];simp [b7]) hg (by rw [hm,a0]) (fun j v hj=>by
   rw [Addr.add_lit]
   rw [ya6] at hj
   have d0:=(zkI.1 hj).1
   show w.cell? _=_
   simp only [World.cell?,hg]
   rw [a7 _ (by omega)]
   simpa using hj) (by rw [a0];omega) (fun v hv=>h1 v (ya1 hv))
  rw [hm,<- a3] at this;exact this
 have d5:R1.size=cap*2:=by
  rw [a3];simp only [yby,zkJ,yak,ya0,ybw];omega
 have b4:(w.drew.setRow g R1).heap[g]?=some (.cells R1 150 (0,0)):=setRow_heap w.drew g cur R1 _ _ hg
 have a8:(w.drew.setRow g R1).heap[vb]?=some (.cells cur2 150 (0,0)):=by
  rw [setRow_other _ _ _ _ hne];exact hvb
 obtain ⟨R2,a9⟩:∃ R2,R2=(R1.toList.take (i*2)++news++R1.toList.drop (i*2+news.length)).toArray:=⟨_,rfl⟩
 have a5:∀ (W:World) ty dl dc,W.heap[g]?=some (.cells R1 150 (0,0))->W.heap[vb]?=some (.cells cur2 150 (0,0))->1<=dl->(Builtin.copy_ #[77,77] ty #[.slice (some ⟨g,i*2,none⟩) dl dc,.slice (some ⟨vb,0,none⟩) 1 vc]).run Tryz.prog W=.ok (goInt ((1:Nat):Int)) (W.setRow g R2):=fun W ty dl dc hW hV hd=>by
  have hm:Nat.min 1 dl=1:=by simp only [yee];split<;>omega
  have:=zmb (P:=Tryz.prog) W 77 77 ty 150 g (i*2) dl dc ⟨vb,0,none⟩ 1 vc R1 150 news 2 Tryz.underlying77 (by rw [ji];simp [b7]) hW (by rw [hm,hl]) (fun j v hj=>by
   rw [Addr.add_lit]
   have d0:=(zkI.1 hj).1
   simp only [World.cell?,hV]
   rw [<- hvz,yax,if_pos (by omega),yao] at hj
   simpa using hj) (by rw [hl];omega) h2
  rw [hm,<- a9] at this;exact this
 obtain ⟨US,b2⟩:∃ US,US=us.take (i*2)++news++us.drop (i*2):=⟨_,rfl⟩;rw [<- b2];have b5:=Lib.hid b2;have d3:=Lib.hid a3;have c8:=Lib.hid a9;have d2:=Lib.hid a0;have c6:=Lib.hid a2;have d1:=Lib.hid hct;have HL:=Lib.hid hl;have e6:=Lib.hid hvz;clear b2 a3 a9 a0 a2 hct a7 hl hvz h1 h2;have b6:=fun ty dl dc=>a5 (w.drew.setRow g R1) ty dl dc b4 a8;have d4:1<=n+1-i:=by omega
 clear a5 b4 a8;have c9:Tryz.prog.follows Departure.mixedOrders=true:=by kernel_rfl
 have e4:IntKind.i64.wrap ((i:Int)+1)=(i:Int)+1:=by rw [IntKind.wrap_i64];omega
 have d8:(0:Int)<=(i:Int)+1:=by omega
 have d9:i<=n:=by omega
 have e5:((i:Int)+1).toNat=i+1:=by omega
 have e0:¬ (cap=i+1):=by omega
 have d6:(i:Int)<=(n:Int)+1:=by omega
 have e1:¬ (cap=i):=by omega
 go_enter Tryz.func146,Tryz.ntmps146
 go_wp2_with (simp only [c0])
 go_region_law_o (refine zsb rfl _ _ 77 77 rfl _ _ (by simp [Act.eval,Act.put]) (by simp [Act.eval,Act.put]) (b3 _ _ _ _ _ (by omega) (by omega)) ?_)
 go_wp2_with (at_builtin;refine zpa _ rfl _ _ 77 77 rfl _ _ rfl rfl (b6 3 (n+1-i) (cap-i) d4) ?_)
 go_ret
 have hl:=HL.out;have a2:=c6.out;have hct:=d1.out;have a0:=d2.out;have a4:R1.toList=cur.toList.take ((i+1)*2)++us.drop (i*2)++cur.toList.drop ((i+1)*2+(us.drop (i*2)).length):=by rw [d3.out]
 have b0:(cur.toList.take ((i+1)*2)).length=(i+1)*2:=by rw [yak,ybw];omega
 have hT:R1.toList.take (i*2)=us.take (i*2):=by
  rw [a4,ybs,yb0 (by rw [b0];omega),ydn,<- hct,ydn];congr 1;omega
 have hD:R1.toList.drop (i*2+2)=us.drop (i*2)++cur.toList.drop ((i+1)*2+(us.drop (i*2)).length):=by
  rw [a4,ybs,yd0 (by rw [b0];omega),yda (by rw [b0];omega),ycb]
 have a6:R2.toList=US++cur.toList.drop ((i+1)*2+(us.drop (i*2)).length):=by
  rw [c8.out,b5.out,hl,hT,hD];simp
 have b9:US.length=(n+1)*2:=by
  rw [b5.out,zkJ,zkJ,a0,hl,yak,a2];omega
 refine ⟨_,rfl,⟨b9,.inr ⟨g,cap,R2,rfl,yas _,?_,by omega,hcm,?_,?_⟩⟩,⟨rfl,rfl,rfl,?_,fun k hk c7=>?_⟩,.inl rfl⟩
 ·exact setRow_heap _ g R1 R2 _ _ (setRow_heap w.drew g cur R1 _ _ hg)
 ·rw [<- ybw,a6,zkJ,b9,ya0,ybw,a0];omega
 ·rw [a6,yb0 (by omega),ybh (by omega)]
 ·simp
 ·have b8:k≠g:=fun e=>c7 (by rw [e];rfl);rw [setRow_other _ _ _ _ b8,setRow_other _ _ _ _ b8];rfl
set_option maxRecDepth 100000 in
set_option maxHeartbeats 800000 in
theorem insert_grow (w:World) (g n i vb vc:Nat) (cur cur2:Array Value) (us news:List Value) (hg:w.heap[g]?=some (.cells cur 150 (0,0))) (hcz:cur.size=n*2) (hct:cur.toList.take (n*2)=us)
  (hvb:w.heap[vb]?=some (.cells cur2 150 (0,0))) (hvz:cur2.toList.take 2=news) (hl:news.length=2) (h1:∀ u∈us,u.oneCell'=true) (h2:∀ u∈news,u.oneCell'=true) (hi:i<n) (hn:n<=1000000) :
  Calls Tryz.prog 146 #[.slice (some ⟨g,0,none⟩) n n,.int .i64 i,.slice (some ⟨vb,0,none⟩) 1 vc] w (InsPost 150 2 n (us.take (i*2)++news++us.drop (i*2)) (.slice (some ⟨g,0,none⟩) n n) w):=by
 obtain ⟨j0,ji,e6,b8,d3⟩:=info_parts Tryz.infoI_traces;have f9:¬ ((i:Int)=(n:Int)):=by omega
 have f5:(n:Int)<(n:Int)+1:=by omega
 have a8:∀ (j:Nat),j<n*2->cur[j]?=us[j]?:=fun j hj=>by
  rw [<- hct,yax,if_pos hj,yao]
 have b9:us.length=n*2:=by
  rw [<- hct,yak,ybw];omega
 have b3:(us.drop (i*2)).length=(n-i)*2:=by rw [ya0,b9];omega
 have a3:(us.take (i*2)).length=i*2:=by rw [yak,b9];omega
 have d7:g<w.heap.size:=by
  rcases ya8 g w.heap.size with h | h
  ·exact h
  ·rw [ydp h] at hg;cases hg
 have d6:vb<w.heap.size:=by
  rcases ya8 vb w.heap.size with h | h
  ·exact h
  ·rw [ydp h] at hvb;cases hvb
 obtain ⟨N,hN⟩:∃ N,N=w.heap.size:=⟨_,rfl⟩
 have b5:(Builtin.firstCells j0.size i (.slice (some ⟨g,0,none⟩) i n)).run Tryz.prog w.drew=.ok (us.take (i*2)).toArray w.drew:=by
  rw [b8]
  exact run_firstCells_some w.drew 2 i ⟨g,0,none⟩ i n (us.take (i*2)) a3 (fun j v hj=>by
   rw [Addr.add_lit]
   rw [yax] at hj
   split at hj
   ·show w.cell? _=_
    simp only [World.cell?,hg]
    rw [yae,a8 _ (by omega)]
    exact hj
   ·cases hj)
 obtain ⟨G,hG⟩:∃ G,G=grownCap w (n+1) n 150:=⟨_,rfl⟩;obtain ⟨a0,a4⟩:∃ a0:Array Value,a0=(us.take (i*2)).toArray++Builtin.zeroCells (Value.agg #[.slice none 0 0,.slice none 0 0]).cells (n+1-i)++Builtin.zeroCells (Value.agg #[.slice none 0 0,.slice none 0 0]).cells (G-(n+1)):=⟨_,rfl⟩;have e1:n+1<=G:=by rw [hG];exact grownCap_ge w _ _ _
 have c6:G<=maxLen:=by rw [hG];exact grownCap_le_maxLen w (n+1) n 150 (by unfold maxLen;omega)
 have e9:G<=9223372036854775807:=by unfold maxLen at c6;omega
 obtain ⟨W1,a6⟩:∃ W1,W1=w.drew.alloc (.cells a0 150):=⟨_,rfl⟩
 have e3:∀ ty,(Builtin.append_ #[77,3] ty #[.slice (some ⟨g,0,none⟩) i n,.int .i64 ((n:Int)+1-(i:Int))]).run Tryz.prog w=.ok (.slice (some ⟨N,0,none⟩) (n+1) G) W1:=fun ty=>by
  have h:=Lib.run_append_grow_zeros w 77 3 ty 150 j0 _ .i64 .i64 Tryz.underlying77 Tryz.underlying3 ji e6 (some ⟨g,0,none⟩) i n (us.take (i*2)) b5 (n+1-i) (by omega) (by omega) (by omega) (by omega) (by rw [d3];omega) (by rw [d3,show i+(n+1-i)=n+1 by omega];exact growslice_fits (by omega) (by omega));rw [show i+(n+1-i)=n+1 by omega,<- hG,<- a4,<- hN,<- a6] at h;rw [show (n:Int)+1-(i:Int)=((n+1-i:Nat):Int) by omega];exact h
 have d5:a0.size=G*2:=by
  rw [a4];simp only [yd5,yby,a3,Builtin.zeroCells,Value.cells,Array.size_map,Array.size_range];simp;omega
 have a7:a0.toList.take (i*2)=us.take (i*2):=by
  rw [a4,ydi,ydi,ybs,yb0 (by simp [a3]),ybh (by simp [a3])]
 have c9:W1.heap[N]?=some (.cells a0 150 (0,0)):=by
  rw [a6,hN];exact heap_alloc_new w.drew _
 have a2:∀ k,k<w.heap.size->W1.heap[k]?=w.heap[k]?:=fun k hk=>by
  rw [a6];exact heap_alloc_old w.drew _ hk
 obtain ⟨R1,a5⟩:∃ R1,R1=(a0.toList.take (i*2)++news++a0.toList.drop (i*2+news.length)).toArray:=⟨_,rfl⟩
 have b6:∀ (W:World) ty dl dc,W.heap[N]?=some (.cells a0 150 (0,0))->W.heap[vb]?=some (.cells cur2 150 (0,0))->1<=dl->(Builtin.copy_ #[77,77] ty #[.slice (some ⟨N,i*2,none⟩) dl dc,.slice (some ⟨vb,0,none⟩) 1 vc]).run Tryz.prog W=.ok (goInt ((1:Nat):Int)) (W.setRow N R1):=fun W ty dl dc hW hV hd=>by
  have hm:Nat.min 1 dl=1:=by simp only [yee];split<;>omega
  have:=zmb (P:=Tryz.prog) W 77 77 ty 150 N (i*2) dl dc ⟨vb,0,none⟩ 1 vc a0 150 news 2 Tryz.underlying77 (by rw [ji];simp [b8]) hW (by rw [hm,hl]) (fun j v hj=>by
   rw [Addr.add_lit]
   have d9:=(zkI.1 hj).1
   simp only [World.cell?,hV]
   rw [<- hvz,yax,if_pos (by omega),yao] at hj
   simpa using hj) (by rw [hl];omega) h2
  rw [hm,<- a5] at this;exact this
 have b4:R1.size=G*2:=by
  rw [a5];simp only [yby,zkJ,yak,ya0,ybw,hl];omega
 obtain ⟨R2,b0⟩:∃ R2,R2=(R1.toList.take ((i+1)*2)++us.drop (i*2)++R1.toList.drop ((i+1)*2+(us.drop (i*2)).length)).toArray:=⟨_,rfl⟩
 have b7:∀ (W:World) ty dl dc sl sc,W.heap[N]?=some (.cells R1 150 (0,0))->W.heap[g]?=some (.cells cur 150 (0,0))->dl=n-i->sl=n-i->(Builtin.copy_ #[77,77] ty #[.slice (some ⟨N,(i+1)*2,none⟩) dl dc,.slice (some ⟨g,i*2,none⟩) sl sc]).run Tryz.prog W=.ok (goInt ((n-i:Nat):Int)) (W.setRow N R2):=fun W ty dl dc sl sc hW hV hd hs=>by
  have hm:Nat.min sl dl=n-i:=by rw [hd,hs];simp only [yee];split<;>omega
  have:=zmb (P:=Tryz.prog) W 77 77 ty 150 N ((i+1)*2) dl dc ⟨g,i*2,none⟩ sl sc R1 150 (us.drop (i*2)) 2 Tryz.underlying77 (by rw [ji];simp [b8]) hW (by rw [hm,b3]) (fun j v hj=>by
   rw [Addr.add_lit]
   rw [ya6] at hj
   have d9:=(zkI.1 hj).1
   simp only [World.cell?,hV]
   rw [a8 _ (by omega)]
   simpa using hj) (by rw [b3,b4];omega) (fun v hv=>h1 v (ya1 hv))
  rw [hm,<- b0] at this;exact this
 have d0:1<=n+1-i:=by omega
 have g3:vb≠N:=by omega
 have e7:g≠N:=by omega
 have e5:=fun ty dc=>b6 W1 ty (n+1-i) dc c9 (by rw [a2 vb d6];exact hvb) d0;have c7:(W1.setRow N R1).heap[N]?=some (.cells R1 150 (0,0)):=setRow_heap W1 N a0 R1 _ _ c9
 have e4:(W1.setRow N R1).drew.heap[g]?=some (.cells cur 150 (0,0)):=by
  show (W1.setRow N R1).heap[g]?=_;rw [setRow_other _ _ _ _ e7,a2 g d7];exact hg
 have e0:=fun ty dl dc sl sc h3 h4=>b7 (W1.setRow N R1).drew ty dl dc sl sc c7 e4 h3 h4;obtain ⟨US,a9⟩:∃ US,US=us.take (i*2)++news++us.drop (i*2):=⟨_,rfl⟩;rw [<- a9]
 have c8:∃ REST,R2.toList=US++REST:=by
  refine ⟨R1.toList.drop ((i+1)*2+(us.drop (i*2)).length),?_⟩
  have hT:R1.toList.take ((i+1)*2)=us.take (i*2)++news:=by
   have hz:(us.take (i*2)++news).length=(i+1)*2:=by rw [zkJ,a3,hl];omega
   rw [a5,a7,<- hz,yb0 (yam _),ycm]
  rw [b0,hT,a9]
 have e2:US.length=(n+1)*2:=by
  rw [a9,zkJ,zkJ,b3,hl,a3];omega
 have d1:R2.size=G*2:=by
  rw [b0];simp only [yby,zkJ,yak,ya0,ybw];omega
 have f7:=Lib.hid a5;have HN:=Lib.hid hN;have HG:=Lib.hid hG;have b2:=Lib.hid a6;have d2:=Lib.hid a2;clear a9 a5 b0 b3 b9 hct a8 hl hvz h1 h2 b5 a4 a7 a3 b6 b7 d5 b4 hG hN a6 a2;have d8:Tryz.prog.follows Departure.mixedOrders=true:=by kernel_rfl
 have g4:IntKind.i64.wrap ((i:Int)+1)=(i:Int)+1:=by rw [IntKind.wrap_i64];omega
 have f6:(0:Int)<=(i:Int)+1:=by omega
 have g1:i<=n:=by omega
 have g5:((i:Int)+1).toNat=i+1:=by omega
 have f3:(i:Int)<=(n:Int):=by omega
 have f8:¬ (G=i):=by omega
 have e8:¬ (G=i+1):=by omega
 have g2:¬ (n=i):=by omega
 go_enter Tryz.func146,Tryz.ntmps146
 go_wp2_with (first
  | (at_builtin;refine Lib.wpList_append_run _ rfl _ _ _ _ rfl _ _ rfl rfl _ _ (e3 _) ?_)
  | (at_builtin;refine zpa _ rfl _ _ 77 77 rfl _ _ rfl rfl (e5 _ _) ?_))
 go_region_law_o (refine zsb rfl _ _ 77 77 rfl _ _ (by simp [Act.eval,Act.put]) (by simp [Act.eval,Act.put]) (e0 _ _ _ _ _ (by omega) (by omega)) ?_)
 go_wp2
 go_ret
 obtain ⟨REST,c0⟩:=c8;have hN:=HN.out;refine ⟨_,rfl,⟨e2,.inr ⟨N,G,R2,rfl,yas _,?_,e1,c6,d1,?_⟩⟩,⟨?_,?_,?_,?_,fun k hk f4=>?_⟩,.inr (by rw [<- hN];rfl)⟩
 ·exact setRow_heap _ N R1 R2 _ _ c7
 ·rw [c0,yb0 (by omega),ybh (by omega)]
 ·rw [b2.out];rfl
 ·rw [b2.out];rfl
 ·rw [b2.out];rfl
 ·simp [b2.out]
 ·have d4:k≠N:=by omega
  rw [setRow_other _ _ _ _ d4];show (W1.setRow N R1).heap[k]?=_;rw [setRow_other _ _ _ _ d4,d2.out k hk]
theorem zu9 {α:Type} {k:Nat}:∀ {es:List (List α)} (i:Nat),(∀ e∈es,e.length=k)->(es.take i).flatten=es.flatten.take (i*k)∧(es.drop i).flatten=es.flatten.drop (i*k)
 | [],i,_=>by simp
 | e::es,0,_=>by simp
 | e::es,i+1,h=>by
  have he:=h e (by simp);obtain ⟨h1,h2⟩:=zu9 (es:=es) i fun x hx=>h x (by simp [hx]);have hz:(i+1)*k=e.length+i*k:=by rw [he,Nat.succ_mul,yb9]
  constructor
  ·rw [List.take_succ_cons,ya4,ya4,h1,hz,ydf (l₁:=e),ybh (l:=e) (by omega),ycp]
  ·rw [List.drop_succ_cons,ya4,h2,hz,yd6 (l₁:=e),yda (l:=e) (by omega),ycb,ycp]
def RelW (R:Value->IV->Prop) (us:List Value) (xs:List IV):Prop:=∀ (i:Nat) u x,us[i]?=some u->xs[i]?=some x->R u x
theorem RelW.append {R:Value->IV->Prop} {us vs:List Value} {xs ys:List IV} (hl:us.length=xs.length) (h1:RelW R us xs) (h2:RelW R vs ys):RelW R (us++vs) (xs++ys):=fun i u x hu hx=>by
 rcases ya8 i us.length with h | h
 ·rw [ya2 h] at hu;rw [ya2 (by omega)] at hx;exact h1 i u x hu hx
 ·rw [ya5 h] at hu;rw [ya5 (by omega),<- hl] at hx;exact h2 _ u x hu hx
theorem RelW.take {R:Value->IV->Prop} {us:List Value} {xs:List IV} (k:Nat) (h:RelW R us xs):RelW R (us.take k) (xs.take k):=fun i u x hu hx=>by
 rw [yax] at hu hx;split at hu
 ·rename_i g;rw [if_pos g] at hx;exact h i u x hu hx
 ·cases hu
theorem RelW.drop {R:Value->IV->Prop} {us:List Value} {xs:List IV} (k:Nat) (h:RelW R us xs):RelW R (us.drop k) (xs.drop k):=fun i u x hu hx=>by
 rw [ya6] at hu hx;exact h _ u x hu hx
set_option maxRecDepth 100000 in
theorem sp_of_insert {es:List (List IV)} {e:List IV} {i:Int} (hk:∀ x∈es,x.length=2) (hke:e.length=2) (h0:0<=i) (h1:i<=(↑es.length:Int)) (hn:es.length<=1000000) :
  Sp Tryz.prog 146 [.row 150 2 es,.im (nI i),.row 150 2 [e]] (.row 150 2 (es.take i.toNat++[e]++es.drop i.toNat)):=by
 refine ⟨fun args w=>zeo rfl rfl rfl args w,fun w S vs F hS hv c6 hF=>?_⟩
 match vs,hv with
 | [v,vi,va],⟨F1,F2,⟨hv1,inn,hrow,e1⟩,⟨F3,F4,⟨h4,e2⟩,⟨F5,F6,⟨hva1,inn2,hrow2,e5⟩,h6,e6⟩,e3⟩,e4⟩ =>
  have h6:F6=[]:=h6;have e1:F1=(zbm v).toList:=e1;have e5:F5=(zbm va).toList:=e5;subst e1 e2 e5 h6;have e6:F4=(zbm va).toList:=by rw [e6];simp
  subst e6;have e3:F2=(zbm va).toList:=by rw [e3];simp
  subst e3;subst e4;cases h4;obtain ⟨us,_,_,f4,a2,b5,a9,hr⟩:=hrow;obtain ⟨news,_,_,_,a6,a8,b0,d8⟩:=hrow2;have d2:([e]:List (List IV)).length=1:=rfl;rw [d2] at a6
  have d6:news.length=2:=by
   rw [a8];simp [hke]
  obtain ⟨vb,vc,a0,rfl,_,b9,f6,f5,f8,b3⟩:∃ vb vc a0,va=.slice (some ⟨vb,0,none⟩) 1 vc∧0<=vb∧w.heap[vb]?=some (.cells a0 150 (0,0))∧1<=vc∧vc<=maxLen∧a0.size=vc*2∧a0.toList.take (1*2)=news:=by
   rcases a6.2 with ⟨_,h⟩ | h
   ·cases h
   ·exact h
  have d5:zbm (.slice (some ⟨vb,0,none⟩) 1 vc)=some vb:=rfl;rw [d5] at c6 hF ⊢;have d1:¬ S vb∧vb<w.heap.size:=hF vb (by simp);have f3:us.length=es.length*2:=a2.1;have ei:i=(↑i.toNat:Int):=by omega
  have b6:Calls Tryz.prog 146 #[v,.int .i64 i,.slice (some ⟨vb,0,none⟩) 1 vc] w (InsPost 150 2 es.length (us.take (i.toNat*2)++news++us.drop (i.toNat*2)) v w):=by
   rw [ei];simp only [ybz];by_cases d3:i.toNat=es.length
   ·have:=insert_end w v es.length vb vc us news a2 (by omega) (fun j u hj=>by
     have d0:=(zkI.1 hj).1
     simp only [World.cell?,b9]
     rw [<- b3,yax,if_pos (by omega),yao] at hj
     simpa using hj) b0 hn
    rw [d3,ybh (by omega),yda (by omega),ybp];exact this
   ·rcases a2.2 with ⟨_,h⟩ | ⟨g,a4,cur,hv,_,hg,f7,e7,d4,c9⟩
    ·omega
    ·subst hv
     have e8:vb≠g:=fun e=>by
      have:zbm (.slice (some ⟨g,0,none⟩) es.length a4)=some g:=rfl;rw [this,e] at c6;simp at c6
     by_cases b8:es.length<a4
     ·exact insert_shift w g a4 es.length i.toNat vb vc cur a0 us news hg d4 c9 e7 e8 b9 b3 d6 a9 b0 (by omega) b8 hn
     ·have hc:a4=es.length:=by omega
      subst hc;exact insert_grow w g es.length i.toNat vb vc cur a0 us news hg d4 c9 b9 b3 d6 a9 b0 (by omega) hn
  refine b6.mono ?_;rintro ex w' ⟨v',rfl,ho,a3,e0⟩;have d7:=a2
  have b7:v.ownBlock=zbm v:=by
   rcases a2.2 with ⟨rfl,_⟩ | ⟨g,a4,cur,rfl,_⟩<;>rfl
  have b2:v'.ownBlock=zbm v':=by
   rcases ho.2 with ⟨rfl,_⟩ | ⟨g,a4,cur,rfl,_⟩<;>rfl
  have d0:=ho.lt
  have b4:∀ b∈(zbm v').toList,(w.heap.size<=b∨b∈(zbm v).toList)∧b<w'.heap.size:=fun b hb=>by
   have h2:zbm v'=some b:=by simpa using hb
   refine ⟨?_,?_⟩
   ·rcases e0 with h | h
    ·rw [b7,b2,h2] at h;exact .inr (by rw [<- h];simp)
    ·rw [b2,h2] at h;injection h with h
     exact .inl (by omega)
   ·refine (d0 b ?_).2;rw [zit ho];simpa using hb
  have d9:Belo (fun b=>b∈(zbm v).toList++[vb]) w.heap.size w w':=⟨a3.os,a3.tape,a3.output,a3.size,fun b hb e9=>a3.block b hb fun h=>e9 (by
   rw [b7] at h
   rw [<- h]
   simp)⟩
  have c8:∀ b,S b->b<w.heap.size∧b∉(zbm v).toList∧b≠vb:=fun b hb=>⟨hS b hb,fun hm=>(hF b (by simp [hm])).1 hb,fun e=>d1.1 (e ▸ hb)⟩
  have c0:∀ u x,RepI w S u x->RepI w' (fun b=>(S b∨w.heap.size<=b∨b∈(zbm v).toList++[vb])∧b<w'.heap.size∧b∉(zbm v').toList) u x:=fun u x h=>h.mono (fun b hb=>⟨.inl hb,yb2 (hS b hb) a3.size,fun hm=>by
    rcases (b4 b hm).1 with h2 | h2
    ·have:=hS b hb
     omega
    ·exact (c8 b hb).2.1 h2⟩) fun p y hp hy=>by
   have h6:=a3.block p.block (hS _ hp) fun h=>(c8 _ hp).2.1 (by
    rw [b7] at h
    rw [<- h]
    simp)
   have h7:w'.cell? p=w.cell? p:=by
    unfold World.cell?;rw [h6]
   rw [h7];exact hy
  have c7:=zu9 (es:=es) (k:=2) i.toNat hk
  have a7:(es.take i.toNat++[e]++es.drop i.toNat).flatten=es.flatten.take (i.toNat*2)++[e].flatten++es.flatten.drop (i.toNat*2):=by
   rw [ybt,ybt,c7.1,c7.2]
  have a5:(es.take i.toNat++[e]++es.drop i.toNat).length=es.length+1:=by
   rw [zkJ,zkJ,yak,ya0,yde];omega
  refine ⟨v',(zbm v').toList,rfl,d9,⟨[v'],(zbm v').toList,[],rfl,⟨(zbm v').toList,[],⟨row_one ho,[],⟨_,by decide,fun x hx=>?_,by rw [a5];omega,by rw [a5];exact ho,?_,fun u hu=>?_,?_⟩,rfl⟩,rfl,by simp⟩,rfl,by simp⟩,?_,fun b hb=>⟨?_,(b4 b hb).2⟩⟩
  ·rcases yal.1 hx with hx | hx
   ·rcases yal.1 hx with hx | hx
    ·exact hk x (yaz hx)
    ·rw [yaw.1 hx];exact hke
   ·exact hk x (ya1 hx)
  ·rw [a7];simp only [zkJ,yak,ya0,<- b5,<- a8]
  ·rcases yal.1 hu with hu | hu
   ·rcases yal.1 hu with hu | hu
    ·exact a9 u (yaz hu)
    ·exact b0 u hu
   ·exact a9 u (ya1 hu)
  ·rw [a7];have q1:RelW (RepI w S) us es.flatten:=hr;have q2:RelW (RepI w S) news [e].flatten:=d8;have:=RelW.append (by simp only [zkJ,yak,<- b5,<- a8]) (RelW.append (by simp only [yak,<- b5]) (q1.take (i.toNat*2)) q2) (q1.drop (i.toNat*2));exact fun j u x hu hx=>c0 u x (this j u x hu hx)
  ·cases zbm v'<;>simp
  ·rcases (b4 b hb).1 with h | h
   ·exact .inl h
   ·exact .inr (by simp [h])
end
end Go.Proofs.YtkiajpbdicaceaaGreatDoor.Sym
namespace Go.Proofs.YtkiajpbdicaceaaGreatDoor
set_option maxRecDepth 100000 in
set_option maxHeartbeats 1600000 in
theorem keyM_any {A:Option Addr} {n c:Nat} {xs:List Int} {w:World} (hx:ziv w zo1 A n c xs) (hr:∀ x∈xs,Rng x) (hn:n<=2000000) :
  Calls Tryz.prog 47 #[.slice A n c] w (KeyPost w (keyL xs)):=by
 have HL:=Lib.hid hx.len;have HR:=Lib.hid hr;obtain ⟨i0,hi,b8,c8,c7⟩:=info_parts Tryz.infoByte;clear hr
 go_enter Tryz.func47,Tryz.ntmps47
 go_wp2
 go_loopw [3,5,8] (fun v _ i wr=>∃ k:Nat,k<=n∧i=.int .i64 k∧OwnB wr w.heap.size v (keyL (xs.take k))∧Below w.heap.size w wr) (fun _ _ i _=>n-(intOf i).toNat)
 case atStart=>exact ⟨0,by omega,rfl,OwnB.nil_ _ _,Below.refl _ _⟩
 case round =>
  obtain ⟨k,hk,rfl,a0,a3⟩:=hrel
  have d2:(keyL (xs.take k)).length<=15*k:=by
   have:=keyL_len (xs:=xs.take k) fun x hx=>HR.out x (List.mem_of_mem_take hx);rw [List.length_take] at this;omega
  by_cases h1:k<n
  ·obtain ⟨b,o,x,rfl,a9,b6⟩:=hx.int_at h1;have hc:=Keeps.of_below a3 _ _ b6;have a7:=HR.out x (List.mem_of_getElem? a9);have HX:=Lib.hid a9;have HC:=Lib.hid (zj1 a7.1 a7.2 a0 a3.size (by omega));have d1:=zuh a7.1 a7.2;have HB:=Lib.hid a3;clear a9 b6 a7 a0 a3;have b7:∀ u∈[Value.int .u8 32],u.oneCell'=true:=by intro u hu;simp at hu;subst hu;rfl
   have c6:(keyL (xs.take k)++zm3 x).length+1<=maxLen:=by unfold maxLen;simp;omega
   have c9:((keyL (xs.take k)++zm3 x).length+1)*1<=140737488355328:=by simp;omega
   go_wp2_with (first | (go_at_call 82;refine HC.out.mono ?_;rintro e w1 ⟨v1,rfl,a4,a8⟩;have HH:=Lib.hid (And.intro a4 a8);have b4:=fun t=>src_one w1 (.int .u8 32) t;have a6:=fun o=>World.ownsRow.alloc a4 o;have b0:∀ o,w.heap.size<=(w1.alloc o).heap.size:=(fun o=>by have:=HB.out.size;have:=a8.size;simp;omega);clear a4 a8) | (at_builtin;refine zhe rfl (.tmp 14) (.tmp 15) 135 rfl w.heap.size 5 i0 (.int .u8 0) 1 Tryz.underlying135 hi b8 c8 c7 rfl v1 _ _ rfl (a6 _) _ 1 1 [.int .u8 32] rfl (b4 _) b7 c6 c9 (b0 _) ?_;intro v2 w2 a5 b3 d0))
   have b5:OwnB w2 w.heap.size v2 (keyL (xs.take (k+1))):=by
    unfold OwnB;rw [keyL_take HX.out,zkc,List.length_append];exact a5
   have b2:Below w.heap.size w w2:=((HB.out.trans (HH.out.2.mono (Nat.le_refl _))).alloc (by have:=HB.out.size;have:=HH.out.2.size;omega) _).grown b3 (b0 _) fun g e=>(OwnB.lt HH.out.1 g e).1;clear a5 b3 d0 b4 a6 b0
   go_roundw
   case rel=>exact ⟨k+1,by omega,by go_num,b5,b2⟩
   case measure=>simp [intOf]<;>omega
  ·rw [List.take_of_length_le (by rw [HL.out];omega)] at a0
   have b9:(convert 135 9 u3).run Tryz.prog wr=.ok (.string ⟨(keyL xs).toArray⟩) wr:=by
    rcases a0.2 with ⟨rfl,h0⟩ | ⟨g,c0,cur,rfl,_,_,_⟩
    ·have a2:keyL xs=[]:=List.eq_nil_of_length_eq_zero h0;rw [a2];exact Lib.run_convert_nil_bytes wr _ _ _ 0 Tryz.underlying135 Tryz.underlying5 Tryz.underlying9
    ·refine run_convert_bytes_back wr _ _ _ ⟨g,0,none⟩ c0 (keyL xs) Tryz.underlying135 Tryz.underlying5 Tryz.underlying9 fun j hj=>?_;rw [a0.cells (g:=g) rfl j (.int .u8 ((keyL xs)[j].toNat:Int)) (by simp [zi0,hj])]
   clear a0
   go_wp2
   go_ret
   exact ⟨rfl,a3⟩
end Go.Proofs.YtkiajpbdicaceaaGreatDoor
namespace Go.Proofs.YtkiajpbdicaceaaGreatDoor.Sym
def zol (l:List Int):Option ByteArray:=chk (∀ x∈l,inR x) (chk (l.length<=2000000) (some ⟨(keyL l).toArray⟩))
set_option maxRecDepth 100000 in
theorem sp_mapper_key (l:List Int) (r:ByteArray) (h:zol l=some r):Sp Tryz.prog 47 [.im (nL cI l)] (.im (nS r)):=by
 obtain ⟨h1,h⟩:=zad h;obtain ⟨h2,h⟩:=zad h;injection h with h
 subst h;refine ⟨fun args w=>zeo rfl rfl rfl args w,fun w S vs F hS hv hn hF=>?_⟩
 match vs,hv with
 | [v],⟨F1,F2,⟨h3,e1⟩,h4,e2⟩ =>
  have h4:F2=[]:=h4;subst e1 h4 e2;obtain ⟨A,n,c,rfl,a0⟩:=zgo h3;refine (keyM_any a0 h1 (by rw [<- a0.1];exact h2)).mono ?_;rintro e w' ⟨rfl,hb⟩;exact ⟨_,[],rfl,.of hb,⟨[_],[],[],rfl,⟨[],[],⟨.val _,rfl⟩,rfl,rfl⟩,rfl,rfl⟩,List.nodup_nil,fun b hb=>by simp at hb⟩
end Go.Proofs.YtkiajpbdicaceaaGreatDoor.Sym
namespace Go.Proofs.YtkiajpbdicaceaaGreatDoor.Sym
def zs8 {α:Type} (by_:Nat) (l:List α):Option (List α):=chk (za2 l.length by_) (some l)
def zdg (l:yab):Option (yab):=zs8 8 l
theorem zc0 (l r:yab) (h:zdg l=some r):Sp Tryz.prog 24 [.im (nL cI l)] (.row 3 1 (List.map cI r)):=by
 obtain ⟨h1,h⟩:=zad h;injection h with h
 subst h;exact zps (by_:=8) (fun args w=>zeo rfl rfl rfl args w) (by decide) clone_int (fun e he=>by obtain ⟨y,_,rfl⟩:=yap.1 he;rfl) (by rw [zkK];exact h1)
def znn (l:yaa):Option (yaa):=zs8 24 l
theorem zqf (l r:yaa) (h:znn l=some r):Sp Tryz.prog 136 [.im (nL (cL cI) l)] (.row 25 1 (List.map (cL cI) r)):=by
 obtain ⟨h1,h⟩:=zad h;injection h with h
 subst h;exact zps (by_:=24) (fun args w=>zeo rfl rfl rfl args w) (by decide) clone_words (fun e he=>by obtain ⟨y,_,rfl⟩:=yap.1 he;rfl) (by rw [zkK];exact h1)
def ziw (l:yaa) (f:(yab)->(yab)->Option Int):Option (yaa):=libSort l f
theorem zjv (l:yaa) (f:(yab)->(yab)->Option Int) (g:FuncId) (hd:CmpE Tryz.prog g (fun x=>nL cI x) f) (r:yaa) (h:ziw l f=some r):Sp Tryz.prog 92 [.lent (.row 25 1 (List.map (cL cI) l)),.im (.fn g [])] (.mk true [] [.lent (.row 25 1 (List.map (cL cI) r))]) :=
 zwd (fun args w=>zeo rfl rfl rfl args w) sortC_words (by decide) (fun _=>rfl) (fun W S us x hl h1 hr=>rep_of_one hl hr) hd.1 hd.2 h
def zm9 (l:List zab):Option (List zab):=zs8 48 l
theorem zpw (l r:List zab) (h:zm9 l=some r):Sp Tryz.prog 176 [.im (nL zag l)] (.row 150 2 (List.map zag r)):=by
 obtain ⟨h1,h⟩:=zad h;injection h with h
 subst h;exact zps (by_:=48) (fun args w=>zeo rfl rfl rfl args w) (by decide) clone_traces (fun e he=>by obtain ⟨y,_,rfl⟩:=yap.1 he;rfl) (by rw [zkK];exact h1)
def zkr (l:List zab) (f:zab->zab->Option Int):Option (List zab):=libSort l f
theorem zng (l:List zab) (f:zab->zab->Option Int) (g:FuncId) (hd:CmpE Tryz.prog g (fun x=>.agg (zag x)) f) (r:List zab) (h:zkr l f=some r):Sp Tryz.prog 177 [.lent (.row 150 2 (List.map zag l)),.im (.fn g [])] (.mk true [] [.lent (.row 150 2 (List.map zag r))]) :=
 zwd (fun args w=>zeo rfl rfl rfl args w) sortC_traces (by decide) (fun _=>rfl) (fun W S us x hl h1 hr=>.agg _ _ hr.1 h1 hr.2) hd.1 hd.2 h
def zmd (l:List zab) (i:Int) (v:List zab):Option (List zab):=chk (0<=i∧i<=(↑l.length:Int)∧v.length=1∧l.length<=1000000) (some (l.take i.toNat++v++l.drop i.toNat))
theorem zoz (l:List zab) (i:Int) (v:List zab) (r:List zab) (h:zmd l i v=some r):Sp Tryz.prog 146 [.row 150 2 (List.map zag l),.im (nI i),.row 150 2 (List.map zag v)] (.row 150 2 (List.map zag r)):=by
 obtain ⟨h1,h⟩:=zad h;injection h with h
 subst h
 match v,h1 with
 | [x],h1 =>
  have:=sp_of_insert (es:=l.map zag) (e:=zag x) (i:=i) (fun e he=>by obtain ⟨y,_,rfl⟩:=yap.1 he;rfl) rfl h1.1 (by rw [zkK];exact h1.2.1) (by rw [zkK];exact h1.2.2.2);simpa [ya9,ydh,ydr] using this
end Go.Proofs.YtkiajpbdicaceaaGreatDoor.Sym

/-
  Parts of the proof, behind each other.
-/
import Derived.Test.YtkeplokjplkcmaaGreatM2
import Derived.Scope
import Derived.Test.YtkeplokjplkcmaaGreatRows
import Derived.ProofKit
import Derived.OpenShut
import Derived.JoinedCond
import Derived.Deep.DeepHandedRow
import Derived.Deep.Slices
import Derived.WalkKit
import Derived.Deep.AppendLies
import Derived.Deep.Draws
import Derived.Maps.AppendAt
import Derived.Deep.QuietTactic
import Derived.BigQuiet
import Derived.WalkSpells
import Derived.Outline
import Derived.Lib.Hide
import Derived.Test.YtkeplokjplkcmaaGreatProg
import Derived.Lib.AppendZeros
import Derived.Shelf.SlSortCmp.NoneTotal
import Derived.Lib.OwnBridge
import Derived.Laws.OwnMore
import Derived.Lib.BufferRead
import Derived.WalkSmall
import Derived.Shelf.SlSortCmp.Whole1
import Derived.Shelf.SlSortCmp.WholeK
import Derived.Shelf.SlGeneric
import Derived.Ground.SlsfProg
set_option linter.all false
set_option maxRecDepth 100000
namespace Go.Proofs.YtkeplokjplkcmaaGreat.Sym
section
open Go.RowKit
def least{p:Nat->Prop}(h:∃m,p m):∃m,p m/\∀k,p k->m<=k:=by
 obtain⟨m,hm⟩:=h
 induction m using Nat.strongRecOn with
 |_ m ih =>
  by_cases hk:∃k,k<m/\p k
  ·obtain⟨k,h1,h2⟩:=hk;exact ih k h1 h2
  ·exact⟨m,hm,λk hp=>by
    rcases ya9 k m with h1|h1
    ·exact absurd ⟨k,h1,hp⟩ hk
    ·exact h1⟩
section
variable {P:Program}{B:Base}
def zb7.out{body:(Exit->St->Prop)->St->Prop}{K:Exit->St->Prop}{σ:St}(h:zb7 body K σ) :
  ∃(I:Nat->St->Prop) (m:Nat),I m σ/\∀m σ,I m σ->∃σ1 φ,Ent σ σ1/\Holds σ1 φ/\(φ->body (λe σ'=>match e with|.normal=>∃m',m'<m/\I m' σ'|e=>K e σ') σ1):=by
 unfold zb7 at h;exact h
open Classical in
def loop_ok{body:Code}{K:Exit->St->Prop}{σ:St}{f:(Exit->St->Prop)->St->Prop}(h:zb7 f K σ)
  (hbody:∀(K':Exit->St->Prop) (σ:St),f K' σ->∀a w,Sat B σ a w->∀Q:Exit->Act->World->Prop,(∀e σ' a' w',K' e σ'->Sat B σ' a' w'->Q e a' w')->body.wp P Q a w)
  {a:Act} {w:World} (hs:Sat B σ a w) {Q:Exit->Act->World->Prop} (hQ:∀e σ' a' w',K e σ'->Sat B σ' a' w'->Q e a' w'):(Code.loop body).wp P Q a w:=by
 obtain⟨I,m0,h0,hI⟩:=h.out
 let L:Act->World->Nat->Prop:=λa w m=>∃σ,I m σ/\Sat B σ a w
 let μ:Act->World->Nat:=λa w=>if h:∃m,L a w m then Classical.choose (least h) else 0
 refine wp_loop (λa w=>∃m,L a w m) μ ⟨m0,σ,h0,hs⟩ λa w hL=>?_;obtain⟨h1,h2⟩:=yet (least hL);have hμ:μ a w=Classical.choose (least hL):=by simp only[μ];rw[dif_pos hL]
 generalize hm:Classical.choose (least hL)=m at h1 h2 hμ;obtain⟨σ1,hσ1,a5⟩:=h1;obtain⟨σ2,φ,a4,hφ,hb⟩:=hI m σ1 hσ1;have a2:=a4 B a w a5;refine hbody _ σ2 (hb (hφ B a w a2)) a w a2 _ λe σ' a' w' hk hs'=>?_;cases e with
 |normal =>
  obtain⟨m',a6,a3⟩:=hk;have a0:∃m,L a' w' m:=⟨m',σ',a3,hs'⟩;refine⟨a0,?_⟩;have h3:=(yet (least a0)).2 m' ⟨σ',a3,hs'⟩;have hμ':μ a' w'=Classical.choose (least a0):=by simp only[μ];rw[dif_pos a0]
  rw[hμ',hμ];omega
 |exit id=>exact hQ _ σ' a' w' hk hs'
 |goto l=>exact hQ _ σ' a' w' hk hs'
 |ret=>exact hQ _ σ' a' w' hk hs'
 |panic ch=>exact hQ _ σ' a' w' hk hs'
 |outgrown=>exact hQ _ σ' a' w' hk hs'
def zfn(hm:P.follows .mixedOrders=true){C:FuncId->List Arg->Rs->Prop}(hC:∀g xs r,C g xs r->SpX P g xs r){own:List Nat}:∀(c:Code) (K:Exit->St->Prop) (σ:St),zje P C B.n own c K σ->∀a w,Sat B σ a w->∀Q:Exit->Act->World->Prop,
  (∀e σ' a' w',K e σ'->Sat B σ' a' w'->Q e a' w')->c.wp P Q a w
 | .skip,K,σ,h,a,w,hs,Q,hQ=>wp_skip (hQ .normal σ a w h hs)
 | .region id ops draw,K,σ,h,a,w,hs,Q,hQ=>aRegion_ok hm hC (id:=id) h hs hQ
 | .seq x y,K,σ,h,a,w,hs,Q,hQ=>by
  simp only[zje]at h;split at h
  case h_2 =>
   obtain⟨Post,h1,h2⟩:=h.out;refine wp_seq (zfn hm hC x _ σ h1 a w hs _ λe σ' a' w' hk hs'=>?_);cases e with
   |normal =>
    obtain⟨σ1,he,hp⟩:=hk;obtain⟨φ,hφ,h3⟩:=h2 σ1 hp;have hs1:=he B a' w' hs';exact zfn hm hC y K σ1 (h3 (hφ B a' w' hs1)) a' w' hs1 Q hQ
   |exit id=>exact hQ _ σ' a' w' hk hs'
   |goto l=>exact hQ _ σ' a' w' hk hs'
   |ret=>exact hQ _ σ' a' w' hk hs'
   |panic ch=>exact hQ _ σ' a' w' hk hs'
   |outgrown=>exact hQ _ σ' a' w' hk hs'
  refine wp_seq (zfn hm hC x _ σ h a w hs _ λe σ' a' w' hk hs'=>?_);cases e with
  |normal=>exact zfn hm hC y K σ' hk a' w' hs' Q hQ
  |exit id=>exact hQ _ σ' a' w' hk hs'
  |goto l=>exact hQ _ σ' a' w' hk hs'
  |ret=>exact hQ _ σ' a' w' hk hs'
  |panic ch=>exact hQ _ σ' a' w' hk hs'
  |outgrown=>exact hQ _ σ' a' w' hk hs'
 | .cond c x y,K,σ,h,a,w,hs,Q,hQ=>by
  simp only[zje]at h;split at h
  ·rename_i t ht;obtain⟨h1,h2⟩:=h.out
   have hc:a.eval c=.bool t:=by
    obtain⟨ρ,hs⟩:=hs;exact zhu ht (za4 hs c)
   cases ht':t with
   |true=>exact wp_cond_true (hc.trans (by rw[ht'])) (zfn hm hC x K σ (h1 ht') a w hs Q hQ)
   |false=>exact wp_cond_false (hc.trans (by rw[ht'])) (zfn hm hC y K σ (h2 ht') a w hs Q hQ)
  ·exact h.elim
 | .block id body,K,σ,h,a,w,hs,Q,hQ=>by
  simp only[zje]at h;split at h
  case h_2 =>
   obtain⟨Post,h1,h2⟩:=h.out
   have a0:∀σ' a' w',(∃σ1,Ent σ' σ1/\Post σ1)->Sat B σ' a' w'->Q .normal a' w':=λσ' a' w' ⟨σ1,he,hp⟩ hs'=>by
    obtain⟨φ,hφ,h3⟩:=h2 σ1 hp;have hs1:=he B a' w' hs';exact hQ _ σ1 a' w' (h3 (hφ B a' w' hs1)) hs1
   refine wp_block (zfn hm hC body _ σ h1 a w hs _ λe σ' a' w' hk hs'=>?_);cases e with
   |exit j =>
    simp only at hk;show(if j=id then Q .normal a' w' else Q (.exit j) a' w');by_cases e:j=id
    ·rw[if_pos e]at hk ⊢;exact a0 σ' a' w' hk hs'
    ·rw[if_neg e]at hk ⊢;exact hQ _ σ' a' w' hk hs'
   |normal=>exact a0 σ' a' w' hk hs'
   |goto l=>exact hQ _ σ' a' w' hk hs'
   |ret=>exact hQ _ σ' a' w' hk hs'
   |panic ch=>exact hQ _ σ' a' w' hk hs'
   |outgrown=>exact hQ _ σ' a' w' hk hs'
  refine wp_block (zfn hm hC body _ σ h a w hs _ λe σ' a' w' hk hs'=>?_);cases e with
  |exit j =>
   simp only at hk;show(if j=id then Q .normal a' w' else Q (.exit j) a' w');by_cases e:j=id
   ·rw[if_pos e]at hk ⊢;exact hQ _ σ' a' w' hk hs'
   ·rw[if_neg e]at hk ⊢;exact hQ _ σ' a' w' hk hs'
  |normal=>exact hQ _ σ' a' w' hk hs'
  |goto l=>exact hQ _ σ' a' w' hk hs'
  |ret=>exact hQ _ σ' a' w' hk hs'
  |panic ch=>exact hQ _ σ' a' w' hk hs'
  |outgrown=>exact hQ _ σ' a' w' hk hs'
 | .loop body,K,σ,h,a,w,hs,Q,hQ=>loop_ok h (λK' σ h a w hs Q hQ=>zfn hm hC body K' σ h a w hs Q hQ) hs hQ
 | .exit id,K,σ,h,a,w,hs,Q,hQ=>wp_exit (hQ _ σ a w h hs)
 | .ret,K,σ,h,a,w,hs,Q,hQ=>wp_ret (hQ _ σ a w h hs)
 | .rangeFunc ..,_,_,h,_,_,_,_,_=>h.elim
 | .scope body,K,σ,h,a,w,hs,Q,hQ=>by
  refine wp_scope_straight (zfn hm hC body _ σ h a w hs _ λe σ' a' w' hk hs'=>?_);cases e with
  |goto l=>exact hk.elim
  |exit j=>exact hQ _ σ' a' w' hk hs'
  |normal=>exact hQ _ σ' a' w' hk hs'
  |ret=>exact hQ _ σ' a' w' hk hs'
  |panic ch=>exact hQ _ σ' a' w' hk hs'
  |outgrown=>exact hQ _ σ' a' w' hk hs'
 | .label _,K,σ,h,a,w,hs,Q,hQ=>wp_label (hQ _ σ a w h hs)
 | .goto _,_,_,h,_,_,_,_,_=>h.elim
 | .refuse _,_,_,h,_,_,_,_,_=>h.elim
def resA(P:Program)(σ:St):ResultVar->Option (AV×yad)
 | .tmp t=>some (σ.av t,[])
 | .cell c t=>match σ.av c with
  | .own b g i=>match zma P t with
   |some false=>if Nat.blt i (zii σ b)=true then some (σ.ce b i,[(b,g)]) else none
   |some true=>match szOf P t with
    |some m=>if(Nat.blt 0 m&&Nat.ble (i+m) (zii σ b))=true then some (aggA ((List.range m).map λj=>σ.ce b (i+j)),[(b,g)]) else none
    |none=>none
   |none=>none
  |_=>none
def resAs(P:Program)(σ:St):List ResultVar->Option (List AV×yad)
 |[]=>some ([],[])
 |r::l=>match resA P σ r,resAs P σ l with|some (v,b),some (vs,bs)=>some (v::vs,b++bs)|_,_=>none
def outC(σ:St)(c:Oc)(a:AV):Option (Oc×yad×yad):=match c with
 | .im _=>match fz σ a with
  |some (x,bs)=>some (.im x,bs,[])
  |none=>none
 | .ow k0=>match a with
  | .osl b g=>match objG σ b with
   |some k=>some (.ow k,[],[(b,g)])
   |none=>none
  | .im x=>match k0 with
   | .row e k _=>match nilRow x e k with
    |some q=>some (.ow q,[],[])
    |none=>none
   |_=>none
  |_=>none
def outCs(σ:St):List Oc->List AV->Option (List Oc×yad×yad)
 |[],[]=>some ([],[],[])
 |c::cs,a::l=>match outC σ c a,outCs σ cs l with
  |some (x,bs,gs),some (xs,bs',gs')=>some (x::xs,bs++bs',gs++gs')
  |_,_=>none
 |_,_=>none
def zi0(σ:St):Nat->List Arg->List Arg->Option (List Arg×yad×yad)
 |_,[],[]=>some ([],[],[])
 |i,.im _::xs,ys=>zi0 σ (i+1) xs ys
 |i,.ow _::xs,ys=>zi0 σ (i+1) xs ys
 |i,.box _ _::xs,.box _ cs::ys=>match σ.kd i with
  | .box t _=>match outCs σ cs (zok σ i),zi0 σ (i+1) xs ys with
   |some (cs',bs,gs),some (l,bs',gs')=>some (.box t cs'::l,bs++bs',((i,0)::gs)++gs')
   |_,_=>none
  |_=>none
 |i,.lent _::xs,.lent _::ys=>match objG σ i,zi0 σ (i+1) xs ys with
  |some k,some (l,bs',gs')=>some (.lent k::l,bs',(i,0)::gs')
  |_,_=>none
 |_,_,_=>none
def RetOk(P:Program)(rs:List ResultVar)(xs:List Arg)(σ:St)(r:Rs):Prop :=
 match resAs P σ rs,r with
 |some (vs,c),.mk tp l ys=>Chk (match tp with|true=>!Nat.beq vs.length 1|false=>Nat.beq vs.length 1) (zkj σ c (match outCs σ l vs,zi0 σ 0 xs ys with
  |some (l',bs,gs),some (ys',bs',gs')=>Chk (ndB ((gs++gs').map (·.1)) ((bs++bs').map (·.1))) (zkj σ ((bs++bs')++(gs++gs')) (l'=l/\ys'=ys))
  |_,_=>False))
 |none,_=>False
def retK(P:Program)(rs:List ResultVar)(xs:List Arg)(r:Rs):Exit->St->Prop
 | .ret,σ=>RetOk P rs xs σ r
 | .normal,σ=>RetOk P rs xs σ r
 |_,_=>False
def oneRes(tmps:Array Value):ResultVar->Sem Value
 | .tmp t=>pure (tmps.getD t undef)
 | .cell c t=>do loadVar t (<- asAddr (tmps.getD c undef))
def ztl(fn:Func)(tmps:Array Value):results fn tmps=(do let vs <- fn.results.mapM (oneRes tmps);pure (if h:vs.size=1 then vs[0] else .tuple vs)):=by
 unfold results
 have e:(λr:ResultVar=>match r with
  | .tmp t=>(pure (tmps.getD t undef):Sem Value)
  | .cell a t=>do loadVar t (<- asAddr (tmps.getD a undef)))=oneRes tmps:=funext λr=>by cases r<;>rfl
 rw[<- e];rfl
def resA_ok{σ:St}{a:Act}{w:World}{ρ:Ly}(h:SatR B σ a w ρ){r:ResultVar}{v:AV}{bs:yad}(e:resA P σ r=some (v,bs))(hg:∀p∈bs,σ.gn p.1=p.2) :
  ∃u,(oneRes a.tmps r).run P w=.ok u w/\RepA w (Imm B σ ρ w) ρ σ.gn u v:=by
 cases r with
 |tmp t =>
  simp only[resA,zkF,zkG]at e;rw[<- e.1];exact⟨_,rfl,h.tms t⟩
 |cell c t =>
  simp only[resA]at e;split at e
  ·rename_i b g i hc;have h1:=h.tms c;rw[hc]at h1
   have ld:∀q u,a.tmps.getD c undef=.pointer (some q)->(Instr.loadAt t (.pointer (some q))).run P w=.ok u w->(do loadVar t (<- asAddr (a.tmps.getD c undef)):Sem Value).run P w=.ok u w:=λq u e1 e2=>by
    simp only[Instr.loadAt,Instr.sureAddr,Sem.run_bind,Sem.run_pure,Result.andThen_ok]at e2;simp only[e1,asAddr,Sem.run_bind,Sem.run_pure,Result.andThen_ok,e2]
   split at e
   ·rename_i a0;split at e
    ·rename_i hi;simp only[zkF,zkG]at e;obtain⟨rfl,rfl⟩:=e;obtain⟨t',m,hk,a6⟩:=zia (zd5 hi);obtain⟨q,us,e1,_,_,hl,a2,a3,hr⟩:=zho h h1 (hg (b,g) (by simp)) hk;obtain⟨u,hu⟩:∃u,us[i]?=some u:=⟨_,zkM (by omega)⟩;exact⟨u,ld _ u e1 (zlm a0 (a3 i u hu)),hr i u hu⟩
    ·cases e
   ·rename_i a0;split at e
    ·rename_i m hm;split at e
     ·rename_i hi;simp only[zkF,zkG]at e;obtain⟨rfl,rfl⟩:=e;rw[yax]at hi;have a7:=zd5 hi.1;have hi:=zf0 hi.2;obtain⟨t',m',hk,a6⟩:=zia (σ:=σ) (b:=b) (i:=i) (by omega);have a8:=zmu hk;obtain⟨q,us,e1,_,_,hl,a2,a3,hr⟩:=zho h h1 (hg (b,g) (by simp)) hk;have a4:((us.drop i).take m).length=m:=by rw[yas,ybh];omega
      refine⟨.agg ((us.drop i).take m).toArray,ld _ _ e1 (zkz a0 (by rw[a4];exact hm) λj u hj=>a3 (i+j) u (zcw hj).1),zlw ⟨by rw[a4];simp,λj u x hj hx=>?_⟩ λu hu=>a2 u (ybp (ybe hu))⟩;obtain⟨h3,a5⟩:=zcw hj;simp only[yae,yba a5,yap,zkF]at hx;rw[<- hx];exact hr _ u h3
     ·cases e
    ·cases e
   ·cases e
  ·cases e
def resAs_ok{σ:St}{a:Act}{w:World}{ρ:Ly}(h:SatR B σ a w ρ):∀{rs:List ResultVar} {vs:List AV} {bs:yad},resAs P σ rs=some (vs,bs)->(∀p∈bs,σ.gn p.1=p.2) ->
  ∃us:List Value,(rs.mapM (oneRes a.tmps)).run P w=.ok us w/\Reps w (Imm B σ ρ w) ρ σ.gn us vs
 |[],vs,bs,e,_=>by
  simp only[resAs,zkF,zkG]at e;rw[<- e.1];exact⟨[],by simp,rfl,by simp⟩
 |r::rs,vs,bs,e,hg=>by
  simp only[resAs]at e;split at e
  ·rename_i v b1 vs1 bs1 h1 h2;simp only[zkF,zkG]at e;obtain⟨rfl,rfl⟩:=e;obtain⟨u,hu,hr⟩:=resA_ok h h1 λp hp=>hg p (yan _ hp);obtain⟨us,hus,hrs⟩:=resAs_ok h h2 λp hp=>hg p (yai _ hp);refine⟨u::us,?_,by simp[hrs.1],λi x y hx hy=>?_⟩
   ·rw[List.mapM_cons];simp only[Sem.run_bind,hu,Result.andThen_ok,hus,Sem.run_pure]
   ·cases i with
    |zero=>simp at hx hy;rw[<- hx,<- hy];exact hr
    |succ i=>exact hrs.2 i x y (by simpa using hx) (by simpa using hy)
  ·cases e
def outC_ok{σ:St}{a:Act}{w:World}{ρ:Ly}(h:SatR B σ a w ρ){bs0:yad}(hgk:∀p∈bs0,σ.gn p.1=p.2){c:Oc}{u:Value}{v:AV}{x:Oc}{bs gs:yad}(hu:RepA w (Imm B σ ρ w) ρ σ.gn u v)(e:outC σ c v=some (x,bs,gs))(hb:∀p∈bs,p∈bs0)(hg:∀p∈gs,σ.gn p.1=p.2) :
  OcOk w (Imm B (app σ (fwr bs0)) ρ w) u x (zdh σ ρ gs):=by
 have hI:=(h.kills bs0).2;unfold outC at e;split at e
 ·split at e
  ·rename_i y bs' hy;simp only[zkF,zkG]at e;obtain⟨rfl,rfl,rfl⟩:=e;exact⟨fz_ok h hgk hu hy hb,rfl⟩
  ·cases e
 ·split at e
  ·rename_i b g;split at e
   ·rename_i k hk;simp only[zkF,zkG]at e;obtain⟨rfl,rfl,rfl⟩:=e;have a0:=hg (b,g) (by simp)
    have hv:u=ρ b:=by
     cases hu with
     |osl _ _ _ _ _ hh=>exact hh a0
    have hh:=zp0 h hk;subst hv;refine⟨hh.one,ρ.inn b,hh.mono (λ_ _=>rfl) hI,?_⟩;unfold zdh;rw[ybn,ydr,yb4,(zjl hk).1]
   ·cases e
  ·have hu:=hu.im_inv;split at e
   ·split at e
    ·rename_i q hq;simp only[zkF,zkG]at e;obtain⟨rfl,rfl,rfl⟩:=e;obtain⟨rfl,k',rfl⟩:=zml hq;cases hu;exact nil_oc _ _ _ _
    ·cases e
   ·cases e
  ·cases e
def zpx{σ:St}{a:Act}{w:World}{ρ:Ly}(h:SatR B σ a w ρ){bs0:yad}(hgk:∀p∈bs0,σ.gn p.1=p.2):∀{cs:List Oc} {us:List Value} {vs:List AV} {xs:List Oc} {bs gs:yad},Reps w (Imm B σ ρ w) ρ σ.gn us vs->outCs σ cs vs=some (xs,bs,gs)->(∀p∈bs,p∈bs0)->(∀p∈gs,σ.gn p.1=p.2) ->
  zjf w (Imm B (app σ (fwr bs0)) ρ w) us xs (zdh σ ρ gs)
 |[],us,[],xs,bs,gs,hr,e,_,_=>by
  simp only[outCs,zkF,zkG]at e;rw[<- e.1,<- e.2.2,yaz hr.1];exact rfl
 |[],_,_::_,_,_,_,_,e,_,_=>by simp[outCs]at e
 |_::_,_,[],_,_,_,_,e,_,_=>by simp[outCs]at e
 |c::cs,[],v::vs,_,_,_,hr,_,_,_=>by have:=hr.1;simp at this
 |c::cs,u::us,v::vs,xs,bs,gs,hr,e,hb,hg=>by
  simp only[outCs]at e;split at e
  ·rename_i x b1 g1 xs1 bs1 gs1 h1 h2;simp only[zkF,zkG]at e;obtain⟨rfl,rfl,rfl⟩:=e
   exact⟨_,_,outC_ok h hgk (hr.2 0 u v rfl rfl) h1 (λp hp=>hb p (yan _ hp)) λp hp=>hg p (yan _ hp),
    zpx h hgk ⟨by simpa using hr.1,λi u x hu hx=>hr.2 (i+1) u x (by simpa using hu) (by simpa using hx)⟩ h2 (λp hp=>hb p (yai _ hp)) λp hp=>hg p (yai _ hp),zd9 _ _ _⟩
  ·cases e
def zj8(xs:List Arg)(vs:List Value)(o:Nat):Option Value:=match xs[o]? with
 |some (.box _ _)=>vs[o]?
 |some (.lent _)=>vs[o]?
 |_=>none
def zlq{σ:St}{a:Act}{w:World}{ρ:Ly}(h:SatR B σ a w ρ){bs0:yad}(hgk:∀p∈bs0,σ.gn p.1=p.2):∀{xs:List Arg} {vs:List Value} {i:Nat} {ys ys':List Arg} {bs gs:yad},vs.length=xs.length->(∀j v,zj8 xs vs j=some v->B.L (i+j)=some v)->zi0 σ i xs ys=some (ys',bs,gs)->(∀p∈bs,p∈bs0)->(∀p∈gs,σ.gn p.1=p.2) ->
  zdz w (Imm B (app σ (fwr bs0)) ρ w) (bxVs vs xs) ys' (zdh σ ρ gs)
 |[],[],i,ys,ys',bs,gs,hl,hL,e,hb,hg=>by
  cases ys with
  |nil =>
   simp only[zi0,zkF,zkG]at e;rw[<- e.1,<- e.2.2];exact rfl
  |cons _ _=>simp[zi0]at e
 |[],_::_,_,_,_,_,_,hl,_,_,_,_=>by simp at hl
 |_::_,[],_,_,_,_,_,hl,_,_,_,_=>by simp at hl
 | .im x::xs,v::vs,i,ys,ys',bs,gs,hl,hL,e,hb,hg=>by
  have e:zi0 σ (i+1) xs ys=some (ys',bs,gs):=by cases ys<;>exact e
  exact zlq h hgk (xs:=xs) (vs:=vs) (i:=i+1) (by simpa using hl) (λj v hv=>by rw[ybt,ycm 1 j];exact hL (j+1) v (by simpa[zj8]using hv)) e hb hg
 | .ow k::xs,v::vs,i,ys,ys',bs,gs,hl,hL,e,hb,hg=>by
  have e:zi0 σ (i+1) xs ys=some (ys',bs,gs):=by cases ys<;>exact e
  exact zlq h hgk (xs:=xs) (vs:=vs) (i:=i+1) (by simpa using hl) (λj v hv=>by rw[ybt,ycm 1 j];exact hL (j+1) v (by simpa[zj8]using hv)) e hb hg
 | .lent _::xs,v::vs,i,[],ys',bs,gs,hl,hL,e,hb,hg=>by simp[zi0]at e
 | .lent _::xs,v::vs,i,.im _::ys,ys',bs,gs,hl,hL,e,hb,hg=>by simp[zi0]at e
 | .lent _::xs,v::vs,i,.ow _::ys,ys',bs,gs,hl,hL,e,hb,hg=>by simp[zi0]at e
 | .lent _::xs,v::vs,i,.box _ _::ys,ys',bs,gs,hl,hL,e,hb,hg=>by simp[zi0]at e
 | .box _ _::xs,v::vs,i,.lent _::ys,ys',bs,gs,hl,hL,e,hb,hg=>by simp[zi0]at e
 | .lent k0::xs,v::vs,i,.lent k1::ys,ys',bs,gs,hl,hL,e,hb,hg=>by
  unfold zi0 at e;split at e
  ·rename_i k l b2 g2 hk h2;simp only[zkF,zkG]at e;obtain⟨rfl,rfl,rfl⟩:=e;have a0:σ.gn i=0:=hg (i,0) (by simp);have hv:ρ i=v:=h.rt i v (by have:=hL 0 v (by simp[zj8]);simpa using this) a0;have hh:=zp0 h hk;have hI:=(h.kills bs0).2
   refine⟨fpk (ρ i) (ρ.inn i) k,zdh σ ρ g2,⟨by rw[<- hv];exact hh.one,ρ.inn i,by rw[<- hv];exact hh.mono (λ_ _=>rfl) hI,by rw[<- hv]⟩,
    zlq h hgk (xs:=xs) (vs:=vs) (i:=i+1) (by simpa using hl) (λj v hv=>by rw[ybt,ycm 1 j];exact hL (j+1) v (by simpa[zj8]using hv)) h2 hb (λp hp=>hg p (by simp[hp])),?_⟩
   unfold zdh;rw[ybn,(zjl hk).1]
  ·cases e
 | .box t0 c0::xs,v::vs,i,[],ys',bs,gs,hl,hL,e,hb,hg=>by simp[zi0]at e
 | .box t0 c0::xs,v::vs,i,.im _::ys,ys',bs,gs,hl,hL,e,hb,hg=>by simp[zi0]at e
 | .box t0 c0::xs,v::vs,i,.ow _::ys,ys',bs,gs,hl,hL,e,hb,hg=>by simp[zi0]at e
 | .box t0 c0::xs,v::vs,i,.box _ cs::ys,ys',bs,gs,hl,hL,e,hb,hg=>by
  unfold zi0 at e;split at e
  ·rename_i t m hk;split at e
   ·rename_i a2 b1 g1 l b2 g2 h1 h2;simp only[zkF,zkG]at e;obtain⟨rfl,rfl,rfl⟩:=e;have a0:σ.gn i=0:=hg (i,0) (by simp);have hv:ρ i=v:=h.rt i v (by have:=hL 0 v (by simp[zj8]);simpa using this) a0;have ho:=h.obs i;rw[hk]at ho;obtain⟨q,us,e1,e2,e3,e4,e5⟩:=ho;have hr:=zol (σ:=σ) (b:=i) (us:=us) (t:=t) (by rw[e3];exact hk) e5
    refine⟨_,_,⟨q,us,zdh σ ρ g1,by rw[<- hv];exact e1,e2,e4,zpx h hgk hr h1 (λp hp=>hb p (yan _ hp)) (λp hp=>hg p (by simp[hp])),rfl⟩,
     zlq h hgk (xs:=xs) (vs:=vs) (i:=i+1) (by simpa using hl) (λj v hv=>by rw[ybt,ycm 1 j];exact hL (j+1) v (by simpa[zj8]using hv)) h2 (λp hp=>hb p (yai _ hp)) (λp hp=>hg p (by simp[hp])),?_⟩
    rw[zd9];unfold zdh;rw[ybn,hk,e1];rfl
   ·cases e
  ·cases e
def zti{fn:Func}{xs:List Arg}{vs0:List Value}{r:Rs}{σ:St}(h:RetOk P fn.results.toList xs σ r){a:Act}{w:World}(hs:Sat B σ a w)(hl:vs0.length=xs.length)(hL:∀j v,zj8 xs vs0 j=some v->B.L j=some v) :
  ∃v F',(results fn a.tmps).run P w=.ok v w/\zl9 w (λb=>(B.S0 b\/Mine B b)/\b<w.heap.size/\b∉F') v (bxVs vs0 xs) r F'/\F'.Nodup/\∀b∈F',Mine B b/\b<w.heap.size:=by
 obtain⟨ρ,hs⟩:=hs;unfold RetOk at h;split at h
 ·rename_i vs c tp l ys b2;obtain⟨a9,h⟩:=h.ok;obtain⟨hg,h⟩:=h.out;obtain⟨us,b4,hr⟩:=resAs_ok hs b2 hg
  have a0:(results fn a.tmps).run P w=.ok (if h:us.toArray.size=1 then us.toArray[0] else .tuple us.toArray) w:=by
   rw[ztl,Sem.run_bind,ye8,map_eq_pure_bind,Sem.run_bind,b4];simp only[Result.andThen_ok,Sem.run_pure]
  split at h
  ·rename_i l' bs gs b6 bs' a3 h1 h2;obtain⟨b3,h⟩:=h.ok;obtain⟨a7,a4⟩:=zfm b3;obtain⟨b0,rfl,rfl⟩:=h.out;have a6:∀p∈bs++bs',σ.gn p.1=p.2:=λp hp=>b0 p (yan _ hp);have a8:∀p∈gs++a3,σ.gn p.1=p.2:=λp hp=>b0 p (yai _ hp);have r1:=zpx hs (bs0:=bs++bs') a6 hr h1 (λp hp=>yan _ hp) λp hp=>a8 p (yan _ hp);have r2:=zlq hs (bs0:=bs++bs') a6 hl (i:=0) (λj v hv=>by rw[yal];exact hL j v hv) h2 (λp hp=>yai _ hp) λp hp=>a8 p (yai _ hp)
   have a2:∀u x,RepI w (Imm B (app σ (fwr (bs++bs'))) ρ w) u x->RepI w (λb=>(B.S0 b\/Mine B b)/\b<w.heap.size/\b∉zdh σ ρ gs++zdh σ ρ a3) u x:=λu x hr=>hr.mono (λb hb=>⟨hb.1,hb.2.1,λhf=>by
    rw[<- zd9]at hf
    obtain⟨p,hp,ho⟩:=zds.1 hf
    refine hb.2.2.1 p.1 ?_
    unfold Owns at ho ⊢
    rw[zjk,if_neg (a4 p.1 (yao.2 ⟨p,hp,rfl⟩))]
    exact ho⟩) λ_ _ _ h=>h
   have hn:=zen hs a7;rw[zd9]at hn
   have hm:∀b∈zdh σ ρ gs++zdh σ ρ a3,Mine B b/\b<w.heap.size:=λb hb=>by
    rw[<- zd9]at hb;obtain⟨p,hp,ho⟩:=zds.1 hb;exact hs.own p.1 b ho
   have a5:us.toArray.size=vs.length:=by simp[hr.1]
   cases tp with
   |true =>
    have b5:¬us.toArray.size=1:=λe=>by
     rw[a5]at e;simp[e]at a9
    rw[dif_neg b5]at a0;exact⟨_,_,a0,⟨us,_,_,rfl,r1.mono a2,r2.mono a2,rfl⟩,hn,hm⟩
   |false =>
    have he:us.toArray.size=1:=by rw[a5];simpa using a9
    rw[dif_pos he]at a0
    obtain⟨u,rfl⟩:∃u,us=[u]:=by
     match us,he with
     |[u],_=>exact⟨u,rfl⟩
    exact⟨_,_,a0,⟨[u],_,_,rfl,r1.mono a2,r2.mono a2,rfl⟩,hn,hm⟩
  ·exact h.elim
 ·exact h.elim
def sig0:St:=λl=>match l with
 | .tmp _=>.av (.im .any)
 | .gen _=>.n 0
 | .ign _=>.n 0
 | .knd _=>.kd .dead
 | .cel _ _=>.av (.im .any)
def tau0:St:=λl=>match l with
 | .tmp _=>.av (.im .any)
 | .gen _=>.n 0
 | .ign _=>.n 0
 | .knd _=>.kd .dead
 | .cel o j=>.av (.osl (nmB o j) 0)
def zof:Arg->Oc
 | .im x=>.im x
 | .ow k=>.ow k
 | .box _ _=>.im .any
 | .lent _=>.im .any
def bxIx:Nat->List Arg->yad
 |_,[]=>[]
 |i,.box _ _::xs=>(i,i)::bxIx (i+1) xs
 |i,.lent _::xs=>(i,i)::bxIx (i+1) xs
 |i,.im _::xs=>bxIx (i+1) xs
 |i,.ow _::xs=>bxIx (i+1) xs
def bxAs:List Arg->List Arg
 |[]=>[]
 | .box t cs::xs=>.box t cs::bxAs xs
 | .lent k::xs=>.lent k::bxAs xs
 | .im _::xs=>bxAs xs
 | .ow _::xs=>bxAs xs
def argV(i:Nat)(x:Arg)(a:AV):AV:=match x with
 | .box _ _=>.own i 0 0
 | .lent _=>.osl i 0
 |_=>a
def tmpW:Nat->List Arg->List AV->List (Loc×Ct)
 |i,x::xs,a::al=>(.tmp i,.av (argV i x a))::tmpW (i+1) xs al
 |_,_,_=>[]
def entW(xs:List Arg):List (Loc×Ct):=match zcc tau0 (λi=>i) 0 (xs.map zof),bxPl tau0 (bxIx 0 xs) (bxAs xs) with
 |(al,ss),some (bl,ss')=>zc7 tau0 (ss++ss')++(bxWr bl++tmpW 0 xs al)
 |_,none=>[]
def entOk(xs:List Arg):Bool:=match zcc tau0 (λi=>i) 0 (xs.map zof),bxPl tau0 (bxIx 0 xs) (bxAs xs) with
 |(_,ss),some (bl,ss')=>ndB ((ss++ss').map (·.1)) (bl.map (·.1))
 |_,none=>false
def st0(xs:List Arg):St:=app sig0 (entW xs)
def zjc{w:World}{S:Nat->Prop}:∀{vs:List Value} {xs:List Arg} {F:List Nat},zdz w S vs xs F->∃Ft Fb,zjf w S vs (xs.map zof) Ft/\zdz w S (bxVs vs xs) (bxAs xs) Fb/\F.Perm (Ft++Fb)
 |[],[],F,h=>⟨[],[],rfl,rfl,by have h:F=[]:=h;rw[h];exact .refl _⟩
 |v::vs,.im x::xs,F,⟨F1,F2,h1,h2,h3⟩=>by
  obtain⟨Ft,Fb,a1,a2,a3⟩:=zjc h2;obtain⟨h1,rfl⟩:=h1;exact⟨[]++Ft,Fb,⟨[],Ft,⟨h1,rfl⟩,a1,rfl⟩,a2,by rw[h3];exact a3⟩
 |v::vs,.ow k::xs,F,⟨F1,F2,h1,h2,h3⟩=>by
  obtain⟨Ft,Fb,a1,a2,a3⟩:=zjc h2;exact⟨F1++Ft,Fb,⟨F1,Ft,h1,a1,rfl⟩,a2,by rw[h3,yb3];exact a3.append_left F1⟩
 |v::vs,.box t cs::xs,F,⟨F1,F2,h1,h2,h3⟩=>by
  obtain⟨Ft,Fb,a1,a2,a3⟩:=zjc h2;refine⟨[]++Ft,F1++Fb,⟨[],Ft,⟨.any _,rfl⟩,a1,rfl⟩,⟨F1,Fb,h1,a2,rfl⟩,?_⟩;rw[h3,ycj];refine(a3.append_left F1).trans ?_;rw[<- yb3,<- yb3];exact List.perm_append_comm.append_right Fb
 |v::vs,.lent k::xs,F,⟨F1,F2,h1,h2,h3⟩=>by
  obtain⟨Ft,Fb,a1,a2,a3⟩:=zjc h2;refine⟨[]++Ft,F1++Fb,⟨[],Ft,⟨.any _,rfl⟩,a1,rfl⟩,⟨F1,Fb,h1,a2,rfl⟩,?_⟩;rw[h3,ycj];refine(a3.append_left F1).trans ?_;rw[<- yb3,<- yb3];exact List.perm_append_comm.append_right Fb
 |[],_::_,_,h=>h.elim
 |_::_,[],_,h=>h.elim
def zdz.len{w:World}{S:Nat->Prop}:∀{vs:List Value} {xs:List Arg} {F:List Nat},zdz w S vs xs F->vs.length=xs.length
 |[],[],_,_=>rfl
 |_::_,_::_,_,⟨_,_,_,h,_⟩=>by simp[h.len]
 |[],_::_,_,h=>h.elim
 |_::_,[],_,h=>h.elim
def tmpW_get:∀{xs:List Arg} {al:List AV} {i:Nat} {σ:St} {t:Nat},xs.length=al.length->(app σ (tmpW i xs al)).av t=match xs[t-i]?,al[t-i]? with|some x,some a=>if i<=t then argV t x a else σ.av t|_,_=>σ.av t
 |[],[],i,σ,t,_=>by simp[tmpW,app]
 |[],_::_,_,_,_,h=>by simp at h
 |_::_,[],_,_,_,h=>by simp at h
 |x::xs,a::al,i,σ,t,h=>by
  rw[tmpW,zb6,tmpW_get (by simpa using h)];by_cases h1:i+1<=t
  ·obtain⟨m,hm⟩:∃m,t-i=m+1:=⟨t-i-1,by omega⟩;rw[hm,show t-(i+1)=m from by omega];have h2:i<=t:=by omega
   have h3:t≠i:=by omega
   simp only[yei,h1,h2,if_true,zqv,h3,if_false]
  ·by_cases h2:t=i
   ·subst h2;rw[ycn];simp only[yc8,yaq,if_true,h1,if_false,zqv];split<;>rfl
   ·have h3:¬i<=t:=by omega
    simp only[if_neg h1,if_neg h3,zqv,if_neg h2];split<;>split<;>rfl
def tmpW_same:∀{xs:List Arg} {al:List AV} {i:Nat} {σ:St},zgp σ (app σ (tmpW i xs al))
 |[],_,_,_=>⟨rfl,rfl,rfl,rfl⟩
 |_::_,[],_,_=>⟨rfl,rfl,rfl,rfl⟩
 |x::xs,a::al,i,σ=>by
  have h1:=zgp.tmp σ i (.av (argV i x a));have h2:zgp (upd σ (.tmp i) (.av (argV i x a))) (app (upd σ (.tmp i) (.av (argV i x a))) (tmpW (i+1) xs al)):=tmpW_same;exact⟨h2.gn.trans h1.gn,h2.ig.trans h1.ig,h2.kd.trans h1.kd,h2.ce.trans h1.ce⟩
def zle:∀{xs:List Arg} {vs:List Value} {i j:Nat} {b:Nat} {p:Value},vs.length=xs.length->((bxIx i xs).map (·.1))[j]?=some b->(bxVs vs xs)[j]?=some p->i<=b/\vs[b-i]?=some p
 |[],[],i,j,b,p,_,h,_=>by simp[bxIx]at h
 |[],_::_,_,_,_,_,h,_,_=>by simp at h
 |_::_,[],_,_,_,_,h,_,_=>by simp at h
 | .im x::xs,v::vs,i,j,b,p,hl,h,k=>by
  obtain⟨h1,h2⟩:=zle (i:=i+1) (by simpa using hl) h k;obtain⟨m,hm⟩:∃m,b-i=m+1:=⟨b-i-1,by omega⟩;exact⟨by omega,by rw[hm,show m=b-(i+1) from by omega];simpa using h2⟩
 | .ow x::xs,v::vs,i,j,b,p,hl,h,k=>by
  obtain⟨h1,h2⟩:=zle (i:=i+1) (by simpa using hl) h k;obtain⟨m,hm⟩:∃m,b-i=m+1:=⟨b-i-1,by omega⟩;exact⟨by omega,by rw[hm,show m=b-(i+1) from by omega];simpa using h2⟩
 | .lent q::xs,v::vs,i,0,b,p,hl,h,k=>by
  simp[bxIx]at h;simp[bxVs]at k;subst h k;exact⟨yaq _,by simp⟩
 | .lent q::xs,v::vs,i,j+1,b,p,hl,h,k=>by
  obtain⟨h1,h2⟩:=zle (i:=i+1) (j:=j) (by simpa using hl) (by simpa[bxIx]using h) (by simpa[bxVs]using k);obtain⟨m,hm⟩:∃m,b-i=m+1:=⟨b-i-1,by omega⟩;exact⟨by omega,by rw[hm,show m=b-(i+1) from by omega];simpa using h2⟩
 | .box t cs::xs,v::vs,i,0,b,p,hl,h,k=>by
  simp[bxIx]at h;simp[bxVs]at k;subst h k;exact⟨yaq _,by simp⟩
 | .box t cs::xs,v::vs,i,j+1,b,p,hl,h,k=>by
  obtain⟨h1,h2⟩:=zle (i:=i+1) (j:=j) (by simpa using hl) (by simpa[bxIx]using h) (by simpa[bxVs]using k);obtain⟨m,hm⟩:∃m,b-i=m+1:=⟨b-i-1,by omega⟩;exact⟨by omega,by rw[hm,show m=b-(i+1) from by omega];simpa using h2⟩
def zou:∀{xs:List Arg} {i b:Nat},b∈(bxIx i xs).map (·.1)->i<=b
 |[],i,b,h=>by simp[bxIx]at h
 | .im x::xs,i,b,h=>by have:=zou (xs:=xs) (i:=i+1) h;omega
 | .ow x::xs,i,b,h=>by have:=zou (xs:=xs) (i:=i+1) h;omega
 | .lent k::xs,i,b,h=>by
  rw[bxIx,yav]at h;rcases yaw.1 h with h|h
  ·exact yd1 h.symm
  ·have:=zou (xs:=xs) (i:=i+1) h;omega
 | .box t cs::xs,i,b,h=>by
  rw[bxIx,yav]at h;rcases yaw.1 h with h|h
  ·exact yd1 h.symm
  ·have:=zou (xs:=xs) (i:=i+1) h;omega
def zi8:∀{xs:List Arg} {i:Nat},((bxIx i xs).map (·.1)).Nodup
 |[],i=>yc4
 | .im x::xs,i=>zi8 (xs:=xs) (i:=i+1)
 | .ow x::xs,i=>zi8 (xs:=xs) (i:=i+1)
 | .lent k::xs,i=>by
  rw[bxIx,yav,yb0];exact⟨λh=>by have:=zou h;omega,zi8⟩
 | .box t cs::xs,i=>by
  rw[bxIx,yav,yb0];exact⟨λh=>by have:=zou h;omega,zi8⟩
def isLent:Arg->Bool
 | .box _ _=>true
 | .lent _=>true
 |_=>false
def zlu:∀{xs:List Arg} {i o:Nat} {x:Arg},xs[o]?=some x->isLent x=true->i+o∈(bxIx i xs).map (·.1)
 |[],i,o,x,h,_=>by simp at h
 | .box t' cs'::xs,i,0,x,h,_=>by simp[bxIx]
 | .lent k::xs,i,0,x,h,_=>by simp[bxIx]
 | .im y::xs,i,0,x,h,hl=>by simp at h;subst h;cases hl
 | .ow y::xs,i,0,x,h,hl=>by simp at h;subst h;cases hl
 | .im y::xs,i,o+1,x,h,hl=>by have:=zlu (xs:=xs) (i:=i+1) (o:=o) (x:=x) (by simpa using h) hl;rw[bxIx,show i+(o+1)=i+1+o from by omega];exact this
 | .ow y::xs,i,o+1,x,h,hl=>by have:=zlu (xs:=xs) (i:=i+1) (o:=o) (x:=x) (by simpa using h) hl;rw[bxIx,show i+(o+1)=i+1+o from by omega];exact this
 | .box t' cs'::xs,i,o+1,x,h,hl=>by
  have:=zlu (xs:=xs) (i:=i+1) (o:=o) (x:=x) (by simpa using h) hl;rw[bxIx,yav,show i+(o+1)=i+1+o from by omega];exact yau _ this
 | .lent k::xs,i,o+1,x,h,hl=>by
  have:=zlu (xs:=xs) (i:=i+1) (o:=o) (x:=x) (by simpa using h) hl;rw[bxIx,yav,show i+(o+1)=i+1+o from by omega];exact yau _ this
def lkWr_gn(σ:St)(b:Nat)(x:LK):(app σ (lkWr b x)).gn=σ.gn:=by
 cases x with
 |box t al =>
  show(app (upd σ (.knd b) (.kd (.box t al.length))) (zfg b 0 al)).gn=_;rw[zp5];exact funext λo=>zfe σ b o _
 |obj k=>exact funext λo=>zfe σ b o _
def lkWr_av(σ:St)(b:Nat)(x:LK)(t:Nat):(app σ (lkWr b x)).av t=σ.av t:=by
 cases x with
 |box ty al =>
  show(app (upd σ (.knd b) (.kd (.box ty al.length))) (zfg b 0 al)).av t=_;rw[zpv,zg8]
 |obj k=>exact zg8 σ b t _
def bxWr_gn:∀{bl:List (Nat×LK)} {σ:St},(app σ (bxWr bl)).gn=σ.gn
 |[],_=>rfl
 |(b,x)::bl,σ=>by
  show(app σ (lkWr b x++bxWr bl)).gn=_;rw[zaz,bxWr_gn,lkWr_gn]
def zdz.ptr{w:World}{S:Nat->Prop}:∀{vs:List Value} {xs:List Arg} {F:List Nat},zdz w S vs xs F->∀{i:Nat} {v:Value} {t:TypeId} {cs:List Oc},vs[i]?=some v->xs[i]?=some (.box t cs)->∃q,v=.pointer (some ⟨q,0,none⟩)
 |[],[],_,_,i,_,_,_,h,_=>by simp at h
 |v::vs,x::xs,_,⟨_,_,h1,h2,_⟩,0,u,t,cs,h,k=>by
  simp at h k;subst h k;obtain⟨q,_,_,e,_⟩:=h1;exact⟨q,e⟩
 |v::vs,x::xs,_,⟨_,_,h1,h2,_⟩,i+1,u,t,cs,h,k=>h2.ptr (by simpa using h) (by simpa using k)
 |[],_::_,_,h,_,_,_,_,_,_=>h.elim
 |_::_,[],_,h,_,_,_,_,_,_=>h.elim
def zdz.one{w:World}{S:Nat->Prop}:∀{vs:List Value} {xs:List Arg} {F:List Nat},zdz w S vs xs F->∀{i:Nat} {v:Value} {k:Kd},vs[i]?=some v->xs[i]?=some (.lent k)->v.oneCell'=true
 |[],[],_,_,i,_,_,h,_=>by simp at h
 |v::vs,x::xs,_,⟨_,_,h1,h2,_⟩,0,u,k',h,k=>by
  simp at h k;subst h k;exact h1.1
 |v::vs,x::xs,_,⟨_,_,h1,h2,_⟩,i+1,u,k',h,k=>h2.one (by simpa using h) (by simpa using k)
 |[],_::_,_,h,_,_,_,_,_=>h.elim
 |_::_,[],_,h,_,_,_,_,_=>h.elim
def st0_sat(w:World)(S:Nat->Prop){vs:List Value}{xs:List Arg}{F:List Nat}(h:zdz w S vs xs F)(hnd:F.Nodup)(hF:∀b∈F,¬S b/\b<w.heap.size)(hS:∀b,S b->b<w.heap.size)(n:Nat)(hn:vs.length<=n)(hok:entOk xs=true) :
  Sat ⟨w,S,n,λb=>b∈F,λ_=>False,zj8 xs vs,[]⟩ (st0 xs) { tmps:=vs.toArray++Array.replicate (n-vs.toArray.size) undef,defers:=[] } w:=by
 have a9:=h.len;obtain⟨Ft,Fb,a1,a2,a3⟩:=zjc h;have a0:=a3.nodup_iff.1 hnd;rw[ybm]at a0;have b0:∀b,b∈Ft\/b∈Fb->b∈F:=λb hb=>a3.mem_iff.2 (yam.2 hb);unfold entOk at hok;unfold st0 entW;cases hbl:bxPl tau0 (bxIx 0 xs) (bxAs xs) with
 |none=>rw[hbl]at hok;cases hok
 |some q =>
  obtain⟨bl,ss'⟩:=q;rw[hbl]at hok;simp only at hok ⊢;obtain⟨a5,a8⟩:=zfm hok;have d4:=a5;rw[ya0,ybm]at a5
  have h0:SatR ⟨w,S,n,λb=>b∈F,λb=>b∈F,zj8 xs vs,[]⟩ sig0 { tmps:=vs.toArray++Array.replicate (n-vs.toArray.size) undef,defers:=[] } w ⟨λo=>vs.getD o undef,λ_=>[],λ_=>0⟩:=by
   refine⟨Belo.refl _ _ w,λo=>trivial,λo b ho=>absurd rfl ho.lv,λo p b ho=>absurd rfl ho.lv,λt=>.im _ _ (.any _),λo=>rfl,λb hb=>⟨⟨.inr hb,(hF b hb).2⟩,λo ho=>absurd rfl ho.lv⟩,λo v hl _=>?_,by simp;omega,rfl⟩;have hl:zj8 xs vs o=some v:=hl;unfold zj8 at hl;split at hl
   ·show vs.getD o undef=v;simp[List.getD,hl]
   ·show vs.getD o undef=v;simp[List.getD,hl]
   ·cases hl
  have b9:∀b,S b->Imm ⟨w,S,n,λb=>b∈F,λb=>b∈F,zj8 xs vs,[]⟩ sig0 ⟨λo=>vs.getD o undef,λ_=>[],λ_=>0⟩ w b:=λb hb=>⟨.inl hb,hS b hb,λo ho=>absurd rfl ho.lv,λhf=>(hF b hf).1 hb⟩;obtain⟨ρ2,Z2,b1,b2,b3,b4,b5,b6⟩:=zkq tau0 (λi=>i) (l:=xs.map zof) (i:=0) h0 a1 b9 a0.1 (λb hb=>b0 b (.inl hb)) a5.1 λ_ _=>⟨rfl,rfl⟩
  obtain⟨ρ3,Z3,qs,c1,c2,c3,c4,c5,c6,c7,c8,c9⟩:=zm9 tau0 hbl b1 a2 (λb hb=>b5 b (b9 b hb)) a0.2.1 (λb hb=>b2 b (b0 b (.inr hb)) λhf=>a0.2.2 b hf b hb rfl) a5.2.1 λp hp=>by
   obtain⟨_,d2,d3,_⟩:=b6 p.1 λhm=>a5.2.2 p.1 hm p.1 (yao.2 ⟨p,hp,rfl⟩) rfl;exact⟨d2,d3⟩
  have c0:app (app sig0 (zc7 tau0 (zcc tau0 (λi=>i) 0 (xs.map zof)).2)) (zc7 tau0 ss')=app sig0 (zc7 tau0 ((zcc tau0 (λi=>i) 0 (xs.map zof)).2++ss')):=by rw[zif,zaz]
  rw[c0]at c1 c5 c7 c8 c9
  have a6:∀b,b∈bl.map (·.1)->ρ3 b=vs.getD b undef:=λb hb=>by
   have a4:b∉(zcc tau0 (λi=>i) 0 (xs.map zof)).2.map (·.1):=λhm=>a8 b (by rw[ya0];exact yan _ hm) hb;have a7:b∉ss'.map (·.1):=λhm=>a8 b (by rw[ya0];exact yai _ hm) hb;rw[(c9 b a7).1,(b6 b a4).1]
  obtain⟨Z4,e1,e2,e3⟩:=zme c1 c5 c4 (λq hq=>(c3 q hq).1) (by rw[c6];exact zi8) λj b p hb hp=>by
   have d1:=zkH hb;rw[c6]at hb;obtain⟨_,hp⟩:=zle a9 hb hp;rw[a6 b d1];rw[yea]at hp;simp[List.getD,hp]
  obtain⟨g1,_,g3,_⟩:=e1.stepZ (σ':=app (app sig0 (zc7 tau0 ((zcc tau0 (λi=>i) 0 (xs.map zof)).2++ss'))) (bxWr bl)) (ρ':=ρ3) (w':=w) (λ_=>False) (λ_=>False) (λ_=>rfl) (λ_ _=>⟨rfl,rfl,λ_=>rfl,rfl,rfl,rfl⟩) (λ_ hd=>hd.elim) e1.igs (Belo.refl _ _ _) (λ_ _ hd=>hd.elim) (λ_ _ _ hd=>hd.elim)
   (λ_ hb=>hb.elim) λ_ _ _ hd=>hd.elim
  refine⟨ρ3,?_⟩;rw[zaz,zaz]
  have lent:∀t (ht:t<vs.length),t∈bl.map (·.1)->(app (app sig0 (zc7 tau0 ((zcc tau0 (λi=>i) 0 (xs.map zof)).2++ss'))) (bxWr bl)).gn t=0/\ρ3 t=vs[t]:=λt ht hb=>by
   have a4:t∉(zcc tau0 (λi=>i) 0 (xs.map zof)).2.map (·.1):=λhm=>a8 t (by rw[ya0];exact yan _ hm) hb;have a7:t∉ss'.map (·.1):=λhm=>a8 t (by rw[ya0];exact yai _ hm) hb;refine⟨?_,by rw[a6 t hb];simp[List.getD,ht]⟩;rw[bxWr_gn,(c9 t a7).2.1,(b6 t a4).2.1];rfl
  refine g1.slots tmpW_same (λt=>?_) (by simp;omega) rfl;have d0:xs.length=(zcc tau0 (λi=>i) 0 (xs.map zof)).1.length:=by rw[<- b3.1,a9]
  rw[tmpW_get d0,yea];by_cases ht:t<vs.length
  ·have hx:t<xs.length:=by omega
   have hv:(vs.toArray++Array.replicate (n-vs.toArray.size) undef).getD t undef=vs[t]:=by
    simp only[ycy];rw[ye5 (by simpa using ht)];simp[ht]
   obtain⟨al,b7⟩:∃al,(zcc tau0 (λi=>i) 0 (xs.map zof)).1[t]?=some al:=⟨_,zkM (by omega)⟩;have hr:=g3 _ _ (e3 _ _ (c7 _ _ (b3.2 t vs[t] al (zkM ht) b7)));rw[hv,zkM hx,b7];simp only[yaf,if_true];cases hxt:xs[t]with
   |im x=>exact hr
   |ow k=>exact hr
   |box ty cs =>
    have hb:t∈bl.map (·.1):=by
     rw[c6];have:=zlu (xs:=xs) (i:=0) (o:=t) (x:=.box ty cs) (by rw[zkM hx,hxt]) rfl
     rwa [yal]at this
    obtain⟨hg,b8⟩:=lent t ht hb;obtain⟨q,hq⟩:∃q,vs[t]=.pointer (some ⟨q,0,none⟩):=zdz.ptr h (zkM ht) (by rw[zkM hx,hxt]);exact .own _ _ _ _ (by rw[hq];rfl) (by rw[hg];exact yaq _) λ_=>⟨q,b8.trans hq,hq⟩
   |lent k =>
    have hb:t∈bl.map (·.1):=by
     rw[c6];have:=zlu (xs:=xs) (i:=0) (o:=t) (x:=.lent k) (by rw[zkM hx,hxt]) rfl
     rwa [yal]at this
    obtain⟨hg,b8⟩:=lent t ht hb;exact .osl _ _ _ (zdz.one h (zkM ht) (by rw[zkM hx,hxt])) (by rw[hg];exact yaq _) λ_=>b8.symm
  ·rw[yat (by omega)]
   have e0:(app (app sig0 (zc7 tau0 ((zcc tau0 (λi=>i) 0 (xs.map zof)).2++ss'))) (bxWr bl)).av t=.im .any:=by
    have k1:∀(bl:List (Nat×LK)) (σ:St),(app σ (bxWr bl)).av t=σ.av t:=by
     intro bl
     induction bl with
     |nil=>intro σ;rfl
     |cons x bl ih =>
      intro σ;obtain⟨b,x⟩:=x;show(app σ (lkWr b x++bxWr bl)).av t=_;rw[zaz,ih,lkWr_av]
    have k2:∀(l:List (Nat×Kd)) (σ:St),(app σ (zc7 tau0 l)).av t=σ.av t:=by
     intro l
     induction l with
     |nil=>intro σ;rfl
     |cons p l ih =>
      intro σ;rw[zc7,zaz,ih];exact(mkK_eqs σ tau0 p.1 p.2).2.2.2.1 t
    rw[k1,k2];rfl
   simp only;rw[e0];exact .im _ _ (.any _)
def ze1{f:FuncId}{fn:Func}{c:Code}(hf:P.funcs[f]?=some fn)(hname:(fn.name=="runtime.NumGoroutine")=false)(hb:fn.body=some c)(args:Array Value)(w:World):(callFunc f args).run P w=.ok (.enter f args) w:=by
 have h1:fn.name≠"runtime.NumGoroutine":=by simpa using hname
 simp[callFunc,hf,h1,hb]
def sp_of_code(hm:P.follows .mixedOrders=true){C:FuncId->List Arg->Rs->Prop}(hC:∀g xs r,C g xs r->SpX P g xs r){own:List Nat}{f:FuncId}{fn:Func}{c:Code}(hf:P.funcs[f]?=some fn)(hname:(fn.name=="runtime.NumGoroutine")=false)(hb:fn.body=some c)
  {xs:List Arg} {r:Rs} (hn:xs.length<=fn.ntmps) (hok:entOk xs=true) (h:∀w S vs F,zdz w S vs xs F->zje P C fn.ntmps own c (retK P fn.results.toList xs r) (st0 xs)):Sp P f xs r:=by
 refine⟨λargs w=>ze1 hf hname hb args w,λw S vs F hS a2 a6 hF=>?_⟩;have a3:=a2.len;refine calls_of_wp hf hb (zfn (B:=⟨w,S,fn.ntmps,λb=>b∈F,λ_=>False,zj8 xs vs,[]⟩) hm hC c _ _ (h w S vs F a2) _ _ (st0_sat w S a2 a6 hF hS fn.ntmps (by rw[a3];exact hn) hok) _ λe σ' a' w' hk a0=>?_)
 have a4:RetOk P fn.results.toList xs σ' r->a'.defers=[]/\∃v,(results fn a'.tmps).run P w'=.ok v w'/\∃(v':Value) (F':List Nat),Ending.returned v=.returned v'/\Belo (λb=>b∈F) w.heap.size w w' /\
   zl9 w' (λb=>(S b\/w.heap.size<=b\/b∈F)/\b<w'.heap.size/\b∉F') v' (bxVs vs xs) r F'/\F'.Nodup/\∀b∈F',(w.heap.size<=b\/b∈F)/\b<w'.heap.size:=λhk=>by
  obtain⟨v,F',hv,a5,h1,h2⟩:=zti (vs0:=vs) hk a0 a3 λj v hv=>hv;obtain⟨ρ,a0⟩:=a0;exact⟨a0.dfr,v,hv,v,F',rfl,a0.bel,a5,h1,h2⟩
 cases e with
 |ret=>exact a4 hk
 |normal=>exact a4 hk
 |exit id=>exact hk.elim
 |goto l=>exact hk.elim
 |panic ch=>exact hk.elim
 |outgrown=>exact hk.elim
def RetOkB(P:Program)(rs:List ResultVar)(xs:List Arg)(σ:St)(r:Rs):Prop :=
 match resAs P σ rs,r with
 |some ([.agg vs],c),.mk true l ys=>zkj σ c (match outCs σ l vs,zi0 σ 0 xs ys with
  |some (l',bs,gs),some (ys',bs',gs')=>Chk (ndB ((gs++gs').map (·.1)) ((bs++bs').map (·.1))) (zkj σ ((bs++bs')++(gs++gs')) (l'=l/\ys'=ys))
  |_,_=>False)
 |_,_=>False
def RetOkA(P:Program)(t:TypeId)(rs:List ResultVar)(xs:List Arg)(σ:St)(r:Rs):Prop:=match t with
 |0=>RetOk P rs xs σ r
 |_=>RetOkB P rs xs σ r
def retKA(P:Program)(t:TypeId)(rs:List ResultVar)(xs:List Arg)(r:Rs):Exit->St->Prop
 | .ret,σ=>RetOkA P t rs xs σ r
 | .normal,σ=>RetOkA P t rs xs σ r
 |_,_=>False
def zrk{fn:Func}{xs:List Arg}{vs0:List Value}{r:Rs}{σ:St}{t:TypeId}(h:RetOkA P t fn.results.toList xs σ r){a:Act}{w:World}(hs:Sat B σ a w)(hl:vs0.length=xs.length)(hL:∀j v,zj8 xs vs0 j=some v->B.L j=some v) :
  ∃v u F',(results fn a.tmps).run P w=.ok v w/\RetA t v u/\zl9 w (λb=>(B.S0 b\/Mine B b)/\b<w.heap.size/\b∉F') u (bxVs vs0 xs) r F'/\F'.Nodup/\∀b∈F',Mine B b/\b<w.heap.size:=by
 match t,h with
 |0,h =>
  obtain⟨v,F',h1,h2⟩:=zti h hs hl hL;exact⟨v,v,F',h1,rfl,h2⟩
 |t+1,h =>
 obtain⟨ρ,hs⟩:=hs;have h:RetOkB P fn.results.toList xs σ r:=h;unfold RetOkB at h;split at h
 ·rename_i vs c l ys b2 _ _;obtain⟨hg,h⟩:=h.out;obtain⟨us,b4,hr⟩:=resAs_ok hs b2 hg
  obtain⟨a0,rfl,hr,ho⟩:∃a0:List Value,us=[.agg a0.toArray]/\Reps w (Imm B σ ρ w) ρ σ.gn a0 vs/\∀u∈a0,u.oneCell'=true:=by
   match us,hr with
   |[],hr=>have:=hr.1;simp at this
   |[u],hr =>
    have h1:=hr.2 0 u (.agg vs) rfl rfl;cases h1 with
    |agg a0 _ hl1 a2 hr1=>exact⟨a0,rfl,⟨hl1,hr1⟩,a2⟩
   |_::_::_,hr=>have:=hr.1;simp at this
  have a9:(results fn a.tmps).run P w=.ok (.agg a0.toArray) w:=by
   rw[ztl,Sem.run_bind,ye8,map_eq_pure_bind,Sem.run_bind,b4];simp only[Result.andThen_ok,Sem.run_pure];rfl
  split at h
  ·rename_i l' bs gs b5 bs' a3 h1 h2;obtain⟨b3,h⟩:=h.ok;obtain⟨a6,a4⟩:=zfm b3;obtain⟨a8,rfl,rfl⟩:=h.out;have a5:∀p∈bs++bs',σ.gn p.1=p.2:=λp hp=>a8 p (yan _ hp);have a7:∀p∈gs++a3,σ.gn p.1=p.2:=λp hp=>a8 p (yai _ hp);have r1:=zpx hs (bs0:=bs++bs') a5 hr h1 (λp hp=>yan _ hp) λp hp=>a7 p (yan _ hp);have r2:=zlq hs (bs0:=bs++bs') a5 hl (i:=0) (λj v hv=>by rw[yal];exact hL j v hv) h2 (λp hp=>yai _ hp) λp hp=>a7 p (yai _ hp)
   have b0:∀u x,RepI w (Imm B (app σ (fwr (bs++bs'))) ρ w) u x->RepI w (λb=>(B.S0 b\/Mine B b)/\b<w.heap.size/\b∉zdh σ ρ gs++zdh σ ρ a3) u x:=λu x hr=>hr.mono (λb hb=>⟨hb.1,hb.2.1,λhf=>by
    rw[<- zd9]at hf
    obtain⟨p,hp,ho⟩:=zds.1 hf
    refine hb.2.2.1 p.1 ?_
    unfold Owns at ho ⊢
    rw[zjk,if_neg (a4 p.1 (yao.2 ⟨p,hp,rfl⟩))]
    exact ho⟩) λ_ _ _ h=>h
   have hn:=zen hs a6;rw[zd9]at hn
   have hm:∀b∈zdh σ ρ gs++zdh σ ρ a3,Mine B b/\b<w.heap.size:=λb hb=>by
    rw[<- zd9]at hb;obtain⟨p,hp,ho⟩:=zds.1 hb;exact hs.own p.1 b ho
   exact⟨_,_,_,a9,⟨a0,rfl,rfl,ho⟩,⟨a0,_,_,rfl,r1.mono b0,r2.mono b0,rfl⟩,hn,hm⟩
  ·exact h.elim
 ·exact h.elim
def entA(n k:Nat)(σ:St):List (Loc×Ct) :=
 (.tmp 0,.av (.agg ((List.range n).map λj=>σ.av j)))::((List.range k).map (λj=>(Loc.tmp (1+j),Ct.av (σ.av (n+j))))++(List.range n).map λj=>(Loc.tmp (k+1+j),Ct.av (.im .any)))
def tmps_av(f:Nat->AV)(a:Nat)(t:Nat):∀(m:Nat) (σ:St),(app σ ((List.range m).map λj=>(Loc.tmp (a+j),Ct.av (f j)))).av t=if a<=t/\t<a+m then f (t-a) else σ.av t
 |0,σ=>by
  rw[if_neg (by omega)];rfl
 |m+1,σ=>by
  rw[ycs,ya0,zaz];show(upd (app σ ((List.range m).map λj=>(Loc.tmp (a+j),Ct.av (f j)))) (.tmp (a+m)) (.av (f m))).av t=_;rw[zqv];by_cases h:t=a+m
  ·subst h;rw[if_pos rfl,if_pos (by omega),yej]
  ·rw[if_neg h,tmps_av f a t m σ];by_cases h2:a<=t/\t<a+m
   ·rw[if_pos h2,if_pos (by omega)]
   ·rw[if_neg h2,if_neg (by omega)]
def zr9(f:Nat->Loc×Ct)(hf:∀j,∃t v,f j=(.tmp t,.av v)):∀(l:List Nat) (σ:St),zgp σ (app σ (l.map f))
 |[],_=>⟨rfl,rfl,rfl,rfl⟩
 |j::l,σ=>by
  obtain⟨t,v,e⟩:=hf j;rw[yav,e,zb6];have h1:=zgp.tmp σ t (.av v);have h2:=zr9 f hf l (upd σ (.tmp t) (.av v));exact⟨h2.gn.trans h1.gn,h2.ig.trans h1.ig,h2.kd.trans h1.kd,h2.ce.trans h1.ce⟩
def entA_av(n k t:Nat)(σ τ:St):(app σ (entA n k τ)).av t=if k+1<=t/\t<k+1+n then .im .any else if 1<=t/\t<1+k then τ.av (n+(t-1)) else if t=0 then .agg ((List.range n).map λj=>τ.av j) else σ.av t:=by
 unfold entA;rw[zb6,zaz,tmps_av (λ_=>.im .any),tmps_av (λj=>τ.av (n+j)),zqv]
def entA_same(n k:Nat)(σ τ:St):zgp σ (app σ (entA n k τ)):=by
 unfold entA;rw[zb6,zaz];have h1:=zgp.tmp σ 0 (.av (.agg ((List.range n).map λj=>τ.av j)));have h2:=zr9 (λj=>(Loc.tmp (1+j),Ct.av (τ.av (n+j)))) (λj=>⟨_,_,rfl⟩) (List.range k) (upd σ (.tmp 0) (.av (.agg ((List.range n).map λj=>τ.av j))));have h3:=zr9 (λj=>(Loc.tmp (k+1+j),Ct.av (.im .any))) (λj=>⟨_,_,rfl⟩) (List.range n) (app (upd σ (.tmp 0) (.av (.agg ((List.range n).map λj=>τ.av j)))) ((List.range k).map λj=>(Loc.tmp (1+j),Ct.av (τ.av (n+j)))));exact⟨h3.gn.trans (h2.gn.trans h1.gn),h3.ig.trans (h2.ig.trans h1.ig),h3.kd.trans (h2.kd.trans h1.kd),h3.ce.trans (h2.ce.trans h1.ce)⟩
def pad_getD(vs:List Value)(N t:Nat):(vs.toArray++Array.replicate N undef).getD t undef=vs.getD t undef:=by
 simp only[ycy,ybj];by_cases h:t<vs.length
 ·rw[ye5 (by simpa using h)];simp
 ·rw[Array.getElem?_append_right (by simp;omega),yat (by omega),Array.getElem?_replicate];split<;>rfl
def st0A_sat(w:World)(S:Nat->Prop){us vs:List Value}{xs:List Arg}{F:List Nat}(h:zdz w S (us++vs) xs F)(h1:∀u∈us,u.oneCell'=true)(hnd:F.Nodup)(hF:∀b∈F,¬S b/\b<w.heap.size)(hS:∀b,S b->b<w.heap.size)(N:Nat)(hn:xs.length<=N)(hn2:vs.length+1<=N)(hok:entOk xs=true) :
  Sat ⟨w,S,N,λb=>b∈F,λ_=>False,zj8 xs (us++vs),[]⟩ (app (st0 xs) (entA us.length vs.length (st0 xs))) { tmps:=(.agg us.toArray::vs).toArray++Array.replicate (N-(.agg us.toArray::vs).toArray.size) undef,defers:=[] } w:=by
 have a0:=h.len;obtain⟨ρ,hs⟩:=st0_sat w S h hnd hF hS N (by omega) hok;refine⟨ρ,hs.slots (entA_same _ _ _ _) (λt=>?_) (by simp;omega) rfl⟩;rw[entA_av]
 have hv:∀t,RepA w (Imm ⟨w,S,N,λb=>b∈F,λ_=>False,zj8 xs (us++vs),[]⟩ (st0 xs) ρ w) ρ (st0 xs).gn ((us++vs).getD t undef) ((st0 xs).av t):=λt=>by
  have:=hs.tms t;rw[pad_getD]at this;exact this
 simp only[pad_getD];by_cases c1:vs.length+1<=t/\t<vs.length+1+us.length
 ·rw[if_pos c1];exact .im _ _ (.any _)
 ·rw[if_neg c1];by_cases c2:1<=t/\t<1+vs.length
  ·rw[if_pos c2];have:=hv (us.length+(t-1));obtain⟨j,rfl⟩:∃j,t=j+1:=⟨t-1,by omega⟩;rw[yd9]at this ⊢
   have e:(us++vs).getD (us.length+j) undef=(Value.agg us.toArray::vs).getD (j+1) undef:=by
    simp only[ybj];rw[ybo (by omega),yej];rfl
   rw[<- e];exact this
  ·rw[if_neg c2];by_cases c3:t=0
   ·subst c3;rw[if_pos rfl];refine .agg us _ (by simp) h1 λi u x hu hx=>?_;have hi:=(zkI.1 hu).1;rw[yae,yba hi]at hx;simp only[yap,zkF]at hx;subst hx;have:=hv i
    have e:(us++vs).getD i undef=u:=by
     simp only[ybj];rw[ya5 hi,hu];rfl
    rw[e]at this;exact this
   ·rw[if_neg c3];have:=hv t
    have e:(us++vs).getD t undef=(Value.agg us.toArray::vs).getD t undef:=by
     simp only[ybj];rw[yat (by rw[zkJ];omega),yat (by rw[zkL];omega)]
    rw[<- e];exact this
def sp_ofT_code(hm:P.follows .mixedOrders=true){C:FuncId->List Arg->Rs->Prop}(hC:∀g xs r,C g xs r->SpX P g xs r){own:List Nat}{f:FuncId}{fn:Func}{c:Code}(hf:P.funcs[f]?=some fn)(hname:(fn.name=="runtime.NumGoroutine")=false)(hb:fn.body=some c)
  {xs:List Arg} {r:Rs} (hn:xs.length<=fn.ntmps) (hok:entOk xs=true) (h:∀w S vs F,zdz w S vs xs F->zje P C fn.ntmps own c (retKA P 1 fn.results.toList xs r) (st0 xs)):SpX P f (.lent .dead::.ow .dead::xs) r:=by
 refine⟨λargs w=>ze1 hf hname hb args w,λw S vs F hS a2 a7 hF=>?_⟩;have a3:=a2.len;refine calls_of_wp hf hb (zfn (B:=⟨w,S,fn.ntmps,λb=>b∈F,λ_=>False,zj8 xs vs,[]⟩) hm hC c _ _ (h w S vs F a2) _ _ (st0_sat w S a2 a7 hF hS fn.ntmps (by rw[a3];exact hn) hok) _ λe σ' a' w' hk a0=>?_)
 have a4:RetOkA P 1 fn.results.toList xs σ' r->a'.defers=[]/\∃v,(results fn a'.tmps).run P w'=.ok v w'/\∃(v' u:Value) (F':List Nat),Ending.returned v=.returned v'/\RetA 1 v' u/\Belo (λb=>b∈F) w.heap.size w w' /\
   zl9 w' (λb=>(S b\/w.heap.size<=b\/b∈F)/\b<w'.heap.size/\b∉F') u (bxVs vs xs) r F'/\F'.Nodup/\∀b∈F',(w.heap.size<=b\/b∈F)/\b<w'.heap.size:=λhk=>by
  obtain⟨v,u,F',hv,a6,a5,h1,h2⟩:=zrk (vs0:=vs) hk a0 a3 λj v hv=>hv;obtain⟨ρ,a0⟩:=a0;exact⟨a0.dfr,v,hv,v,u,F',rfl,a6,a0.bel,a5,h1,h2⟩
 cases e with
 |ret=>exact a4 hk
 |normal=>exact a4 hk
 |exit id=>exact hk.elim
 |goto l=>exact hk.elim
 |panic ch=>exact hk.elim
 |outgrown=>exact hk.elim
def sp_ofA_code(hm:P.follows .mixedOrders=true){C:FuncId->List Arg->Rs->Prop}(hC:∀g xs r,C g xs r->SpX P g xs r){own:List Nat}{f:FuncId}{fn:Func}{c:Code}(hf:P.funcs[f]?=some fn)(hname:(fn.name=="runtime.NumGoroutine")=false)(hb:fn.body=some c)
  {t:TypeId} {l:List Oc} {k:Nat} {xs:List Arg} {r:Rs} (hl:l.length+k=xs.length) (hn:xs.length<=fn.ntmps) (hn2:k+1<=fn.ntmps) (hok:entOk xs=true) (h:∀w S vs F,zdz w S vs xs F->zje P C fn.ntmps own c (retKA P t fn.results.toList xs r) (app (st0 xs) (entA l.length k (st0 xs)))):SpX P f (.lent .dead::.box t l::xs) r:=by
 refine⟨λargs w=>ze1 hf hname hb args w,λw S us vs F hS a0 hu h1 a8 hF=>?_⟩;have a6:=a0.len;rw[zkJ]at a6;have hk:k=vs.length:=by omega
 subst hk;have a7:=st0A_sat w S a0 h1 a8 hF hS fn.ntmps hn hn2 hok;have h:=h w S _ F a0;rw[<- hu]at h;refine calls_of_wp hf hb (zfn (B:=⟨w,S,fn.ntmps,λb=>b∈F,λ_=>False,zj8 xs (us++vs),[]⟩) hm hC c _ _ h _ _ a7 _ λe σ' a' w' hk a2=>?_)
 have a3:RetOkA P t fn.results.toList xs σ' r->a'.defers=[]/\∃v,(results fn a'.tmps).run P w'=.ok v w'/\∃(v' u:Value) (F':List Nat),Ending.returned v=.returned v'/\RetA t v' u/\Belo (λb=>b∈F) w.heap.size w w' /\
   zl9 w' (λb=>(S b\/w.heap.size<=b\/b∈F)/\b<w'.heap.size/\b∉F') u (bxVs (us++vs) xs) r F'/\F'.Nodup/\∀b∈F',(w.heap.size<=b\/b∈F)/\b<w'.heap.size:=λhk=>by
  obtain⟨v,u,F',hv,a5,a4,h1,h2⟩:=zrk (vs0:=us++vs) hk a2 a0.len λj v hv=>hv;obtain⟨ρ,a2⟩:=a2;exact⟨a2.dfr,v,hv,v,u,F',rfl,a5,a2.bel,a4,h1,h2⟩
 cases e with
 |ret=>exact a3 hk
 |normal=>exact a3 hk
 |exit id=>exact hk.elim
 |goto l=>exact hk.elim
 |panic ch=>exact hk.elim
 |outgrown=>exact hk.elim
end
end
section
open Go.RowKit
def lookA:List (Nat×AV)->Nat->AV
 |[],_=>.im .any
 |p::l,t=>match Nat.beq t p.1 with|true=>p.2|false=>lookA l t
def zny:List (Nat×Kd)->Nat->Kd
 |[],_=>.dead
 |p::l,t=>match Nat.beq t p.1 with|true=>p.2|false=>zny l t
def lookC:List (Nat×Nat×AV)->Nat->Nat->AV
 |[],_,_=>.im .any
 |p::l,o,i=>match Nat.beq o p.1&&Nat.beq i p.2.1 with|true=>p.2.2|false=>lookC l o i
def gnM:List (Nat×Kd)->Nat->Nat
 |[],_=>1
 |p::l,o=>match Nat.beq o p.1 with|true=>(match Nat.blt o 64 with|true=>0|false=>1)|false=>gnM l o
def mkSt(avs:List (Nat×AV))(kds:List (Nat×Kd))(cels:List (Nat×Nat×AV)):St:=λl=>match l with
 | .tmp t=>.av (lookA avs t)
 | .gen o=>.n (gnM kds o)
 | .ign _=>.n 0
 | .knd o=>.kd (zny kds o)
 | .cel o i=>.av (lookC cels o i)
inductive Sub:AV->AV->Prop
 |refl (a:AV):Sub a a
 |any (a:AV):Sub a (.im .any)
 |nz (x:IV):Sub (.im x) (.im (Sym.nz x))
def RepA.less{w:World}{S:Nat->Prop}{ρ:Ly}{γ:Nat->Nat}{v:Value}{x y:AV}(h:RepA w S ρ γ v x)(s:Sub x y):RepA w S ρ γ v y:=by
 cases s with
 |refl=>exact h
 |any=>exact .im _ _ (.any _)
 |nz x=>exact .im _ _ (nz_rep h.im_inv)
def Sub.rfl'{a b:AV}(h:a=b):Sub a b:=h ▸ .refl _
def zf1:List (Nat×Option Nat)->Nat->Option (Option Nat)
 |[],_=>none
 |p::l,b=>match Nat.beq b p.1 with|true=>some p.2|false=>zf1 l b
def srcs:List (Nat×Option Nat)->List Nat
 |[]=>[]
 |(_,some a)::l=>a::srcs l
 |(_,none)::l=>srcs l
mutual
inductive SubR(σ:St)(src:List (Nat×Option Nat))(γ:Nat->Nat):AV->AV->Prop
 |im {a:AV} {b:IV} (h:Sub a (.im b)):SubR σ src γ a (.im b)
 |osl {a b g g':Nat} (h:zf1 src b=some (some a)) (hg:σ.gn a=g) (hg':γ b=g'):SubR σ src γ (.osl a g) (.osl b g')
 |osv {a b g g' k m:Nat} (h:zf1 src b=some (some a)) (hg:σ.gn a=g) (hg':γ b=g'):SubR σ src γ (.osv a g k m) (.osv b g' k m)
 |made {b g':Nat} (h:zf1 src b=some none) (hg':γ b=g'):SubR σ src γ (.im (.val (.slice none 0 0))) (.osl b g')
 |own {a b g g' i:Nat} (h:zf1 src b=some (some a)) (hg:σ.gn a=g) (hg':γ b=g'):SubR σ src γ (.own a g i) (.own b g' i)
 |elt {a b g g' k i j:Nat} (h:zf1 src b=some (some a)) (hg:σ.gn a=g) (hg':γ b=g'):SubR σ src γ (.elt a g k i j) (.elt b g' k i j)
 |sub {a b g i:Nat} (h:zf1 src b=some (some a)) (hg:σ.ig a=g):SubR σ src γ (.sub a g i) (.sub b 0 i)
 |fn {f:FuncId} {cs ds:List AV} (h:zsj σ src γ cs ds):SubR σ src γ (.fn f cs) (.fn f ds)
 |agg {cs ds:List AV} (h:zsj σ src γ cs ds):SubR σ src γ (.agg cs) (.agg ds)
inductive zsj(σ:St)(src:List (Nat×Option Nat))(γ:Nat->Nat):List AV->List AV->Prop
 |nil:zsj σ src γ [] []
 |cons {c d:AV} {cs ds:List AV} (h:SubR σ src γ c d) (t:zsj σ src γ cs ds):zsj σ src γ (c::cs) (d::ds)
end
section
variable {w:World}{S S':Nat->Prop}{σ:St}{ρ ρ':Ly}{src:List (Nat×Option Nat)}{γ:Nat->Nat}
mutual
def SubR.rep(hI:∀v x,RepI w S v x->RepI w S' v x)(hρ:∀b a,zf1 src b=some (some a)->ρ' b=ρ a/\ρ'.inn b=ρ.inn a)(hn:∀b,zf1 src b=some none->ρ' b=.slice none 0 0)(hig:(∀o,ρ.ig o=σ.ig o)/\∀o,ρ'.ig o=0) :
  ∀{x y:AV},SubR σ src γ x y->∀{v:Value},RepA w S ρ σ.gn v x->RepA w S' ρ' γ v y
 |x,_,.im h,v,hr=>.im _ _ (hI _ _ (hr.less h).im_inv)
 |_,_,.osl h hg hg',v,hr=>by
  cases hr with
  |osl _ _ _ h1 h2 h3=>exact .osl _ _ _ h1 (yd1 hg'.symm) λ_=>by rw[(hρ _ _ h).1];exact h3 hg
 |_,_,.osv h hg hg',v,hr=>by
  cases hr with
  |osv _ _ _ _ _ h1 h2 h3=>exact .osv _ _ _ _ _ h1 (yd1 hg'.symm) λ_=>by rw[(hρ _ _ h).1];exact h3 hg
 |_,_,.made h hg',v,hr=>by
  cases hr.im_inv with
  |val _=>exact .osl _ _ _ rfl (yd1 hg'.symm) λ_=>(hn _ h).symm
 |_,_,.own h hg hg',v,hr=>by
  cases hr with
  |own _ _ _ _ h1 h2 h3=>exact .own _ _ _ _ h1 (yd1 hg'.symm) λ_=>by rw[(hρ _ _ h).1];exact h3 hg
 |_,_,.elt h hg hg',v,hr=>by
  cases hr with
  |elt _ _ _ _ _ _ h1 h2 h3=>exact .elt _ _ _ _ _ _ h1 (yd1 hg'.symm) λ_=>by rw[(hρ _ _ h).1];exact h3 hg
 |_,_,.sub h hg,v,hr=>by
  cases hr with
  |sub _ _ _ _ h1 h2 h3=>exact .sub _ _ _ _ h1 (yaf _) λ_=>by rw[(hρ _ _ h).2];exact h3 ((hig.1 _).trans hg)
 |_,_,.fn h,v,hr=>by
  cases hr with
  |fn _ us _ hl h1 =>
   have:=zsj.rep hI hρ hn hig h ⟨hl,h1⟩;exact .fn _ _ _ this.1 this.2
 |_,_,.agg h,v,hr=>by
  cases hr with
  |agg us _ hl h0 h1 =>
   have:=zsj.rep hI hρ hn hig h ⟨hl,h1⟩;exact .agg _ _ this.1 h0 this.2
def zsj.rep(hI:∀v x,RepI w S v x->RepI w S' v x)(hρ:∀b a,zf1 src b=some (some a)->ρ' b=ρ a/\ρ'.inn b=ρ.inn a)(hn:∀b,zf1 src b=some none->ρ' b=.slice none 0 0)(hig:(∀o,ρ.ig o=σ.ig o)/\∀o,ρ'.ig o=0) :
  ∀{xs ys:List AV},zsj σ src γ xs ys->∀{us:List Value},Reps w S ρ σ.gn us xs->Reps w S' ρ' γ us ys
 |_,_,.nil,us,hr=>⟨hr.1,λi u x hu hx=>by simp at hx⟩
 |_,_,.cons h t,[],hr=>by have:=hr.1;simp at this
 |_,_,.cons h t,u::us,hr=>by
  have h1:=SubR.rep hI hρ hn hig h (hr.2 0 u _ rfl rfl);have h2:=zsj.rep hI hρ hn hig t (us:=us) ⟨by simpa using hr.1,λi u x hu hx=>hr.2 (i+1) u x (by simpa using hu) (by simpa using hx)⟩;refine⟨by simp[h2.1],λi v x hv hx=>?_⟩;cases i with
  |zero=>simp at hv hx;subst hv hx;exact h1
  |succ i=>exact h2.2 i v x (by simpa using hv) (by simpa using hx)
end
end
def SubL(σ:St)(src:List (Nat×Option Nat))(γ:Nat->Nat):List (Nat×AV)->Prop
 |[]=>True
 |p::l=>(∃x,σ.av p.1=x/\SubR σ src γ x p.2)/\SubL σ src γ l
def KeepOk(σ:St)(o a:Nat):Prop:=match Nat.blt o 64 with|true=>a=o/\σ.gn a=0|false=>True
def NilKd(o:Nat)(k:Kd):Prop:=Nat.blt o 64=false/\((∃e m,k=.row e m []/\0<m)\/(∃e e' m,k=.grid e e' m [] none)\/∃t e m,k=.bag t e m [] none)
def KdL(σ:St)(src:List (Nat×Option Nat)):List (Nat×Kd)->Prop
 |[]=>True
 |p::l=>((∃a,zf1 src p.1=some (some a)/\σ.kd a=p.2/\KeepOk σ p.1 a)\/(zf1 src p.1=some none/\NilKd p.1 p.2))/\KdL σ src l
def CeL(σ:St)(src:List (Nat×Option Nat))(γ:Nat->Nat):List (Nat×Nat×AV)->Prop
 |[]=>True
 |p::l=>(∃a x,zf1 src p.1=some (some a)/\σ.ce a p.2.1=x/\SubR σ src γ x p.2.2)/\CeL σ src γ l
def lookA_sub{σ:St}{src:List (Nat×Option Nat)}{γ:Nat->Nat}:∀{avs:List (Nat×AV)},SubL σ src γ avs->∀t,SubR σ src γ (σ.av t) (lookA avs t)
 |[],_,t=>.im (.any _)
 |p::l,h,t=>by
  unfold lookA;split
  ·rename_i e;have e:=yar e;subst e;obtain⟨x,h1,h2⟩:=h.1;rw[h1];exact h2
  ·exact lookA_sub h.2 t
def zrj{σ:St}{src:List (Nat×Option Nat)}{γ:Nat->Nat}:∀{cels:List (Nat×Nat×AV)},CeL σ src γ cels->∀b a i,zf1 src b=some (some a)->SubR σ src γ (σ.ce a i) (lookC cels b i)
 |[],_,b,a,i,_=>.im (.any _)
 |p::l,h,b,a,i,hs=>by
  unfold lookC;split
  ·rename_i e;rw[yax]at e;have e1:=yar e.1;have e2:=yar e.2;subst e1 e2;obtain⟨a',x,h1,h3,h2⟩:=h.1;rw[hs]at h1;injection h1 with h1
   injection h1 with h1
   subst h1;rw[h3];exact h2
  ·exact zrj h.2 b a i hs
def zp9{σ:St}{src:List (Nat×Option Nat)}:∀{kds:List (Nat×Kd)},KdL σ src kds->∀o,zny kds o≠.dead ->
  (∃a,zf1 src o=some (some a)/\σ.kd a=zny kds o/\KeepOk σ o a)\/(zf1 src o=some none/\NilKd o (zny kds o))
 |[],_,o,h=>absurd rfl h
 |p::l,h,o,hd=>by
  unfold zny at hd ⊢;split
  ·rename_i e;have e:=yar e;subst e;exact h.1
  ·rename_i e;rw[e]at hd;exact zp9 h.2 o hd
def gnM_keep{σ:St}{src:List (Nat×Option Nat)}:∀{kds:List (Nat×Kd)},KdL σ src kds->∀o,gnM kds o=0->zf1 src o=some (some o)/\σ.gn o=0
 |[],_,o,h=>by simp[gnM]at h
 |p::l,h,o,hg=>by
  unfold gnM at hg;split at hg
  ·rename_i e;have e:=yar e;subst e;split at hg
   ·rename_i hb;rcases h.1 with⟨a,h1,_,h3⟩|⟨_,h3,_⟩
    ·unfold KeepOk at h3;rw[hb]at h3;obtain⟨rfl,h4⟩:=h3;exact⟨h1,h4⟩
    ·rw[hb]at h3;cases h3
   ·cases hg
  ·exact gnM_keep h.2 o hg
def znb:∀{src:List (Nat×Option Nat)} {b a:Nat},zf1 src b=some (some a)->a∈srcs src
 |[],b,a,h=>by cases h
 |(c,o)::l,b,a,h=>by
  unfold zf1 at h;split at h
  ·simp only[zkF]at h;subst h;simp[srcs]
  ·cases o with
   |none=>exact znb (src:=l) h
   |some d=>exact yau _ (znb h)
def zq4:∀{src:List (Nat×Option Nat)},(srcs src).Nodup->∀{b c a:Nat},zf1 src b=some (some a)->zf1 src c=some (some a)->b=c
 |[],_,b,c,a,h,_=>by cases h
 |(d,o)::l,hn,b,c,a,h,k=>by
  unfold zf1 at h k;cases o with
  |none =>
   split at h
   ·cases h
   ·split at k
    ·cases k
    ·exact zq4 (src:=l) hn h k
  |some q =>
   obtain⟨h1,h2⟩:=yb0.1 hn;split at h
   ·rename_i e1;simp only[zkF]at h;subst h;split at k
    ·rename_i e2;rw[yar e1,yar e2]
    ·exact absurd (znb k) h1
   ·split at k
    ·simp only[zkF]at k;subst k;exact absurd (znb h) h1
    ·exact zq4 h2 h k
def Ent.trans{σ σ' σ'':St}(h:Ent σ σ')(k:Ent σ' σ''):Ent σ σ'':=λB a w hs=>k B a w (h B a w hs)
def Ent.mk{σ:St}{avs:List (Nat×AV)}{kds:List (Nat×Kd)}{cels:List (Nat×Nat×AV)}(src:List (Nat×Option Nat))(hn:ndB (srcs src) []=true)(ha:SubL σ src (gnM kds) avs)(hk:KdL σ src kds)(hc:CeL σ src (gnM kds) cels):Ent σ (mkSt avs kds cels):=by
 rintro B a w ⟨ρ,hs⟩;have a4:=(zfm hn).1
 let ρ':Ly:=⟨λb=>match zf1 src b with|some (some a)=>ρ a|_=>.slice none 0 0,λb=>match zf1 src b with|some (some a)=>ρ.inn a|_=>[],λ_=>0⟩
 have hρ:∀b a,zf1 src b=some (some a)->ρ' b=ρ a/\ρ'.inn b=ρ.inn a:=λb a h=>by simp only[ρ',h];exact⟨trivial,trivial⟩
 have hρn:∀b,zf1 src b=some none->ρ' b=.slice none 0 0:=λb h=>by simp only[ρ',h]
 have hρi:∀b,zf1 src b=some none->ρ'.inn b=[]:=λb h=>by simp only[ρ',h]
 have a2:∀o,(mkSt avs kds cels).kd o=zny kds o:=λ_=>rfl
 have a0:∀o q,Owns (mkSt avs kds cels) ρ' o q->∃a,zf1 src o=some (some a)/\Owns σ ρ a q:=λo q hq=>by
  rcases zp9 hk o hq.lv with⟨a,h1,h2,_⟩|⟨h1,_,h2⟩
  ·refine⟨a,h1,?_⟩;unfold Owns at hq ⊢;rw[a2,(hρ o a h1).1,(hρ o a h1).2]at hq;rw[h2];exact hq
  ·unfold Owns at hq;rw[a2,hρn o h1,hρi o h1]at hq;rcases h2 with⟨e,m,h2,_⟩|⟨e,e',m,h2⟩|⟨t,e,m,h2⟩
   ·rw[h2]at hq;simp[fpk,zb3]at hq
   ·rw[h2]at hq;simp[fpk,fpv,zb3]at hq
   ·rw[h2]at hq;simp[fpk,fpv,zb3]at hq
 have hS:∀b,Imm B σ ρ w b->Imm B (mkSt avs kds cels) ρ' w b:=λb hi=>⟨hi.1,hi.2.1,λo hq=>by
  obtain⟨a,_,h2⟩:=a0 o b hq
  exact hi.2.2.1 a h2,hi.2.2.2⟩
 have hI:∀v x,RepI w (Imm B σ ρ w) v x->RepI w (Imm B (mkSt avs kds cels) ρ' w) v x:=λv x hr=>hr.mono hS λ_ _ _ h=>h;have hA:∀{x y:AV},SubR σ src (gnM kds) x y->∀{v:Value},RepA w (Imm B σ ρ w) ρ σ.gn v x->RepA w (Imm B (mkSt avs kds cels) ρ' w) ρ' (mkSt avs kds cels).gn v y:=λh _ hr=>SubR.rep hI hρ hρn ⟨hs.igs,λ_=>rfl⟩ h hr;refine⟨ρ',hs.bel,λo=>?_,λo b ho=>?_,λo p b h1 h2=>?_,λt=>hA (lookA_sub ha t) (hs.tms t),λ_=>rfl,λb hb=>⟨(hs.res b hb).1,λo ho=>?_⟩,λo v hl hg=>?_,hs.siz,hs.dfr⟩
 ·rw[a2]
  have nil:zf1 src o=some none->NilKd o (zny kds o)->zkl B (mkSt avs kds cels) ρ' w o (zny kds o):=λh1 ⟨_,h2⟩=>by
   rcases h2 with⟨e,m,h2,h3⟩|⟨e,e',m,h2⟩|⟨t,e,m,h2⟩
   ·rw[h2];show zg7 w _ (ρ' o) e m [];rw[hρn o h1];exact⟨[],h3,by simp,by simp,World.ownsRow_nil _ _ _ _,rfl,by simp,by simp⟩
   ·rw[h2];show zig w _ (ρ' o) (ρ'.inn o) e e' m [] none;rw[hρn o h1,hρi o h1];exact⟨yc4,rfl,[],yaf _,World.ownsRow_nil _ _ _ _,by simp,λi u hu=>by simp at hu⟩
   ·rw[h2];show zpq w _ (ρ' o) (ρ'.inn o) t e m []/\_;rw[hρn o h1,hρi o h1];exact⟨⟨rfl,yc4,[],rfl,rfl,λi g row hg _=>by simp at hg⟩,λp hp=>by cases hp⟩
  have a3:∀a,zf1 src o=some (some a)->σ.kd a=zny kds o->zkl B (mkSt avs kds cels) ρ' w o (zny kds o):=λa h1 h2=>by
   have ho:=hs.obs a;rw[h2]at ho;obtain⟨e1,e2⟩:=hρ o a h1;cases e:zny kds o with
   |dead=>trivial
   |box t m =>
    rw[e]at ho;obtain⟨b,us,h3,h4,h5,h6,h7⟩:=ho;exact⟨b,us,e1.trans h3,h4,h5,h6,λi u hu=>hA (zrj hc o a i h1) (h7 i u hu)⟩
   |row t k es =>
    rw[e]at ho;show zdq w (Imm B (mkSt avs kds cels) ρ' w) (ρ' o) (ρ'.inn o) (.row t k es);rw[e1,e2];exact zdq.mono (k:=.row t k es) ho (λ_ _=>rfl) hI
   |grid t t' k gs q =>
    rw[e]at ho;show zdq w (Imm B (mkSt avs kds cels) ρ' w) (ρ' o) (ρ'.inn o) (.grid t t' k gs q);rw[e1,e2];exact zdq.mono (k:=.grid t t' k gs q) ho (λ_ _=>rfl) hI
   |map l =>
    rw[e]at ho;show zdq w (Imm B (mkSt avs kds cels) ρ' w) (ρ' o) (ρ'.inn o) (.map l);rw[e1,e2];exact zdq.mono (k:=.map l) ho (λ_ _=>rfl) hI
   |bag ty te m l q =>
    rw[e]at ho;show zpq w (Imm B (mkSt avs kds cels) ρ' w) (ρ' o) (ρ'.inn o) ty te m l/\_;rw[e1,e2];exact⟨zpq.mono ho.1 (λ_ _=>rfl) hI,λp hp=>hA (zrj hc o a 0 h1) (ho.2 p hp)⟩
   |mapI l c =>
    rw[e]at ho;show GoOk w (Imm B (mkSt avs kds cels) ρ' w) (ρ' o) (ρ'.inn o) l c;rw[e1,e2];exact GoOk.mono ho (λ_ _=>rfl) hI
   |que t k es =>
    rw[e]at ho;show zdq w (Imm B (mkSt avs kds cels) ρ' w) (ρ' o) (ρ'.inn o) (.que t k es);rw[e1,e2];exact zdq.mono (k:=.que t k es) ho (λ_ _=>rfl) hI
  by_cases hd:zny kds o=.dead
  ·rw[hd];trivial
  ·rcases zp9 hk o hd with⟨a,h1,h2,_⟩|⟨h1,h2⟩
   ·exact a3 a h1 h2
   ·exact nil h1 h2
 ·obtain⟨a,_,h2⟩:=a0 o b ho;exact hs.own a b h2
 ·obtain⟨c,e1,b1⟩:=a0 o b h1;obtain⟨d,e2,b2⟩:=a0 p b h2;have:=hs.dis c d b b1 b2;subst this;exact zq4 a4 e1 e2
 ·obtain⟨a,_,h2⟩:=a0 o b ho;exact(hs.res b hb).2 a h2
 ·obtain⟨h1,h2⟩:=gnM_keep hk o hg;rw[(hρ o o h1).1];exact hs.rt o v hl h2
def Ent.que{σ:St}(o:Nat){e:TypeId}{k:Nat}{es:List (List IV)}(h:σ.kd o=.row e k es):Ent σ (upd σ (.knd o) (.kd (.que e k es))):=by
 rintro B a w ⟨ρ,hs⟩
 have a0:∀p b,Owns (upd σ (.knd o) (.kd (.que e k es))) ρ p b↔Owns σ ρ p b:=λp b=>by
  unfold Owns;rw[zei];by_cases hp:p=o
  ·rw[if_pos hp,hp,h];rfl
  ·rw[if_neg hp]
 have a2:Imm B (upd σ (.knd o) (.kd (.que e k es))) ρ w=Imm B σ ρ w:=by
  funext b;unfold Imm;simp only[a0]
 have a3:(upd σ (.knd o) (.kd (.que e k es))).gn=σ.gn:=funext λp=>zfe σ o p _;refine⟨ρ,hs.bel,λp=>?_,λp b hp=>hs.own p b ((a0 p b).1 hp),λp q b hp hq=>hs.dis p q b ((a0 p b).1 hp) ((a0 q b).1 hq),λt=>?_,λp=>by rw[zh7];exact hs.igs p,λb hb=>⟨(hs.res b hb).1,λp hp=>(hs.res b hb).2 p ((a0 p b).1 hp)⟩,λp v hl hg=>hs.rt p v hl (by rw[a3]at hg;exact hg),hs.siz,hs.dfr⟩
 ·rw[zei];by_cases hp:p=o
  ·rw[if_pos hp];have ho:=hs.obs p;rw[hp,h]at ho;show zj3 w (Imm B _ ρ w) (ρ p) e k es;rw[a2,hp];exact zg7.que ho
  ·rw[if_neg hp];exact(hs.obs p).mono rfl rfl (λi=>zh1 σ o p i _) (λ_ _=>rfl) (λv x hr=>by rw[a2];exact hr) λv x hr=>by rw[a2,a3];exact hr
 ·rw[a2,a3,zg8];exact hs.tms t
def Ok(x:IV):Prop:=∃w S v,RepI w S v x
def OkL(es:List (List IV)):Prop:=es.length<=17592186044416/\∀e∈es,∀x∈e,Ok x
def ok_flat{w:World}{S:Nat->Prop}{es:List (List IV)}{us:List Value}(hl:us.length=es.flatten.length)(hr:∀(i:Nat) u x,us[i]?=some u->es.flatten[i]?=some x->RepI w S u x):∀e∈es,∀x∈e,Ok x:=λe he x hx=>by
 have hm:x∈es.flatten:=yd3.2 ⟨e,he,hx⟩;obtain⟨i,hi⟩:=ych hm;have hlt:i<us.length:=by rw[hl];exact(zkI.1 hi).1
 exact⟨w,S,_,hr i _ x (zkM hlt) hi⟩
def Ok.sl{es:List (List IV)}(h:Ok (.sl es)):OkL es:=by
 obtain⟨w,S,v,h⟩:=h;cases h with
 |emp A c=>exact⟨yaf _,by simp⟩
 |sl b o c k n _ us hn hk hc hs hS hl h1 hu hr=>exact⟨by omega,ok_flat hl hr⟩
def ok_all{w:World}{S:Nat->Prop}{cs:List IV}{us:List Value}(hl:us.length=cs.length)(hr:∀(i:Nat) u x,us[i]?=some u->cs[i]?=some x->RepI w S u x):∀x∈cs,Ok x:=λx hx=>by
 obtain⟨i,hi⟩:=ych hx;have hlt:i<us.length:=by rw[hl];exact(zkI.1 hi).1
 exact⟨w,S,_,hr i _ x (zkM hlt) hi⟩
def Ok.agg{cs:List IV}(h:Ok (.agg cs)):∀x∈cs,Ok x:=by
 obtain⟨w,S,v,h⟩:=h;cases h with
 |agg us _ hl h1 hr=>exact ok_all hl hr
def Ok.agg_at{cs:List IV}{x:IV}(h:Ok (.agg cs))(i:Nat)(hx:cs[i]?=some x):Ok x:=h.agg x (zkH hx)
def Ok.ref{cs:List IV}(h:Ok (.ref cs)):∀x∈cs,Ok x:=by
 obtain⟨w,S,v,h⟩:=h;cases h with
 |ref b o us _ hS hl h1 hu hr=>exact ok_all hl hr
def Ok.ref_at{cs:List IV}{x:IV}(h:Ok (.ref cs))(i:Nat)(hx:cs[i]?=some x):Ok x:=h.ref x (zkH hx)
def Holds.true_(σ:St):Holds σ True:=λ_ _ _ _=>trivial
def Holds.and{σ:St}{φ ψ:Prop}(h:Holds σ φ)(k:Holds σ ψ):Holds σ (φ/\ψ):=λB a w hs=>⟨h B a w hs,k B a w hs⟩
def Holds.av{σ:St}(t:Nat){x:IV}(h:σ.av t=.im x):Holds σ (Ok x):=by
 rintro B a w ⟨ρ,hs⟩;have h1:=hs.tms t;rw[h]at h1;exact⟨_,_,_,h1.im_inv⟩
def Holds.ce{σ:St}(o i:Nat){t:TypeId}{m:Nat}{x:IV}(hk:σ.kd o=.box t m)(hi:i<m)(h:σ.ce o i=.im x):Holds σ (Ok x):=by
 rintro B a w ⟨ρ,hs⟩;have ho:=hs.obs o;rw[hk]at ho;obtain⟨b,us,h3,h5,h6,h7,h8⟩:=ho;have:=h8 i _ (zkM (by omega));rw[h]at this;exact⟨_,_,_,this.im_inv⟩
def Holds.kd{σ:St}(o:Nat){t:TypeId}{k:Nat}{es:List (List IV)}(hk:σ.kd o=.row t k es):Holds σ (OkL es):=by
 rintro B a w ⟨ρ,hs⟩;have ho:=hs.obs o;rw[hk]at ho;obtain⟨us,h1,h2,h3,h4,h5,h6,h7⟩:=ho;exact⟨h3,ok_flat h5 h7⟩
def Holds.kdq{σ:St}(o:Nat){t:TypeId}{k:Nat}{es:List (List IV)}(hk:σ.kd o=.que t k es):Holds σ (OkL es):=by
 rintro B a w ⟨ρ,hs⟩;have ho:=hs.obs o;rw[hk]at ho;obtain⟨us,h1,h2,h3,h5,h6,h7,h8⟩:=ho;exact⟨h3,ok_flat h5 h7⟩
def Holds.mono{σ:St}{φ ψ:Prop}(h:Holds σ φ)(k:φ->ψ):Holds σ ψ:=λB a w hs=>k (h B a w hs)
def iter{S R:Type}(step:S->Option (S⊕R)):Nat->S->Option R
 |0,_=>none
 |n+1,s=>match step s with
  |none=>none
  |some (.inl s')=>iter step n s'
  |some (.inr r)=>some r
def Fin{S R:Type}(step:S->Option (S⊕R))(r:R)(k:Nat):S⊕R->Prop
 | .inl s'=>iter step k s'=some r
 | .inr r'=>r'=r
def Nxt{S R:Type}(step:S->Option (S⊕R))(r:R)(st:S->St)(k:Nat)(σ':St):Prop:=∃m',m'<k+1/\∃s,iter step m' s=some r/\Ent σ' (st s)
def Nxt.mk{S R:Type}{step:S->Option (S⊕R)}{r:R}{st:S->St}{k:Nat}{σ':St}(s:S)(h:Fin step r k (.inl s))(e:Ent σ' (st s)):Nxt step r st k σ':=⟨k,ydb _,s,h,e⟩
attribute [irreducible] Nxt
def zb7.iter{S R:Type}(step:S->Option (S⊕R))(st:S->St)(φ:S->Prop){body:(Exit->St->Prop)->St->Prop}{K:Exit->St->Prop}{σ:St}{n:Nat}{s0:S}{r:R}
  (h:Sym.iter step n s0=some r) (e0:Ent σ (st s0)) (hφ:∀s,Holds (st s) (φ s))
  (hb:∀k s o,φ s->step s=some o->Fin step r k o->body (λe σ'=>match e with|.normal=>Nxt step r st k σ'|e=>K e σ') (st s)):zb7 body K σ:=by
 unfold zb7;refine⟨λm σ=>∃s,Sym.iter step m s=some r/\Ent σ (st s),n,⟨s0,h,e0⟩,?_⟩;rintro m σ ⟨s,hm,he⟩;refine⟨st s,φ s,he,hφ s,λhp=>?_⟩;cases m with
 |zero=>cases hm
 |succ k =>
  unfold Sym.iter at hm;split at hm
  ·cases hm
  ·rename_i s' hs;have:=hb k s _ hp hs hm;unfold Nxt at this;exact this
  ·rename_i r' hs;have:=hb k s _ hp hs (by injection hm);unfold Nxt at this;exact this
def Join(s σ':St):Prop:=∃σ1,Ent σ' σ1/\σ1=s
def Join.mk{s σ':St}(e:Ent σ' s):Join s σ':=⟨s,e,rfl⟩
attribute [irreducible] Join
def Cut.mk(s:St)(φ:Prop){body:(St->Prop)->Prop}{rest:St->Prop}(hφ:Holds s φ)(h:body (Join s))(k:φ->rest s):Cut body rest:=by
 unfold Cut;unfold Join at h;exact⟨λσ=>σ=s,h,λσ e=>⟨φ,by rw[e];exact hφ,λhp=>by rw[e];exact k hp⟩⟩
end
section
open Go.RowKit
def OkOc:Oc->Prop
 | .im x=>Ok x
 | .ow (.row _ _ es)=>OkL es
 | .ow (.grid _ _ _ gs _)=>gs.length<=17592186044416
 | .ow _=>True
def OkOcs:List Oc->Prop
 |[]=>True
 |c::l=>OkOc c/\OkOcs l
def OkA:Arg->Prop
 | .im x=>Ok x
 | .ow k=>OkOc (.ow k)
 | .box _ cs=>OkOcs cs
 | .lent k=>OkOc (.ow k)
def OkAs:List Arg->Prop
 |[]=>True
 |x::l=>OkA x/\OkAs l
def okOc_of{w:World}{S:Nat->Prop}{u:Value}:∀{c:Oc} {F:List Nat},OcOk w S u c F->OkOc c
 | .im x,_,h=>⟨w,S,u,h.1⟩
 | .ow (.row _ _ es),_,⟨_,_,⟨ws,h1,h2,h3,h4,h5,h6,h7⟩,_⟩=>⟨h3,ok_flat h5 h7⟩
 | .ow (.grid _ _ _ gs _),_,⟨_,_,⟨_,_,_,h,_⟩,_⟩=>h
 | .ow (.map _),_,_=>trivial
 | .ow .dead,_,_=>trivial
 | .ow (.box _ _),_,_=>trivial
 | .ow (.que _ _ _),_,_=>trivial
def okOcs_of{w:World}{S:Nat->Prop}:∀{us:List Value} {cs:List Oc} {F:List Nat},zjf w S us cs F->OkOcs cs
 |[],[],_,_=>trivial
 |_::_,_::_,_,⟨_,_,h1,h2,_⟩=>⟨okOc_of h1,okOcs_of h2⟩
 |[],_::_,_,h=>h.elim
 |_::_,[],_,h=>h.elim
def okA_of{w:World}{S:Nat->Prop}{u:Value}:∀{x:Arg} {F:List Nat},ArgOk w S u x F->OkA x
 | .im x,_,h=>⟨w,S,u,h.1⟩
 | .ow k,_,h=>okOc_of (c:=.ow k) h
 | .box _ _,_,⟨_,_,_,_,_,_,h,_⟩=>okOcs_of h
 | .lent k,_,h=>okOc_of (c:=.ow k) h
def oks_of{w:World}{S:Nat->Prop}:∀{us:List Value} {xs:List Arg} {F:List Nat},zdz w S us xs F->OkAs xs
 |[],[],_,_=>trivial
 |_::_,_::_,_,⟨_,_,h1,h2,_⟩=>⟨okA_of h1,oks_of h2⟩
 |[],_::_,_,h=>h.elim
 |_::_,[],_,h=>h.elim
def zce{P:Program}{f:FuncId}{fn:Func}{c:Code}{xs:List Arg}{r:Rs}(hm:P.follows .mixedOrders=true)(own:List Nat)(hf:P.funcs[f]?=some fn)(hname:(fn.name=="runtime.NumGoroutine")=false)(hb:fn.body=some c)
  (hn:xs.length<=fn.ntmps) (hok:entOk xs=true) (h:OkAs xs->frcW (entW xs) 0 sig0 λ_ σ=>zje P (SpX P) fn.ntmps own c (retK P fn.results.toList xs r) σ):Sp P f xs r :=
 sp_of_code hm (C:=SpX P) (λ_ _ _ h=>h) hf hname hb hn hok λ_ _ _ _ ha=>by
  have:=h (oks_of ha);rw[zre]at this;exact this
def sp_ofA{P:Program}{f:FuncId}{fn:Func}{c:Code}{xs:List Arg}{r:Rs}(hm:P.follows .mixedOrders=true)(own:List Nat)(t:TypeId)(l:List Oc)(k:Nat)(hl:l.length+k=xs.length)(hf:P.funcs[f]?=some fn)(hname:(fn.name=="runtime.NumGoroutine")=false)(hb:fn.body=some c)
  (hn:xs.length<=fn.ntmps) (hn2:k+1<=fn.ntmps) (hok:entOk xs=true) (h:OkAs xs->frcW (entW xs) 0 sig0 λm σ=>frcW (entA l.length k σ) m σ λ_ σ'=>zje P (SpX P) fn.ntmps own c (retKA P t fn.results.toList xs r) σ'):SpX P f (.lent .dead::.box t l::xs) r :=
 sp_ofA_code hm (C:=SpX P) (λ_ _ _ h=>h) hf hname hb hl hn hn2 hok λ_ _ _ _ ha=>by
  have:=h (oks_of ha);rw[zre,zre]at this;exact this
def sp_ofT{P:Program}{f:FuncId}{fn:Func}{c:Code}{xs:List Arg}{r:Rs}(hm:P.follows .mixedOrders=true)(own:List Nat)(hf:P.funcs[f]?=some fn)(hname:(fn.name=="runtime.NumGoroutine")=false)(hb:fn.body=some c)
  (hn:xs.length<=fn.ntmps) (hok:entOk xs=true) (h:OkAs xs->frcW (entW xs) 0 sig0 λ_ σ=>zje P (SpX P) fn.ntmps own c (retKA P 1 fn.results.toList xs r) σ):SpX P f (.lent .dead::.ow .dead::xs) r :=
 sp_ofT_code hm (C:=SpX P) (λ_ _ _ h=>h) hf hname hb hn hok λ_ _ _ _ ha=>by
  have:=h (oks_of ha);rw[zre]at this;exact this
inductive FrzL:List Oc->List Oc->Prop
 |nil:FrzL [] []
 |keep (c:Oc) {l l':List Oc} (h:FrzL l l'):FrzL (c::l) (c::l')
 |row {e:TypeId} {k:Nat} {es:List (List IV)} {l l':List Oc} (h:FrzL l l'):FrzL (.ow (.row e k es)::l) (.im (.sl es)::l')
 |grid {e e':TypeId} {k:Nat} {gs:List (List IV)} {l l':List Oc} (h:FrzL l l'):FrzL (.ow (.grid e e' k gs none)::l) (.im (.sl gs)::l')
def RepI.up{w:World}{S S':Nat->Prop}(hS:∀b,S b->S' b){v:Value}{x:IV}(h:RepI w S v x):RepI w S' v x:=h.mono hS λ_ _ _ h=>h
def Sp.frz{P:Program}{g:FuncId}{xs:List Arg}{tp:Bool}{l l':List Oc}{ys:List Arg}(hl:FrzL l l')(h:Sp P g xs (.mk tp l ys)):Sp P g xs (.mk tp l' ys) :=
 ⟨h.1,λw S vs F hS ha hn hF=>(h.2 w S vs F hS ha hn hF).mono λe w' ⟨v,F',h1,h2,⟨us,F1,F2,h3,h4,h5,h6⟩,h7,h8⟩=>by
  subst h6
  rw[ybm]at h7
  -- the frozen blocks leave the footprint
  have hlt:∀b∈F1,(w.heap.size<=b\/b∈F)/\b<w'.heap.size:=λb hb=>h8 b (yan _ hb)
  have key:∀(l l':List Oc),FrzL l l'->∀(us:List Value) (F1:List Nat) (S:Nat->Prop),zjf w' S us l F1->F1.Nodup->∃Fk,Fk.Sublist F1/\∀(S':Nat->Prop),(∀b,S b->S' b)->(∀b∈F1,b∉Fk->S' b)->zjf w' S' us l' Fk:=by
   intro l l' hl
   induction hl with
   |nil =>
    intro us F1 S h _
    match us,h with
    |[],h=>exact⟨[],List.nil_sublist _,λ_ _ _=>rfl⟩
   |keep c _ ih =>
    intro us F1 S h a0
    match us,h with
    |u::us,⟨G1,G2,h1,h2,h3⟩ =>
     subst h3
     rw[ybm]at a0
     obtain⟨Fk,a1,a2⟩:=ih us G2 S h2 a0.2.1
     exact⟨G1++Fk,List.Sublist.append_left a1 _,λS' hS hF=>⟨G1,Fk,h1.mono λu x hr=>hr.up hS,a2 S' hS λb hb a3=>hF b (by simp[hb]) λhm=>by
      rcases yam.1 hm with hm|hm
      ·exact a0.2.2 b hm b hb rfl
      ·exact a3 hm,rfl⟩⟩
   |row _ ih =>
    intro us F1 S h a0
    match us,h with
    |u::us,⟨G1,G2,⟨_,inn,h1,e1⟩,h2,h3⟩ =>
     subst h3
     rw[ybm]at a0
     obtain⟨Fk,a1,a2⟩:=ih us G2 S h2 a0.2.1
     refine⟨[]++Fk,(ycj Fk).symm ▸ a1.trans (ydo _ _),λS' hS hF=>⟨[],Fk,⟨zg7.repI h1 (λb hb=>?_) λu x hr=>hr.up hS,rfl⟩,a2 S' hS λb hb a3=>hF b (by simp[hb]) (by simpa using a3),rfl⟩⟩
     have a4:b∈G1:=by rw[e1];simp[fpk,hb]
     exact⟨hF b (by simp[a4]) λhm=>a0.2.2 b a4 b (a1.subset (by simpa using hm)) rfl,rfl⟩
   |grid _ ih =>
    intro us F1 S h a0
    match us,h with
    |u::us,⟨G1,G2,⟨_,inn,h1,e1⟩,h2,h3⟩ =>
     subst h3
     rw[ybm]at a0
     obtain⟨Fk,a1,a2⟩:=ih us G2 S h2 a0.2.1
     refine⟨[]++Fk,(ycj Fk).symm ▸ a1.trans (ydo _ _),λS' hS hF=>⟨[],Fk,⟨zig.repI h1 (λb hb=>?_) λu x hr=>hr.up hS,rfl⟩,a2 S' hS λb hb a3=>hF b (by simp[hb]) (by simpa using a3),rfl⟩⟩
     have a4:b∈G1:=by rw[e1];exact hb
     exact⟨hF b (by simp[a4]) λhm=>a0.2.2 b a4 b (a1.subset (by simpa using hm)) rfl,rfl⟩
  obtain⟨Fk,a1,a2⟩:=key l l' hl us F1 _ h4 h7.1
  have a5:∀b,b∈Fk++F2->b∈F1++F2:=λb hb=>by
   rcases yam.1 hb with hb|hb
   ·exact yan _ (a1.subset hb)
   ·exact yai _ hb
  have a6:∀b,((S b\/w.heap.size<=b\/b∈F)/\b<w'.heap.size/\b∉F1++F2)->((S b\/w.heap.size<=b\/b∈F)/\b<w'.heap.size/\b∉Fk++F2):=λb hb=>⟨hb.1,hb.2.1,λhm=>hb.2.2 (a5 b hm)⟩
  refine⟨v,Fk++F2,h1,h2,⟨us,Fk,F2,h3,a2 _ a6 λb hb a3=>⟨.inr (hlt b hb).1,(hlt b hb).2,λhm=>?_⟩,h5.mono λu x hr=>hr.up a6,rfl⟩,?_,λb hb=>h8 b (a5 b hb)⟩
  ·rcases yam.1 hm with hm|hm
   ·exact a3 hm
   ·exact h7.2.2 b hb b hm rfl
  ·rw[ybm]
   exact⟨a1.nodup h7.1,h7.2.1,λx hx y hy=>h7.2.2 x (a1.subset hx) y hy⟩⟩
def Sp.im{P:Program}{g:FuncId}{xs:List Arg}{e:TypeId}{k:Nat}{es:List (List IV)}(h:Sp P g xs (.row e k es)):Sp P g xs (.im (.sl es)):=Sp.frz (.row .nil) h
def Sp.args{P:Program}{g:FuncId}{xs ys:List Arg}{r:Rs}(h:Sp P g xs r)(e:ys=xs):Sp P g ys r:=e ▸ h
abbrev cI(x:Int):List IV:=[.val (.int .i64 x)]
abbrev cB(x:Bool):List IV:=[.val (.bool x)]
abbrev cL{α:Type}(c:α->List IV)(l:List α):List IV:=[.sl (l.map c)]
abbrev nI(n:Int):IV:=.val (.int .i64 n)
abbrev nB(b:Bool):IV:=.val (.bool b)
abbrev nL{α:Type}(c:α->List IV)(l:List α):IV:=.sl (l.map c)
instance (n:Int):Decidable (inR n):=by unfold inR;infer_instance
instance (n b:Nat):Decidable (za5 n b):=by unfold za5;infer_instance
def fuel:Nat:=1000000000000000000000
section
variable {α β:Type}
def chk(c:Prop)[Decidable c](k:Option α):Option α:=if c then k else none
def idx(l:List α)(n:Int)(k:α->Option β):Option β:=if 0<=n then(match l[n.toNat]? with|some x=>k x|none=>none) else none
def zan{c:Prop}[Decidable c]{k:Option α}{r:α}(h:chk c k=some r):c/\k=some r:=by
 unfold chk at h;split at h
 ·exact⟨‹_›,h⟩
 ·cases h
def zar{l:List α}{n:Int}{k:α->Option β}{r:β}(h:idx l n k=some r):∃x,0<=n/\l[n.toNat]?=some x/\k x=some r:=by
 unfold idx at h;split at h
 ·split at h
  ·rename_i x hx;exact⟨x,‹_›,hx,h⟩
  ·cases h
 ·cases h
def bind_some{o:Option α}{f:α->Option β}{r:β}(h:o.bind f=some r):∃x,o=some x/\f x=some r:=by
 cases o with
 |none=>cases h
 |some x=>exact⟨x,rfl,h⟩
def zcf{Y Z R:Type}{f:Y->Option R}{g:Z->Option R}{y:Y}{r:R}(h:Sum.elim f g (.inl y)=some r):f y=some r:=h
def zbq{b:Bool}{x y z:α}(hb:b=true)(h:cond b x y=z):x=z:=by rw[hb]at h;exact h
def zbp{b:Bool}{x y z:α}(hb:b=false)(h:cond b x y=z):y=z:=by rw[hb]at h;exact h
def idxn(l:List α)(n:Nat)(k:α->Option β):Option β:=match l[n]? with|some x=>k x|none=>none
def zac{l:List α}{n:Nat}{k:α->Option β}{r:β}(h:idxn l n k=some r):∃x,l[n]?=some x/\k x=some r:=by
 unfold idxn at h;split at h
 ·rename_i x hx;exact⟨x,hx,h⟩
 ·cases h
def zc6{b:Bool}(h:(b==true)=true):b=true:=by cases b<;>simp_all
def zc9{b:Bool}(h:(b==true)=false):b=false:=by cases b<;>simp_all
def zdd{b:Bool}(h:(b==false)=true):b=false:=by cases b<;>simp_all
def zde{b:Bool}(h:(b==false)=false):b=true:=by cases b<;>simp_all
def zbj{b:Bool}(h:b=true):(b==true)=true:=by rw[h];rfl
def zbw{b:Bool}(h:b=false):(b==false)=true:=by rw[h];rfl
def zdf{b:Bool}(h:b=true):(b==false)=false:=by rw[h];rfl
def zdk{b:Bool}(h:b=false):(b==true)=false:=by rw[h];rfl
def zad{l:List α}{c:α->β}{i:Nat}{x:α}(h:l[i]?=some x):(l.map c)[i]?=some (c x):=by rw[yae,h];rfl
def za0{l:List α}{c:α->β}{i:Nat}{x:α}(h:l[i]?=some x):i<(l.map c).length:=by
 rw[zkK];exact(zkI.1 h).1
def zck{l:List α}{c:α->List β}{k:Nat}(h:∀x,(c x).length=k):∀e∈l.map c,e.length=k:=λe he=>by
 obtain⟨x,_,rfl⟩:=yao.1 he;exact h x
def zak{l:List α}{c:α->β}:l.length=(l.map c).length:=(zkK _).symm
def zcj{l m:List α}{c:α->β}:(l++m).map c=l.map c++m.map c:=ya0
def zmr{l:List α}{c:α->β}{n:Nat}:(l.take n).map c=((l.map c).take n).drop 0:=by rw[ye6];rfl
def drop_map{l:List α}{c:α->β}{n:Nat}:(l.drop n).map c=((l.map c).take ((l.map c).length:Int).toNat).drop n:=by rw[yd8,yah,ybw]
def zc2{l:List α}{c:α->List β}{i:Nat}{x y:α}{j:Nat}{xs:List β}(h:c y=splice (c x) j xs):(l.set i y).map c=(l.map c).set i (splice (c x) j xs):=by rw[yfc,h]
end
abbrev wI(n:Int):Value:=.int .i64 n
abbrev wB(b:Bool):Value:=.bool b
section
variable {κ ν:Type}
def mapV(f:κ->Value)(g:ν->Value)(m:List (κ×ν)):List (Value×Value):=m.map λp=>(f p.1,g p.2)
def mget[BEq κ](k:κ):List (κ×ν)->Option ν
 |[]=>none
 |p::m=>match k==p.1 with|true=>some p.2|false=>mget k m
def mset[BEq κ](k:κ)(v:ν):List (κ×ν)->List (κ×ν)
 |[]=>[(k,v)]
 |p::m=>match k==p.1 with|true=>(k,v)::m|false=>p::mset k v m
def find_int(k:Int)(g:ν->Value):∀m:List (Int×ν),findV (.int .i64) (.int .i64 k) (mapV wI g m)=some ((mget k m).map g)
 |[]=>rfl
 |p::m=>by
  have ih:=find_int k g m;unfold mapV at ih ⊢;rw[yav];unfold findV mget;simp only[Instr.sameNow,if_true];cases k==p.1 with
  |true=>rfl
  |false=>exact ih
def set_int(k:Int)(v:ν)(g:ν->Value):∀m:List (Int×ν),setV (.int .i64) (.int .i64 k) (g v) (mapV wI g m)=some (mapV wI g (mset k v m))
 |[]=>rfl
 |p::m=>by
  have ih:=set_int k v g m;unfold mapV at ih ⊢;rw[yav];unfold setV mset;simp only[Instr.sameNow,if_true];cases k==p.1 with
  |true=>rfl
  |false=>simp only[ih];rfl
def get_arr(ks:yab)(g:ν->Value):∀m:List (yab×ν),getA ks (m.map λp=>(p.1,g p.2))=(mget ks m).map g
 |[]=>rfl
 |p::m=>by
  rw[yav];unfold getA mget;rw[show(ks==p.1)=decide (ks=p.1) from by rw[yfk];simp];simp only;cases decide (ks=p.1) with
  |true=>rfl
  |false=>exact get_arr ks g m
def set_arr(ks:yab)(v:ν)(g:ν->Value):∀m:List (yab×ν),setA ks (g v) (m.map λp=>(p.1,g p.2))=(mset ks v m).map λp=>(p.1,g p.2)
 |[]=>rfl
 |p::m=>by
  rw[yav];unfold setA mset;rw[show(ks==p.1)=decide (ks=p.1) from by rw[yfk];simp];simp only;cases decide (ks=p.1) with
  |true=>rfl
  |false=>simp only[set_arr ks v g m];rfl
def cA(l:yab):List IV:=l.map λc=>.val (.int .i64 c)
def flat_cA{l:yab}:cA l=(l.map cI).flatten:=by
 induction l with
 |nil=>rfl
 |cons c l ih=>rw[yav,ybu,<- ih];rfl
def len_mapV{κ ν:Type}{f:κ->Value}{g:ν->Value}{m:List (κ×ν)}:m.length=(mapV f g m).length:=(zkK _).symm
def zp2{n:Nat}{cs:List IV}{ks:yab}{g:ν->Value}{m:List (yab×ν)}(hc:cs=ks.map λc=>.val (.int .i64 c))(hn:ks.length=n/\∀p∈m,p.1.length=n):KeysA n cs (mapV wA g m) ks (m.map λp=>(p.1,g p.2)) :=
 ⟨hc,hn.1,by unfold mapV;rw[List.map_map];rfl,λp hp=>by obtain⟨q,hq,rfl⟩:=yao.1 hp;exact hn.2 q hq⟩
def mapA_set(g:ν->Value)(m:List (yab×ν)):mapV wA g m=(m.map λp=>(p.1,g p.2)).map λp=>(wA p.1,p.2):=by unfold mapV;rw[List.map_map];rfl
def getD_map{g:ν->Value}{d:ν}{z:Value}(h:g d=z)(o:Option ν):g (o.getD d)=(o.map g).getD z:=by cases o<;>simp[h]
def zth{g:ν->Value}(o:Option ν):o.isSome=(o.map g).isSome:=by cases o<;>rfl
def clr_map{α β:Type}{c:α->β}{z:α}{e:β}{l:List α}{k:Nat}(hc:c z=e):(l.take k++List.replicate (l.length-k) z).map c=(l.map c).take k++List.replicate ((l.map c).length-k) e:=by rw[ya0,ye6,List.map_replicate,zkK,hc]
def cut_own{α β:Type}{c:α->β}{l:List α}{k:Nat}:(l.take k).map c=(l.map c).take k:=ye6
def len_own{α β:Type}{c:α->β}{l:List α}{k:Nat}:l.length-k=(l.map c).length-k:=by rw[zkK]
def ze6{α β:Type}{c:α->β}{z:α}{e:β}{n m:Nat}(h:n=m)(hc:c z=e):(List.replicate n z).map c=List.replicate m e:=by rw[List.map_replicate,h,hc]
end
def flat_map{α:Type}{f:α->Value}{l:List α}(h:∀x:α,∃v,(IV.val (f x))=.val v):∀e∈l.map (λx=>[IV.val (f x)]),∀x∈e,∃v,x=.val v:=λe he x hx=>by
 obtain⟨y,_,rfl⟩:=yao.1 he;rcases yag.1 hx with rfl;exact⟨_,rfl⟩
def flat_row{e:TypeId}{k:Nat}{es:List (List IV)}(h:∀e∈es,∀x∈e,∃v,x=.val v):flatRs (.mk false [.ow (.row e k es)] []):=⟨λc hc=>by rcases yag.1 hc with rfl;exact h,λy hy=>by cases hy⟩
def zhl{v:Value}:flatRs (.mk false [.im (.val v)] []):=⟨λc hc=>by rcases yag.1 hc with rfl;exact Or.inl ⟨v,rfl⟩,λy hy=>by cases hy⟩
def zat{α:Type}{c:α->List IV}{l:List α}(h:Ok (.sl (l.map c))):l.length<=17592186044416:=by have:=h.sl.1;rwa [zkK]at this
def okl_len{α:Type}{c:α->List IV}{l:List α}(h:OkL (l.map c)):l.length<=17592186044416:=by have:=h.1;rwa [zkK]at this
def Holds.avl{σ:St}{α:Type}{c:α->List IV}{l:List α}(t:Nat)(h:σ.av t=.im (.sl (l.map c))):Holds σ (l.length<=17592186044416):=(Holds.av t h).mono zat
def Holds.cel{σ:St}{α:Type}{c:α->List IV}{l:List α}(o i:Nat){t:TypeId}{m:Nat}(hk:σ.kd o=.box t m)(hi:i<m)(h:σ.ce o i=.im (.sl (l.map c))):Holds σ (l.length<=17592186044416):=(Holds.ce o i hk hi h).mono zat
def rowAt_map{α:Type}{c:α->List IV}{g:List (List α)}{i:Nat}{e:List α}(h:g[i]?=some e):rowAt (g.map (cL c)) i=e.map c:=by
 unfold rowAt;rw[yae,h];rfl
def sp_cast{P:Program}{g:FuncId}{xs xs':List Arg}{r:Rs}(h:xs'=xs)(c:Sp P g xs r):Sp P g xs' r:=h ▸ c
def oN{α:Type}(c:α->List IV):Option (List α)->IV
 |none=>.val (.slice none 0 0)
 |some l=>.nsl (l.map c)
abbrev cO{α:Type}(c:α->List IV)(o:Option (List α)):List IV:=[oN c o]
def nilS_oN{α:Type}{c:α->List IV}(o:Option (List α)):nilS (.im (oN c o)) o.isNone:=by
 cases o with
 |none=>exact .inl ⟨rfl,rfl⟩
 |some l=>exact .inr ⟨rfl,_,rfl⟩
def zr5{α:Type}{c:α->List IV}{g:List (List α)}{i:Nat}{r:List α}:(g.set i r).map (cL c)=(g.map (cL c)).set i [.sl (r.map c)]:=by rw[yfc]
def zgg{α:Type}{c:α->List IV}{g:List (List α)}{i j k:Nat}{ev:List α}{x y:α}{xs:List IV}(h:c y=splice (c x) k xs):(g.set i (ev.set j y)).map (cL c)=(g.map (cL c)).set i [.sl ((ev.map c).set j (splice (c x) k xs))]:=by
 rw[<- h,yfc];show(g.map (cL c)).set i [.sl ((ev.set j y).map c)]=_;rw[yfc]
def Holds.kdg{σ:St}{α:Type}{c:α->List IV}{l:List α}(o:Nat){e e':TypeId}{k:Nat}{q:Option Nat}(hk:σ.kd o=.grid e e' k (l.map c) q):Holds σ (l.length<=17592186044416):=λB a w ⟨ρ,hs⟩=>by
 have ho:=hs.obs o;rw[hk]at ho;obtain⟨_,_,us,h,_⟩:=ho;simpa using h
def Holds.kdql{σ:St}{α:Type}{c:α->List IV}{l:List α}(o:Nat){t:TypeId}{k:Nat}(hk:σ.kd o=.que t k (l.map c)):Holds σ (l.length<=17592186044416):=(Holds.kdq o hk).mono okl_len
def Holds.kdl{σ:St}{α:Type}{c:α->List IV}{l:List α}(o:Nat){t:TypeId}{k:Nat}(hk:σ.kd o=.row t k (l.map c)):Holds σ (l.length<=17592186044416):=(Holds.kd o hk).mono okl_len
def zdn{Y Z:Type}(oc:Y⊕Z)(st:Y->St)(σ':St):Prop:=∃y,oc=.inl y/\Ent σ' (st y)
def Cut.mkS{Y Z:Type}(oc:Y⊕Z)(st:Y->St)(φ:Y->Prop){body:(St->Prop)->Prop}{rest:St->Prop}(hφ:∀y,Holds (st y) (φ y))(h:body (zdn oc st))(k:∀y,oc=.inl y->φ y->rest (st y)):Cut body rest:=by
 unfold Cut;have e:zdn oc st=λσ'=>∃σ1,Ent σ' σ1/\∃y,oc=.inl y/\σ1=st y:=funext λσ'=>propext ⟨λ⟨y,h1,h2⟩=>⟨_,h2,y,h1,rfl⟩,λ⟨σ1,h1,y,h2,h3⟩=>⟨y,h2,h3 ▸ h1⟩⟩;rw[e]at h;refine⟨λσ1=>∃y,oc=.inl y/\σ1=st y,h,?_⟩;rintro σ ⟨y,h1,rfl⟩;exact⟨φ y,hφ y,k y h1⟩
attribute [irreducible] zdn
def zdn.mk'{Y Z:Type}{oc:Y⊕Z}{st:Y->St}{σ':St}(y:Y)(h:oc=.inl y)(e:Ent σ' (st y)):zdn oc st σ':=by unfold zdn;exact⟨y,h,e⟩
abbrev zlA:=@bind_some
abbrev zlB:=@Side.mk
abbrev zlC:=@Both.mk
abbrev zlD:=@Both.yes
abbrev zlE:=@Both.no
abbrev zlF:=@Nf.mk
abbrev zlG:=@Join.mk
abbrev zlH:=@Holds.avl
abbrev zlI:=@Ok.agg_at
abbrev zlJ:=@Cut.mkS
abbrev zlK:=@Nxt.mk
end
section
open Go.RowKit
set_option linter.unusedVariables false
set_option maxHeartbeats 4000000
structure zab where
 Inputs:Int
 Start:Int
 Next:yaa
 Out:yaa
 deriving DecidableEq
def zao(s:zab):List IV:=[nI s.Inputs,nI s.Start,nL (cL cI) s.Next,nL (cL cI) s.Out]
structure zm2 where
 Step:yab
 Reset:Int
 deriving DecidableEq
structure zpb where
 Lost:Int
 Wrong:Int
 Crash:Int
 deriving DecidableEq
structure zim where
 M:zab
 State:Int
 Ready:Bool
 Latency:zm2
 Faults:zpb
 Seed:Int
 Steps:Int
 Resets:Int
 Time:Int
 deriving DecidableEq
structure zag where
 In:yab
 Out:yab
 deriving DecidableEq
def zau(s:zag):List IV:=[nL cI s.In,nL cI s.Out]
structure zav where
 Inputs:Int
 Traces:List zag
 deriving DecidableEq
def zba(s:zav):List IV:=[nI s.Inputs,nL zau s.Traces]
structure T_api_Oracle where
 Device:zim
 Obs:zav
 Votes:Int
 Tries:Int
 Asked:Int
 Hits:Int
 deriving DecidableEq
structure zcq where
 Inputs:Int
 Prefixes:yaa
 Suffixes:yaa
 deriving DecidableEq
def zhz(s:zcq):List IV:=[nI s.Inputs,nL (cL cI) s.Prefixes,nL (cL cI) s.Suffixes]
structure T_api_Baseline where
 M:zab
 Words:yaa
 deriving DecidableEq
structure T_api_Report where
 Run:Int
 Changes:List zag
 deriving DecidableEq
structure zpa where
 Inputs:Int
 Abstract:Int
 Start:Int
 Next:yaa
 Sym:yaa
 deriving DecidableEq
structure T_api_Clash where
 Word:yab
 First:Int
 Second:Int
 deriving DecidableEq
structure T_api_Hyp where
 M:zab
 Access:yaa
 deriving DecidableEq
structure zaa where
 Inputs:Int
 Start:Int
 Next:yaa
 Out:yaa
 deriving DecidableEq
def zaf(s:zaa):List IV:=[nI s.Inputs,nI s.Start,nL (cL cI) s.Next,nL (cL cI) s.Out]
structure zs5 where
 Inputs:Int
 Short:yaa
 Suffixes:yaa
 deriving DecidableEq
structure T_api_Split where
 Prefix:yab
 Symbol:Int
 Suffix:yab
 deriving DecidableEq
structure T_learnerlaw28_Case where
 M:zab
 O:zav
 L:zs5
 S:T_api_Split
 deriving DecidableEq
structure T_learnerlaw35_Parts where
 P:zaa
 W:yab
 S:Int
 T:Int
 Out:Int
 deriving DecidableEq
structure zsa where
 Mealy:zab
 deriving DecidableEq
structure T_mealy_runner where
 machine:zsa
 at_:Int
 deriving DecidableEq
structure T_api_Mutation where
 Kind:Int
 State:Int
 Input:Int
 Value:Int
 Value2:Int
 deriving DecidableEq
structure T_regress_runner where
 m:zab
 report:T_api_Report
 deriving DecidableEq
structure T_table_view where
 rows:List (yaa)
 zdi:yab
 next:yaa
 number:List (ByteArray×Int)
 deriving DecidableEq
structure T_refine_reached where
 m:zab
 states:yab
 words:yaa
 class_:yab
 deriving DecidableEq
structure T_mapper_set where
 list:yab
 word:yab
 deriving DecidableEq
structure T_mapper_builder where
 m:zab
 p:zpa
 sets:List T_mapper_set
 of:List (ByteArray×Int)
 deriving DecidableEq
structure za2 where
 score:Int
 blue:Int
 red:Int
 deriving DecidableEq
def zfs(s:za2):List IV:=[nI s.score,nI s.blue,nI s.red]
structure T_lazy_reader where
 l:zs5
 o:zav
 missing:yaa
 long:Bool
 deriving DecidableEq
structure T_nondet_group where
 word:yab
 before:yab
 least:yab
 deriving DecidableEq
structure T_device_unit where
 Device:zim
 deriving DecidableEq
structure zdp where
 s:Int
 t:Int
 deriving DecidableEq
def zie(s:zdp):List IV:=[nI s.s,nI s.t]
structure T_mapper_runner where
 Mapper:zpa
 state:Int
 deriving DecidableEq
structure T_cover_place where
 state:Int
 word:yab
 deriving DecidableEq
structure T_A2 where
 f0:Int
 f1:Int
 deriving DecidableEq
def c_A2(s:T_A2):List IV:=[nI s.f0,nI s.f1]
structure zbm where
 up:List (Int×Int)
 deriving DecidableEq
structure zbk where
 at_:zdp
 word:yab
 deriving DecidableEq
def zet(s:zbk):List IV:=[nI s.at_.s,nI s.at_.t,nL cI s.word]
structure T_A2_api_Mealy where
 f0:zab
 f1:zab
 deriving DecidableEq
structure T_learnerref09_Pair where
 S:Int
 T:Int
 Word:yab
 deriving DecidableEq
structure T_api_DNode where
 Leaf:Bool
 Access:yab
 Suffix:yab
 Outs:yaa
 Kids:yab
 deriving DecidableEq
structure T_api_DTree where
 Nodes:List T_api_DNode
 deriving DecidableEq
structure zry where
 Inputs:Int
 Tree:T_api_DTree
 deriving DecidableEq
structure T_treelearn_learner where
 TreeState:zry
 o:zav
 deriving DecidableEq
structure T_analyze_subject where
 h:T_api_Hyp
 o:zav
 w:yab
 states:yab
 outs:yab
 deriving DecidableEq
structure T_treelearn_extension where
 w:yab
 node:Int
 deriving DecidableEq
end
end Go.Proofs.YtkeplokjplkcmaaGreat.Sym
namespace Go.Proofs.YtkeplokjplkcmaaGreat
section
open Go.ChangeShapes Go.WideShapes Go.ChangeAt Go.RowKit
def Tryz.own:ownKnob Tryz.prog.godebug=none:=by kernel_rfl
def Tryz.laidOut:laidOutB Tryz.prog=true:=by kernel_rfl
end
end Go.Proofs.YtkeplokjplkcmaaGreat
namespace Go.Proofs.YtkeplokjplkcmaaGreat.Sym
section
open Go.ChangeShapes Go.WideShapes Go.ChangeAt Go.RowKit Go.Deep
section
variable {H:Type}{enc:TypeId×Value->H}{W:World}{α β:Type}
def bulk_pos(d:DataW H):1<=Rows.uptoBulk d:=by
 cases d with
 |lit l=>cases l<;>simp[Rows.uptoBulk]
 |nil=>simp[Rows.uptoBulk]
 |ptr d=>simp[Rows.uptoBulk]
 |slice elems spare=>simp[Rows.uptoBulk]
 |agg parts=>simp[Rows.uptoBulk]
 |iface t d=>simp[Rows.uptoBulk]
 |map entries=>simp[Rows.uptoBulk]
 |held h=>simp[Rows.uptoBulk]
def bulk_mem{d:DataW H}{l:List (DataW H)}(h:d∈l):Rows.uptoBulk d<=Rows.uptoBulkAll l:=by
 induction l with
 |nil=>cases h
 |cons x r ih =>
  simp only[Rows.uptoBulkAll];rcases yaw.1 h with e|e
  ·subst e;omega
  ·have:=ih e;omega
def zr7(l r:List (DataW H)):Rows.uptoBulkAll (l++r)=Rows.uptoBulkAll l+Rows.uptoBulkAll r:=by
 induction l with
 |nil=>simp[Rows.uptoBulkAll]
 |cons x l ih=>simp only[yc2,Rows.uptoBulkAll,ih];omega
def bulk_length(l:List (DataW H)):l.length<=Rows.uptoBulkAll l:=by
 induction l with
 |nil=>simp[Rows.uptoBulkAll]
 |cons x r ih=>have:=bulk_pos x;simp only[Rows.uptoBulkAll,zkL];omega
def bulk_small{l:List (DataW H)}(hk:Rows.uptoSmall H l=true):Rows.uptoBulkAll l<=1048576:=by
 simpa[Rows.uptoSmall]using hk
def lowS(W:World):Nat->Prop:=λb=>b<W.heap.size
def Opn(W:World)(enc:TypeId×Value->H)(t:TypeId)(c:α->List IV)(sz:α->Nat)(ok:α->Prop):Prop :=
 ∀(fuel:Nat) (cs:List Value) (d:DataW H) (ps:List MemPlace),DataW.trod enc Tryz.prog W 0 (λ_=>true) true fuel t cs=some (d,ps)->Rows.uptoBulk d<=1048576 ->
  ∃x,zic W (lowS W) cs (c x)/\(∀u∈cs,u.oneCell'=true)/\sz x<=Rows.uptoBulk d/\ok x
def sz1{α:Type}(_:α):Nat:=1
def szL(sz:α->Nat)(l:List α):Nat:=(l.map sz).sum+1
def okL(ok:α->Prop)(l:List α):Prop:=∀x∈l,ok x
def okT{α:Type}(_:α):Prop:=True
def opn_int:Opn W enc 3 cI sz1 inR:=by
 intro fuel cs d ps h hd;cases fuel with
 |zero=>simp[DataW.trod]at h
 |succ f =>
  unfold DataW.trod at h;rw[Tryz.underlying3]at h;split at h<;>try (cases h;done)
  all_goals (try (rename_i e;cases e;done))
  rename_i k k' n e;injection e with e
  injection e with e
  subst e;split at h
  ·rename_i hw;injection h with h
   injection h with h1 h2
   subst h1;obtain⟨rfl,hw⟩:=hw;refine⟨n,⟨rfl,λi u x hu hx=>?_⟩,λu hu=>?_,by simp[sz1,Rows.uptoBulk],?_⟩
   ·match i,hu,hx with
    |0,hu,hx =>
     simp at hu hx;subst hu hx;exact .val _
   ·rcases yag.1 hu with rfl;rfl
   ·simp[Lit.wf,IntKind.min,IntKind.max,IntKind.wrap,IntKind.bits,IntKind.signed]at hw;unfold inR;omega
  ·cases h
def opn_elems{t:TypeId}{c:α->List IV}{sz:α->Nat}{ok:α->Prop}{k b o:Nat}(hc:∀x,(c x).length=k)(D:Nat->DataW H):∀(n:Nat),
  (∀i,i<n->∃(x:α) (cs:List Value),(∀j,j<k->W.cell? ⟨b,o+(i*k+j),none⟩=cs[j]?)/\zic W (lowS W) cs (c x)/\(∀u∈cs,u.oneCell'=true)/\sz x<=Rows.uptoBulk (D i)/\ok x) ->
  ∃(xs:List α) (us:List Value),xs.length=n/\us.length=n*k/\(∀(i:Nat) u,us[i]?=some u->W.cell? ⟨b,o+i,none⟩=some u)/\zic W (lowS W) us (xs.map c).flatten/\(∀u∈us,u.oneCell'=true) /\
   (xs.map sz).sum<=Rows.uptoBulkAll ((List.range n).map D)/\∀x∈xs,ok x
 |0,_=>⟨[],[],rfl,by simp,by simp,⟨rfl,by simp⟩,by simp,by simp,by simp⟩
 |n+1,h=>by
  obtain⟨xs,us,h1,h2,h3,h4,h5,h6,h7⟩:=opn_elems (t:=t) hc D n λi hi=>h i (by omega);obtain⟨x,cs,g1,g2,g3,g4,g5⟩:=h n (by omega);have hcl:cs.length=k:=by rw[g2.1,hc]
  have a2:(xs.map c).flatten.length=n*k:=by rw[<- h4.1,h2]
  refine⟨xs++[x],us++cs,by simp[h1],by rw[zkJ,h2,hcl,Nat.add_mul];omega,λi u hu=>?_,⟨?_,λi u y hu hy=>?_⟩,λu hu=>?_,?_,λy hy=>?_⟩
  ·rw[ya1]at hu;split at hu
   ·exact h3 i u hu
   ·rename_i a0;have hj:=(zkI.1 hu).1;have:=g1 (i-us.length) (by omega);rw[hu,show o+(n*k+(i-us.length))=o+i by omega]at this;exact this
  ·rw[ya0,ycq,zkJ,zkJ,h4.1];simp[g2.1]
  ·rw[ya0,ycq,ya1]at hy;rw[ya1]at hu;by_cases a0:i<us.length
   ·rw[if_pos a0]at hu;rw[if_pos (by rw[a2,<- h2];exact a0)]at hy;exact h4.2 i u y hu hy
   ·rw[if_neg a0]at hu;rw[if_neg (by rw[a2,<- h2];exact a0),a2,<- h2]at hy;simp only[yav,ydd,ybu,List.flatten_nil,yb4]at hy;exact g2.2 _ u y hu hy
  ·rcases yam.1 hu with hu|hu
   ·exact h5 u hu
   ·exact g3 u hu
  ·rw[ycs,ya0,ya0,List.sum_append,zr7];simp only[yav,ydd,yfp,List.sum_nil,Rows.uptoBulkAll];omega
  ·rcases yam.1 hy with hy|hy
   ·exact h7 y hy
   ·rcases yag.1 hy with rfl;exact g5
def opn_slice{t e:TypeId}{c:α->List IV}{sz:α->Nat}{ok:α->Prop}{k:Nat}(ht:Tryz.prog.underlying t=some (.slice e))(hk:Tryz.prog.cellsOf e=k)(hk0:0<k)(hc:∀x,(c x).length=k)(O:Opn W enc e c sz ok) :
  Opn W enc t (cL c) (szL sz) (okL ok):=by
 intro fuel cs d ps h hd;rcases open_slice ht h with⟨rfl,hx⟩|⟨a,len,b4,m,n,D,Pl,rfl,_,hl,_,hm,hx,a3⟩
 ·injection hx with a2 b2
  subst a2;refine⟨[],⟨rfl,λi u x hu hx=>?_⟩,λu hu=>?_,by simp[szL,Rows.uptoBulk],λx hx=>by cases hx⟩
  ·match i,hu,hx with
   |0,hu,hx =>
    simp at hu hx;subst hu hx;exact .emp _ _
  ·rcases yag.1 hu with rfl;rfl
 ·injection hx with a2 b2
  subst a2;simp only[if_true]at hm;subst hm
  have a7:Rows.uptoBulkAll ((List.range len).map D)+1<=Rows.uptoBulk (.slice ((List.range len).map D) ((List.range (m-len)).map λj=>D (len+j))):=by
   simp only[Rows.uptoBulk];omega
  have b3:len<=1048576:=by
   have:=bulk_length ((List.range len).map D);simp at this;omega
  by_cases h0:len=0
  ·subst h0;refine⟨[],⟨rfl,λi u x hu hx=>?_⟩,λu hu=>?_,by simp[szL,Rows.uptoBulk],λx hx=>by cases hx⟩
   ·match i,hu,hx with
    |0,hu,hx =>
     simp at hu hx;subst hu hx;exact .emp _ _
   ·rcases yag.1 hu with rfl;rfl
  ·obtain⟨ab,ao,a6⟩:=a;rw[hk]at a3
   have b0:a6=none:=by
    obtain⟨a4,h1,_⟩:=a3 0 (by omega);obtain⟨_,a9,a0⟩:=World.cells?_some h1;have h2:=a0 0 hk0;rw[zkM (by omega)]at h2;unfold World.cell? Addr.add at h2;simp only[ydc,if_true]at h2;cases a6 with
    |none=>rfl
    |some q =>
     simp at h2;split at h2<;>simp at h2
   subst b0
   obtain⟨xs,us,h1,h2,h3,h4,h5,h6,h7⟩:=opn_elems (W:=W) (t:=e) (sz:=sz) (ok:=ok) (b:=ab) (o:=ao) hc D len λi hi=>by
    obtain⟨a4,e1,e2⟩:=a3 i (by omega);obtain⟨_,a9,a0⟩:=World.cells?_some e1;obtain⟨x,r1,r2,r3,r4⟩:=O _ _ _ _ e2 (ycg (bulk_mem (yao.2 ⟨i,yay.2 hi,rfl⟩)) (by omega));refine⟨x,a4,λj hj=>?_,r1,r2,r3,r4⟩;have:=a0 j hj;rw[addr_add,addr_add,ybt]at this;exact this
   have a5:ab<W.heap.size:=by
    have a8:0<us.length:=by rw[h2];exact Nat.mul_pos (by omega) hk0
    exact World.block_lt_of_cell? W _ (h3 0 _ (zkM a8))
   refine⟨xs,⟨rfl,λi u x hu hx=>?_⟩,λu hu=>?_,?_,h7⟩
   ·match i,hu,hx with
    |0,hu,hx =>
     simp at hu hx;subst hu hx;refine .sl ab ao m k len (xs.map c) us (by simp[h1]) (λe he=>by obtain⟨y,_,rfl⟩:=yao.1 he;exact hc y) hl (by omega) a5 h4.1 h5 h3 h4.2
   ·rcases yag.1 hu with rfl;rfl
   ·show(xs.map sz).sum+1<=_;omega
def OpnFs(W:World)(enc:TypeId×Value->H)(fs:List Field)(off len:Nat)(c:α->List IV)(sz:α->Nat)(ok:α->Prop):Prop :=
 ∀(n:Nat) (cs:List Value) (xs:List (DataW H×List MemPlace)),xs.length=fs.length ->
  (∀(i:Nat) f,fs[i]?=some f->DataW.trod enc Tryz.prog W 0 (λ_=>true) true n f.type ((cs.drop f.offset).take (Tryz.prog.cellsOf f.type))=xs[i]?)->Rows.uptoBulkAll (xs.map (·.1))<=1048576 ->
  ∃x,zic W (lowS W) ((cs.drop off).take len) (c x)/\(∀u∈(cs.drop off).take len,u.oneCell'=true)/\sz x<=Rows.uptoBulkAll (xs.map (·.1))/\ok x
def opnFs_nil{off:Nat}:OpnFs W enc [] off 0 (λ_:Unit=>[]) (λ_=>0) okT:=by
 intro n cs xs hx h hb;exact⟨(),⟨by simp,by simp⟩,by simp,yaf _,trivial⟩
def zlk{f:Field}{fs:List Field}{off k len:Nat}{c1:α->List IV}{c2:β->List IV}{s1:α->Nat}{s2:β->Nat}{ok1:α->Prop}{ok2:β->Prop}(ho:f.offset=off)(hk:Tryz.prog.cellsOf f.type=k)
  (O:Opn W enc f.type c1 s1 ok1) (hc:∀x,(c1 x).length=k) (R:OpnFs W enc fs (off+k) len c2 s2 ok2) :
  OpnFs W enc (f::fs) off (k+len) (λp:α×β=>c1 p.1++c2 p.2) (λp=>s1 p.1+s2 p.2) (λp=>ok1 p.1/\ok2 p.2):=by
 intro n cs xs hx h hb
 match xs,hx with
 |x::xs,hx =>
  have e0:=h 0 f rfl;rw[ho,hk]at e0;simp only[yav,Rows.uptoBulkAll]at hb;obtain⟨a,r1,r2,r3,r4⟩:=O n _ x.1 x.2 e0 (by omega)
  obtain⟨b,q1,q2,q3,q4⟩:=R n cs xs (by simpa using hx) (λi g hg=>by
   have:=h (i+1) g (by simpa using hg)
   simpa using this) (by omega)
  have a0:(cs.drop off).take (k+len)=(cs.drop off).take k++(cs.drop (off+k)).take len:=by
   rw[List.take_add,List.drop_drop]
  have a3:((cs.drop off).take k).length=(c1 a).length:=r1.1;refine⟨(a,b),?_,λu hu=>?_,by simp only[yav,Rows.uptoBulkAll];omega,r4,q4⟩
  ·rw[a0];refine⟨by rw[zkJ,zkJ,r1.1,q1.1],λi u y hu hy=>?_⟩;rw[ya1,a3]at hu;rw[ya1]at hy;split at hu
   ·rename_i a2;rw[if_pos a2]at hy;exact r1.2 i u y hu hy
   ·rename_i a2;rw[if_neg a2]at hy;exact q1.2 _ u y hu hy
  ·rw[a0]at hu;rcases yam.1 hu with hu|hu
   ·exact r2 u hu
   ·exact q2 u hu
def zs0{t:TypeId}{fs:Array Field}{len:Nat}{c:α->List IV}{sz:α->Nat}{ok:α->Prop}{c':β->List IV}{sz':β->Nat}{ok':β->Prop}(ht:Tryz.prog.underlying t=some (.struct fs))(hl:Tryz.prog.cellsOf t=len)
  (R:OpnFs W enc fs.toList 0 len c sz ok) (conv:α->β) (hc:∀p,c' (conv p)=c p) (hs:∀p,sz' (conv p)=sz p+1) (ho:∀p,ok p->ok' (conv p)):Opn W enc t c' sz' ok':=by
 intro fuel cs d ps h hd;obtain⟨xs,n,rfl,hx,a0,a3,hf⟩:=DataW.trod_struct ht h;injection hx with a2 a4
 subst a2;simp only[Rows.uptoBulk]at hd;obtain⟨x,r1,r2,r3,r4⟩:=R n cs xs (by rw[a3];simp) (λi f hi=>hf i f (by simpa using hi)) (by omega);rw[hl]at a0;have e:(cs.drop 0).take len=cs:=by rw[yd2,<- a0,ybw]
 rw[e]at r1 r2;refine⟨conv x,by rw[hc];exact r1,r2,?_,ho x r4⟩;rw[hs];simp only[Rows.uptoBulk];omega
def arg_struct{t:TypeId}{fs:Array Field}{v:Value}{d:DataW H}{p:List MemPlace}{base:Nat}{c:α->List IV}{sz:α->Nat}{ok:α->Prop}(ht:Tryz.prog.underlying t=some (.struct fs))(hv:Value.okWide Tryz.prog W .any base t v)
  (h:DataW.Trod enc Tryz.prog W 0 (λ_=>true) true t v d p) (O:Opn W enc t c sz ok) (hb:Rows.uptoBulk d<=1048576):∃x,RepI W (lowS W) v (.agg (c x))/\sz x<=Rows.uptoBulk d/\ok x:=by
 obtain⟨cs,rfl,_⟩:=okWide_struct ht hv;obtain⟨fuel,hf⟩:=h;obtain⟨x,r1,r2,r3,r4⟩:=O fuel cs.toList d p (by simpa[Value.cells]using hf) hb;refine⟨x,?_,r3,r4⟩;have:=RepI.agg (w:=W) (S:=lowS W) cs.toList (c x) r1.1 r2 r1.2;simpa using this
def sp_law{f:FuncId}{W:World}{vs:List Value}{xs:List Arg}(h:Sp Tryz.prog f xs (.im (nB true)))(ha:zdz W (lowS W) vs xs []) :
  Calls Tryz.prog f vs.toArray W λe W'=>e=.returned (.bool true)/\Below W.heap.size W W':=by
 refine(h.2 W (lowS W) vs [] (λb hb=>hb) ha yc4 (λb hb=>by cases hb)).mono ?_;rintro e W' ⟨v,F',rfl,hb,⟨us,F1,F2,e1,ho,_,_⟩,_,_⟩;have e1:us=[v]:=e1;subst e1;refine⟨?_,hb.below λb hb=>by cases hb⟩;obtain⟨F3,F4,⟨hr,_⟩,_⟩:=ho;cases hr;rfl
end
end
section
open Go.RowKit
section
variable {H:Type}{enc:TypeId×Value->H}{W:World}
def opn_0:Opn W enc 60 (cL cI) (szL sz1) (okL inR):=opn_slice (k:=1) Tryz.underlying60 (by kernel_rfl) (by decide) (λ_=>rfl) opn_int
def zd6(x:zag):Nat:=((szL sz1) x.In+((szL sz1) x.Out+0))+1
def zk1(x:zag):Prop:=(okL inR) x.In/\(okL inR) x.Out
def opn_api_Trace:Opn W enc 70 zau zd6 zk1 :=
 zs0 (len:=2) Tryz.underlying70 (by kernel_rfl) (zlk (k:=1) rfl (by kernel_rfl) opn_0 (λ_=>rfl) (zlk (k:=1) rfl (by kernel_rfl) opn_0 (λ_=>rfl) opnFs_nil)) (λp=>⟨p.1,p.2.1⟩) (λ_=>rfl) (λ_=>rfl) (λp h=>⟨h.1,h.2.1⟩)
def opn_4:Opn W enc 33 (cL zau) (szL zd6) (okL zk1):=opn_slice (k:=2) Tryz.underlying33 (by kernel_rfl) (by decide) (λ_=>rfl) opn_api_Trace
def zln(x:zav):Nat:=(sz1 x.Inputs+((szL zd6) x.Traces+0))+1
def zs9(x:zav):Prop:=inR x.Inputs/\(okL zk1) x.Traces
def opn_api_Obs:Opn W enc 35 zba zln zs9 :=
 zs0 (len:=2) Tryz.underlying35 (by kernel_rfl) (zlk (k:=1) rfl (by kernel_rfl) opn_int (λ_=>rfl) (zlk (k:=1) rfl (by kernel_rfl) opn_4 (λ_=>rfl) opnFs_nil)) (λp=>⟨p.1,p.2.1⟩) (λ_=>rfl) (λ_=>rfl) (λp h=>⟨h.1,h.2.1⟩)
end
end
end Go.Proofs.YtkeplokjplkcmaaGreat.Sym
namespace Go.Proofs.YtkeplokjplkcmaaGreat
section
def zbg:List Int->List Int->Nat
 |x::xs,y::ys=>if x=y then zbg xs ys+1 else 0
 |_,_=>0
def zjg:∀xs ys:List Int,zbg xs ys<=xs.length/\zbg xs ys<=ys.length
 |[],_=>by simp[zbg]
 |_::_,[]=>by simp[zbg]
 |x::xs,y::ys=>by
  have h:=zjg xs ys;simp only[zbg];split<;>simp<;>omega
def zoa{xs ys:List Int}{k:Nat}(h:xs.length<=k\/ys.length<=k):zbg (xs.drop k) (ys.drop k)=0:=by
 rcases h with h|h
 ·rw[List.drop_eq_nil_of_le h];simp[zbg]
 ·rw[List.drop_eq_nil_of_le h];cases xs.drop k<;>simp[zbg]
def zj2:∀xs:List Int,zbg xs xs=xs.length
 |[]=>rfl
 |x::xs=>by simp[zbg,zj2 xs]
def zqo:∀xs ys:List Int,zbg xs ys=xs.length->zbg xs ys=ys.length->xs=ys
 |[],[],_,_=>rfl
 |[],y::ys,_,h=>by simp[zbg]at h
 |x::xs,[],h,_=>by simp[zbg]at h
 |x::xs,y::ys,h1,h2=>by
  simp only[zbg]at h1 h2;split at h1
  ·rename_i he;subst he;simp at h1 h2;rw[zqo xs ys h1 h2]
  ·simp at h1
def same_iff(xs ys:List Int):(xs.length=ys.length/\zbg xs ys=xs.length)↔xs=ys:=by
 constructor
 ·rintro⟨h1,h2⟩;exact zqo xs ys h2 (by omega)
 ·rintro rfl;exact⟨rfl,zj2 xs⟩
def zlt:∀w p:List Int,zbg w p=p.length↔p <+: w
 |[],[]=>by simp[zbg]
 |[],y::ys=>by simp[zbg]
 |x::xs,[]=>by simp[zbg]
 |x::xs,y::ys=>by
  simp only[zbg,List.length_cons,List.cons_prefix_cons];by_cases h:x=y
  ·subst h;simp[zlt xs ys]
  ·rw[if_neg h];constructor
   ·intro h';omega
   ·rintro⟨rfl,_⟩;exact absurd rfl h
def lexI:List Int->List Int->Int
 |[],[]=>0
 |[],_::_=>-1
 |_::_,[]=>1
 |x::xs,y::ys=>if x<y then -1 else if y<x then 1 else lexI xs ys
def cmpW(a b:List Int):Int:=if a.length<b.length then -1 else if b.length<a.length then 1 else lexI a b
def zjo:∀a b:List Int,lexI a b=-1\/lexI a b=0\/lexI a b=1
 |[],[]=>by simp[lexI]
 |[],_::_=>by simp[lexI]
 |_::_,[]=>by simp[lexI]
 |x::xs,y::ys=>by
  simp only[lexI];split
  ·simp
  ·split
   ·simp
   ·exact zjo xs ys
def zq8:∀a b:List Int,lexI a b=0↔a=b
 |[],[]=>by simp[lexI]
 |[],_::_=>by simp[lexI]
 |_::_,[]=>by simp[lexI]
 |x::xs,y::ys=>by
  simp only[lexI,List.cons.injEq];by_cases h1:x<y
  ·rw[if_pos h1];constructor
   ·intro h;omega
   ·rintro⟨rfl,_⟩;omega
  ·rw[if_neg h1];by_cases h2:y<x
   ·rw[if_pos h2];constructor
    ·intro h;omega
    ·rintro⟨rfl,_⟩;omega
   ·rw[if_neg h2,zq8 xs ys];constructor
    ·intro h;exact⟨by omega,h⟩
    ·rintro⟨_,h⟩;exact h
def zqd:∀a b:List Int,lexI b a=- lexI a b
 |[],[]=>by simp[lexI]
 |[],_::_=>by simp[lexI]
 |_::_,[]=>by simp[lexI]
 |x::xs,y::ys=>by
  simp only[lexI];by_cases h1:x<y
  ·rw[if_neg (show ¬y<x by omega),if_pos h1,if_pos h1];simp
  ·by_cases h2:y<x
   ·rw[if_pos h2,if_neg h1,if_pos h2]
   ·rw[if_neg h2,if_neg h1,if_neg h1,if_neg h2];exact zqd xs ys
def zn1:∀a b c:List Int,lexI a b=-1->lexI b c=-1->lexI a c=-1
 |[],[],_,h,_=>by simp[lexI]at h
 |[],_::_,[],_,h=>by simp[lexI]at h
 |[],_::_,_::_,_,_=>by simp[lexI]
 |_::_,[],_,h,_=>by simp[lexI]at h
 |_::_,_::_,[],_,h=>by simp[lexI]at h
 |x::xs,y::ys,z::zs,h1,h2=>by
  simp only[lexI]at h1 h2 ⊢;by_cases p:x<y
  ·by_cases q:y<z
   ·rw[if_pos (by omega)]
   ·rw[if_neg q]at h2;by_cases r:z<y
    ·rw[if_pos r]at h2;omega
    ·rw[if_pos (by omega)]
  ·rw[if_neg p]at h1;by_cases p':y<x
   ·rw[if_pos p']at h1;omega
   ·rw[if_neg p']at h1;by_cases q:y<z
    ·rw[if_pos (by omega)]
    ·rw[if_neg q]at h2;by_cases r:z<y
     ·rw[if_pos r]at h2;omega
     ·rw[if_neg r]at h2;rw[if_neg (by omega),if_neg (by omega)];exact zn1 xs ys zs h1 h2
def zrx:∀a b:List Int,lexI a b =
  if zbg a b=a.length/\zbg a b=b.length then 0 else
  if zbg a b=a.length\/(zbg a b<b.length/\a.getD (zbg a b) 0<b.getD (zbg a b) 0) then -1 else 1
 |[],[]=>by simp[lexI,zbg]
 |[],_::_=>by simp[lexI,zbg]
 |_::_,[]=>by simp[lexI,zbg]
 |x::xs,y::ys=>by
  have ih:=zrx xs ys;simp only[lexI,zbg];by_cases h:x=y
  ·subst h;rw[if_neg (by omega),if_neg (by omega),ih];simp
  ·by_cases h1:x<y
   ·simp[h,h1]
   ·have h2:y<x:=by omega
    simp[h,h1,h2]
def zlp(a b:List Int):cmpW a b=-1\/cmpW a b=0\/cmpW a b=1:=by
 unfold cmpW;split
 ·simp
 ·split
  ·simp
  ·exact zjo a b
def zrs(a b:List Int):cmpW a b=0↔a=b:=by
 unfold cmpW;by_cases h1:a.length<b.length
 ·rw[if_pos h1];constructor
  ·intro h;omega
  ·rintro rfl;omega
 ·rw[if_neg h1];by_cases h2:b.length<a.length
  ·rw[if_pos h2];constructor
   ·intro h;omega
   ·rintro rfl;omega
  ·rw[if_neg h2,zq8]
def zjt(a:List Int):cmpW a a=0:=(zrs a a).2 rfl
def zr0(a b:List Int):cmpW b a=- cmpW a b:=by
 unfold cmpW;by_cases h1:a.length<b.length
 ·rw[if_neg (by omega),if_pos h1,if_pos h1];simp
 ·by_cases h2:b.length<a.length
  ·rw[if_pos h2,if_neg h1,if_pos h2]
  ·rw[if_neg h2,if_neg h1,if_neg h1,if_neg h2];exact zqd a b
def zji(a b c:List Int)(h1:cmpW a b=-1)(h2:cmpW b c=-1):cmpW a c=-1:=by
 unfold cmpW at *;by_cases p:a.length<b.length
 ·by_cases q:b.length<c.length
  ·rw[if_pos (by omega)]
  ·rw[if_neg q]at h2;by_cases r:c.length<b.length
   ·rw[if_pos r]at h2;omega
   ·rw[if_pos (by omega)]
 ·rw[if_neg p]at h1;by_cases p':b.length<a.length
  ·rw[if_pos p']at h1;omega
  ·rw[if_neg p']at h1;by_cases q:b.length<c.length
   ·rw[if_pos (by omega)]
   ·rw[if_neg q]at h2;by_cases r:c.length<b.length
    ·rw[if_pos r]at h2;omega
    ·rw[if_neg r]at h2;rw[if_neg (by omega),if_neg (by omega)];exact zn1 a b c h1 h2
def Asc(l:List (List Int)):Prop:=l.Pairwise λa b=>cmpW a b=-1
def zcp(l:List (List Int))(w:List Int):Nat:=(l.takeWhile λx=>cmpW x w==-1).length
def placeL_le(l:List (List Int))(w:List Int):zcp l w<=l.length:=by
 unfold zcp;exact(List.takeWhile_sublist _).length_le
def zi7(xs:List Int)(inputs:Int):Int :=
 if 1<=inputs/\inputs<=1024 then if 1024<xs.length then 3 else if xs.all λa=>decide (0<=a/\a<inputs) then 0 else 1 else 2
def Asc.get{l:List (List Int)}(h:Asc l){i j:Nat}{x y:List Int}(hij:i<j)(hx:l[i]?=some x)(hy:l[j]?=some y):cmpW x y=-1:=by
 have hj:j<l.length:=(List.getElem?_eq_some_iff.1 hy).1;have h1:=List.pairwise_iff_getElem.1 h i j (by omega) hj hij;rw[List.getElem?_eq_getElem (by omega)]at hx;rw[List.getElem?_eq_getElem hj]at hy;injection hx with hx
 injection hy with hy
 rw[<- hx,<- hy];exact h1
def insW(l:List (List Int))(x:List Int):List (List Int):=if x∈l then l else l.take (zcp l x)++x::l.drop (zcp l x)
def zj7:∀(l:List (List Int)) (w:List Int),(∀i x,i<zcp l w->l[i]?=some x->cmpW x w=-1)/\(∀x,l[zcp l w]?=some x->cmpW x w≠-1)
 |[],w=>by simp[zcp]
 |y::l,w=>by
  have ih:=zj7 l w;by_cases hy:cmpW y w=-1
  ·have e:zcp (y::l) w=zcp l w+1:=by simp[zcp,hy]
   rw[e];refine⟨λi x hi hx=>?_,λx hx=>ih.2 x (by simpa using hx)⟩;cases i with
   |zero=>simp at hx;rw[<- hx];exact hy
   |succ i=>exact ih.1 i x (by omega) (by simpa using hx)
  ·have e:zcp (y::l) w=0:=by simp[zcp,hy]
   rw[e];refine⟨λi x hi=>absurd hi (by omega),λx hx=>?_⟩;simp at hx;rw[<- hx];exact hy
def Asc.mem_place{l:List (List Int)}(h:Asc l)(w:List Int):w∈l↔l[zcp l w]?=some w:=by
 constructor
 ·intro hm;obtain⟨i,hi⟩:=List.getElem?_of_mem hm;have hs:=zj7 l w
  have h1:¬i<zcp l w:=λa0=>by
   have:=hs.1 i w a0 hi;rw[zjt]at this;omega
  by_cases h2:i=zcp l w
  ·rw[<- h2];exact hi
  ·have a2:i<l.length:=(List.getElem?_eq_some_iff.1 hi).1;have hg:l[zcp l w]?=some l[zcp l w]:=List.getElem?_eq_getElem (by omega);have:=h.get (by omega) hg hi;exact absurd this (hs.2 _ hg)
 ·intro h2;exact List.mem_of_getElem? h2
def mem_insW(l:List (List Int))(x y:List Int):y∈insW l x↔y∈l\/y=x:=by
 unfold insW;split
 ·rename_i h;constructor
  ·exact Or.inl
  ·rintro (h'|rfl)
   ·exact h'
   ·exact h
 ·have e:y∈l↔y∈l.take (zcp l x)\/y∈l.drop (zcp l x):=by
   rw[<- List.mem_append,List.take_append_drop]
  rw[List.mem_append,List.mem_cons,e];constructor
  ·rintro (h|h|h)
   ·exact Or.inl (Or.inl h)
   ·exact Or.inr h
   ·exact Or.inl (Or.inr h)
  ·rintro ((h|h)|h)
   ·exact Or.inl h
   ·exact Or.inr (Or.inr h)
   ·exact Or.inr (Or.inl h)
def Asc.insW{l:List (List Int)}(h:Asc l)(x:List Int):Asc (insW l x):=by
 unfold Go.Proofs.YtkeplokjplkcmaaGreat.insW;split
 ·exact h
 ·rename_i hm;have hs:=zj7 l x
  have a2:∀a∈l.take (zcp l x),cmpW a x=-1:=λa ha=>by
   obtain⟨i,hi⟩:=List.getElem?_of_mem ha;rw[List.getElem?_take]at hi;split at hi
   ·rename_i a4;exact hs.1 i a a4 hi
   ·cases hi
  have a0:∀b∈l.drop (zcp l x),cmpW x b=-1:=λb hb=>by
   obtain⟨i,hi⟩:=List.getElem?_of_mem hb;rw[List.getElem?_drop]at hi;have a5:zcp l x+i<l.length:=(List.getElem?_eq_some_iff.1 hi).1;have hg:l[zcp l x]?=some l[zcp l x]:=List.getElem?_eq_getElem (by omega);have h0:=hs.2 _ hg;have a6:cmpW l[zcp l x] x≠0:=λe=>hm (by rw[<- (zrs _ _).1 e];exact List.getElem_mem _);have hr:=zlp l[zcp l x] x;have h1:cmpW x l[zcp l x]=-1:=by rw[zr0];omega
   by_cases a3:i=0
   ·subst a3;rw[Nat.add_zero,hg]at hi;injection hi with hi
    rw[<- hi];exact h1
   ·exact zji _ _ _ h1 (h.get (by omega) hg hi)
  unfold Asc;rw[List.pairwise_append,List.pairwise_cons];refine⟨List.Pairwise.sublist (List.take_sublist _ _) h,⟨a0,List.Pairwise.sublist (List.drop_sublist _ _) h⟩,λa ha b hb=>?_⟩;rcases List.mem_cons.1 hb with rfl|hb
  ·exact a2 a ha
  ·exact zji _ _ _ (a2 a ha) (a0 b hb)
def insW_length(l:List (List Int))(x:List Int):(insW l x).length<=l.length+1:=by
 unfold insW;split
 ·omega
 ·simp;omega
def asc_nil:Asc []:=List.Pairwise.nil
def zoi:∀{l m:List (List Int)},Asc l->Asc m->(∀x,x∈l↔x∈m)->l=m
 |[],[],_,_,_=>rfl
 |[],y::m,_,_,h=>absurd ((h y).2 (by simp)) (by simp)
 |x::l,[],_,_,h=>absurd ((h x).1 (by simp)) (by simp)
 |x::l,y::m,hl,hm,h=>by
  have h1:=List.pairwise_cons.1 hl;have h2:=List.pairwise_cons.1 hm
  have hxy:x=y:=by
   rcases List.mem_cons.1 ((h x).1 (by simp)) with e|hx
   ·exact e
   ·rcases List.mem_cons.1 ((h y).2 (by simp)) with e|hy
    ·exact e.symm
    ·have a:=h2.1 x hx;have b:=h1.1 y hy;rw[zr0]at a;omega
  subst hxy
  have a0:∀{k:List (List Int)},(∀b∈k,cmpW x b=-1)->x∉k:=λhk hx=>by
   have:=hk x hx;rw[zjt]at this;omega
  rw[zoi h1.2 h2.2 λz=>?_];have:=h z;simp only[List.mem_cons]at this;constructor
  ·intro hz;rcases this.1 (Or.inr hz) with rfl|h'
   ·exact absurd hz (a0 h1.1)
   ·exact h'
  ·intro hz;rcases this.2 (Or.inr hz) with rfl|h'
   ·exact absurd hz (a0 h2.1)
   ·exact h'
def sortW(l:List (List Int)):List (List Int):=l.foldl insW []
def ztg(l:List (List Int))(x:List Int):sortW (l++[x])=insW (sortW l) x:=by simp[sortW]
def zlr:∀(l a:List (List Int)),Asc a->Asc (l.foldl insW a)/\(∀x,x∈l.foldl insW a↔x∈a\/x∈l)/\(l.foldl insW a).length<=a.length+l.length
 |[],a,h=>⟨h,λx=>by simp,by simp⟩
 |y::l,a,h=>by
  obtain⟨h1,h2,h3⟩:=zlr l (insW a y) (h.insW y);refine⟨h1,λx=>?_,?_⟩
  ·rw[List.foldl_cons,h2,mem_insW,List.mem_cons,or_assoc]
  ·have:=insW_length a y;rw[List.foldl_cons,List.length_cons];omega
def zer(l:List (List Int)):Asc (sortW l):=(zlr l [] asc_nil).1
def zdu(l:List (List Int))(x:List Int):x∈sortW l↔x∈l:=by
 rw[sortW,(zlr l [] asc_nil).2.1 x];simp
def sortW_length(l:List (List Int)):(sortW l).length<=l.length:=by
 have:=(zlr l [] asc_nil).2.2;simpa[sortW]using this
def stage{α:Type}(us:List α)(z:α)(i:Nat):List α:=us.take i++z::us.drop i
def stage_end{α:Type}(us:List α)(z:α):stage us z us.length=us++[z]:=by simp[stage]
def stage_at{α:Type}{us:List α}{z:α}{i:Nat}(h:i<=us.length):(stage us z i)[i]?=some z:=by
 simp[stage,List.getElem?_append,Nat.min_eq_left h]
def stage_before{α:Type}{us:List α}{z:α}{i j:Nat}(h:j<i)(h2:i<=us.length):(stage us z i)[j]?=us[j]?:=by
 rw[stage,List.getElem?_append,if_pos (by simp;omega),List.getElem?_take,if_pos h]
def stage_set{α:Type}{us:List α}{z u:α}{i:Nat}(h:i<=us.length):(stage us z i).set i u=stage us u i:=by
 rw[stage,List.set_append,if_neg (by simp;omega)];have:i-(us.take i).length=0:=by simp;omega
 rw[this];rfl
def stage_down{α:Type}{us:List α}{u:α}{j:Nat}(h:us[j]?=some u):stage us u (j+1)=stage us u j:=by
 obtain⟨hj,e⟩:=List.getElem?_eq_some_iff.1 h;unfold stage;rw[List.take_add_one,h,List.drop_eq_getElem_cons hj,e];simp
end
section
open Go.RowKit
def Keeps(w w':World):Prop:=∀p u,w.cell? p=some u->w'.cell? p=some u
def zgm{α:Type}(w:World)(R:Value->α->Prop)(A:Option Addr)(n c:Nat)(l:List α):Prop :=
 l.length=n/\n<=c/\n<=17592186044416 /\
  (0<n->∃b o,A=some ⟨b,o,none⟩/\∀i x,l[i]?=some x->∃u,w.cell? ⟨b,o+i,none⟩=some u/\R u x)
def znn(u:Value)(x:Int):Prop:=u=.int .i64 x
section
variable {α:Type}{w w':World}{R R':Value->α->Prop}{A:Option Addr}{n c k:Nat}{l:List α}
def zgm.len(h:zgm w R A n c l):l.length=n:=h.1
def zgm.small(h:zgm w R A n c l):n<=17592186044416:=h.2.2.1
def zgm.keep(h:zgm w R A n c l)(hk:Keeps w w')(hR:∀u x,R u x->R' u x):zgm w' R' A n c l :=
 ⟨h.1,h.2.1,h.2.2.1,λhn=>by
  obtain⟨b,o,e,hc⟩:=h.2.2.2 hn
  refine⟨b,o,e,λi x hx=>?_⟩
  obtain⟨u,hu,hr⟩:=hc i x hx
  exact⟨u,hk _ _ hu,hR _ _ hr⟩⟩
def zgm.at_(h:zgm w R A n c l)(hk:k<n):∃b o u x,A=some ⟨b,o,none⟩/\l[k]?=some x/\w.cell? ⟨b,o+k,none⟩=some u/\R u x:=by
 obtain⟨b,o,e,hc⟩:=h.2.2.2 (by omega);have hl:k<l.length:=by rw[h.1];exact hk
 obtain⟨u,hu,hr⟩:=hc k l[k] (List.getElem?_eq_getElem hl);exact⟨b,o,u,l[k],e,List.getElem?_eq_getElem hl,hu,hr⟩
end
def zgm.int_at{w:World}{A:Option Addr}{n c k:Nat}{xs:List Int}(h:zgm w znn A n c xs)(hk:k<n) :
  ∃b o x,A=some ⟨b,o,none⟩/\xs[k]?=some x/\w.cell? ⟨b,o+k,none⟩=some (.int .i64 x):=by
 obtain⟨b,o,u,x,e,hx,hu,rfl⟩:=h.at_ hk;exact⟨b,o,x,e,hx,hu⟩
def zi2{k:IntKind}{a b:Int}(h:a=b):Ending.returned (.int k a)=.returned (.int k b):=by rw[h]
def zgm.kept{α:Type}{w w':World}{R:Value->α->Prop}{A:Option Addr}{n c:Nat}{l:List α}(h:zgm w R A n c l)(hk:Keeps w w'):zgm w' R A n c l:=h.keep hk λ_ _ h=>h
def zee{α:Type}{l:List α}{k:Nat}{x:α}(hl:l[k]?=some x):l.take (k+1)=l.take k++[x]:=by
 rw[List.take_add_one,hl];rfl
def ziq{α:Type}{l:List α}{k:Nat}{x d:α}(h:l[k]?=some x):l.getD k d=x:=by simp[List.getD_eq_getElem?_getD,h]
end
section
open Go.RowKit
def Tryz.infoInt:(Tryz.prog.info? 3).map (λi=>(i.zero,i.size,i.bytes))=some (some (.int .i64 0),1,8):=by kernel_rfl
def Tryz.infoWord:(Tryz.prog.info? 60).map (λi=>(i.zero,i.size,i.bytes))=some (some (.slice none 0 0),1,24):=by kernel_rfl
def addr_add(b o j:Nat):(⟨b,o,none⟩:Addr).add j=⟨b,o+j,none⟩:=by
 unfold Addr.add;split
 ·rename_i h;subst h;rfl
 ·rfl
def Src(w:World)(A:Option Addr)(m:Nat)(news:List Value):Prop :=
 news.length=m/\(0<m->∃b o,A=some ⟨b,o,none⟩/\∀j u,news[j]?=some u->w.cell? ⟨b,o+j,none⟩=some u)
section
variable {P:Program}{w:World}
end
def zf3{w w':World}(hg:w.grownBy w' none):Keeps w w':=λ_ _ hu=>hg.cell hu (by simp)
def zl7{w w':World}{row:Option Nat}(hg:w.grownBy w' row){B:Nat}(hB:B<=w.heap.size)(hr:∀g,row=some g->B<=g):Below B w w':=(Below.refl B w).grown hg hB hr
end
end Go.Proofs.YtkeplokjplkcmaaGreat
namespace Go.Proofs.YtkeplokjplkcmaaGreat.Sym
section
open Go.RowKit
section
variable {P:Program}{w:World}
def zh0{ops:Array Oper}{rest:List Oper}{o:Oper}{a:Act}{Q:Exit->Act->World->Prop}(hgd:o.guard=none)(s x:Operand)(t:TypeId)
  (ho:o.op=.call { callee:=.builtin .append,args:=#[s,x],argTypes:=#[t,t] })
  (base:Nat) (e:TypeId) (i:TypeInfo) (z:Value) (size bytes:Nat) (ht:P.underlying t=some (.slice e)) (hi:P.info? e=some i) (hz:i.zero=some z)
  (hsize:i.size=size) (hby:i.bytes=bytes) (hzs:z.cells.size=size) (hsz:0<size) (v:Value) (n:Nat) (xs:List Value) (hs:a.eval s=v) (hown:w.ownsRow base e size v n xs)
  (A:Option Addr) (m c:Nat) (news:List Value) (hx:a.eval x=.slice A m c) (hl:news.length=m*size) (hsrc:0<m->∃b q,A=some ⟨b,q,none⟩/\∀(j:Nat) u,news[j]?=some u->w.cell? ⟨b,q+j,none⟩=some u) (h1:∀u∈news,u.oneCell'=true)
  (a2:n+m<=maxLen) (hbytes:(n+m)*bytes<=140737488355328) (hbase:base<=w.heap.size)
  (h:∀v' w',w'.ownsRow base e size v' (n+m) (xs++news)->w.grownBy w' v.ownBlock->(v'.ownBlock=v.ownBlock\/v'.ownBlock=some w.heap.size)->wpList P ops Q rest (a.put o.dst v') w') :
  wpList P ops Q (o::rest) a w:=by
 refine wpList_plain hgd λ_ hK=>?_;obtain⟨v',w',a0,h2,h3,h4⟩:=zfj (P:=P) base t o.type e i z size bytes ht hi hz hsize hby hzs hsz v n xs hown A m c news hl hsrc h1 a2 hbytes hbase;unfold Oper.wp execOp;simp only[ho,resolve,invoke,builtin,Sem.run_bind,Sem.run_pure,Result.andThen_ok,yeo,yav,ydd,hs,hx,a0];exact hK _ _ (h v' w' h2 h3 h4)
end
def zn6{a b c:World}{row row':Option Nat}(h:a.grownBy b row)(k:b.grownBy c row')(hr:row'=row\/∀g,row'=some g->a.heap.size<=g):a.grownBy c row :=
 ⟨k.os.trans h.os,k.tape.trans h.tape,k.output.trans h.output,ycg h.size k.size,λi hi hne =>
  (k.block i (yct hi h.size) (by
   rcases hr with e|e
   ·rw[e];exact hne
   ·intro he
    have:=e i he.symm
    omega)).trans (h.block i hi hne)⟩
def zmv(t:TypeId)(k n:Nat)(us:List Value)(w:World)(e:Ending)(w':World):Prop :=
 ∃v',e=.returned v'/\w'.ownsRow w.heap.size t k v' n us/\Below w.heap.size w w'
def zkw(w:World)(t:TypeId)(k:Nat):(w.alloc (.cells #[] t)).ownsRow w.heap.size t k (.slice (some ⟨w.heap.size,0,none⟩) 0 0) 0 []:=by
 refine⟨by simp,.inr ⟨w.heap.size,0,#[],rfl,yaq _,?_,yaf _,by unfold maxLen;omega,by simp,by simp⟩⟩;exact heap_alloc_new w _
def zmc{g:FuncId}{t:TypeId}{k by_:Nat}(he:∀args w,(callFunc g args).run Tryz.prog w=.ok (.enter g args) w)(hk0:0<k)
  (h:∀(w:World) (A:Option Addr) (n c:Nat) (us:List Value),us.length=n*k->(0<n->∃b q,A=some ⟨b,q,none⟩/\∀(j:Nat) u,us[j]?=some u->w.cell? ⟨b,q+j,none⟩=some u) ->
   (∀u∈us,u.oneCell'=true)->n<=17592186044416->n*by_<=140737488355328->Calls Tryz.prog g #[.slice A n c] w (zmv t k n us w))
  {es:List (List IV)} (hk:∀e∈es,e.length=k) (hc:za5 es.length by_):Sp Tryz.prog g [.im (.sl es)] (.row t k es):=by
 refine⟨he,λw S vs F hS hv hn hF=>?_⟩
 match vs,hv with
 |[v],⟨F1,F2,⟨h3,e1⟩,h5,e3⟩ =>
  have h5:F2=[]:=h5;subst e1 h5 e3;obtain⟨A,c,us,rfl,hl,h1,a0,a3,hr⟩:=zp8 h3 hk;have a6:us.length=es.length*k:=by rw[hl,zbx hk]
  refine(h w A es.length c us a6 a3 h1 a0 hc.1).mono ?_;rintro e w' ⟨v',rfl,ho,hb⟩
  have a4:w'.ownsRow 0 t k v' es.length us:=by
   refine⟨ho.1,?_⟩;rcases ho.2 with h6|⟨g1,cap,cur,k1,_,k3⟩
   ·exact .inl h6
   ·exact .inr ⟨g1,cap,cur,k1,yaf _,k3⟩
  have a7:=ho.lt
  have a5:∀b∈(zb3 v').toList,w.heap.size<=b/\b<w'.heap.size:=λb hb=>by
   refine a7 b ?_;rw[zg1 a4];simpa using hb
  refine⟨v',(zb3 v').toList,rfl,.of hb,⟨[v'],(zb3 v').toList,[],rfl,⟨(zb3 v').toList,[],⟨row_one a4,[],⟨us,hk0,hk,a0,a4,hl,h1,λi u x hu hx=>?_⟩,rfl⟩,rfl,by simp⟩,rfl,by simp⟩,?_,λb hb=>⟨.inl (a5 b hb).1,(a5 b hb).2⟩⟩
  ·have k1:∀b,S b->(S b\/w.heap.size<=b\/b∈[])/\b<w'.heap.size/\b∉(zb3 v').toList:=λb a2=>⟨.inl a2,yct (hS b a2) hb.size,λhm=>by
    have h1:=(a5 b hm).1
    have h2:=hS b a2
    omega⟩
   have k2:∀(p:Addr) u,S p.block->w.cell? p=some u->w'.cell? p=some u:=λp u hp hu=>by
    have h6:=hb.block p.block (hS _ hp)
    have h7:w'.cell? p=w.cell? p:=by
     unfold World.cell?;rw[h6]
    rw[h7];exact hu
   exact(hr i u x hu hx).mono k1 k2
  ·cases zb3 v'<;>simp
end
section
open Go.RowKit
def Tryz.infoC_int:(Tryz.prog.info? 3).map (λi=>(i.zero,i.size,i.bytes))=some (some (.int .i64 0),1,8):=by kernel_rfl
set_option maxRecDepth 100000 in
set_option maxHeartbeats 400000 in
def clone_int(w:World)(A:Option Addr)(n c:Nat)(us:List Value)(hl:us.length=n*1)(hs:0<n->∃b q,A=some ⟨b,q,none⟩/\∀(j:Nat) u,us[j]?=some u->w.cell? ⟨b,q+j,none⟩=some u)
  (h1:∀u∈us,u.oneCell'=true) (hn:n<=17592186044416) (hby:n*8<=140737488355328):Calls Tryz.prog 121 #[.slice A n c] w (zmv 3 1 n us w):=by
 obtain⟨j0,ji,b2,b3,a5⟩:=info_parts Tryz.infoC_int;have b4:=Lib.run_eql_slice_nil (P:=Tryz.prog) w 60 3 A n c 0 0 Tryz.underlying60;cases A with
 |none =>
  have h0:n=0:=by
   rcases ycb n with h|h
   ·exact h
   ·obtain⟨b,q,e,_⟩:=hs h;cases e
  subst h0;have a3:us=[]:=yaz (by omega);have HX:=Lib.hid a3;clear a3 hs hl h1
  go_enter Tryz.func121,Tryz.ntmps121
  go_wp2
  go_ret
  rw[HX.out];exact⟨_,rfl,World.ownsRow_nil _ _ _ _,Below.refl _ _⟩
 |some a =>
  have a2:∀o,0<n->∃b q,some a=some ⟨b,q,none⟩/\∀(j:Nat) u,us[j]?=some u->(w.alloc o).cell? ⟨b,q+j,none⟩=some u:=λo h=>by
   obtain⟨b,q,e,hc⟩:=hs h;exact⟨b,q,e,λj u hu=>zf3 (World.grownBy_alloc w o none) _ _ (hc j u hu)⟩
  have a6:0+n<=maxLen:=by unfold maxLen;omega
  have a7:(0+n)*8<=140737488355328:=by omega
  have a4:∀o,w.heap.size<=(w.alloc o).heap.size:=λo=>by simp
  have a9:=Lib.hid hl;clear hs
  go_enter Tryz.func121,Tryz.ntmps121
  go_wp2_with (at_builtin;refine zh0 rfl (.tmp 5) (.tmp 6) 60 rfl w.heap.size 3 j0 (.int .i64 0) 1 8 Tryz.underlying60 ji b2 b3 a5 rfl (by decide) (.slice (some ⟨w.heap.size,0,none⟩) 0 0) 0 _ rfl (zkw _ _ _) _ _ _ _ rfl a9.out (a2 _) h1 a6 a7 (a4 _) ?_;intro v1 w1 a0 b0 b5)
  go_ret
  have a8:w.grownBy w1 none:=zn6 (World.grownBy_alloc w _ none) b0 (.inr λg e=>by
   have:some w.heap.size=some g:=e
   injection this with this
   omega)
  exact⟨v1,rfl,by simpa using a0,zl7 a8 (yaq _) (λg e=>by cases e)⟩
def Tryz.infoC_words:(Tryz.prog.info? 60).map (λi=>(i.zero,i.size,i.bytes))=some (some (.slice none 0 0),1,24):=by kernel_rfl
set_option maxRecDepth 100000 in
set_option maxHeartbeats 400000 in
def clone_words(w:World)(A:Option Addr)(n c:Nat)(us:List Value)(hl:us.length=n*1)(hs:0<n->∃b q,A=some ⟨b,q,none⟩/\∀(j:Nat) u,us[j]?=some u->w.cell? ⟨b,q+j,none⟩=some u)
  (h1:∀u∈us,u.oneCell'=true) (hn:n<=17592186044416) (hby:n*24<=140737488355328):Calls Tryz.prog 148 #[.slice A n c] w (zmv 60 1 n us w):=by
 obtain⟨j0,ji,b2,b3,a5⟩:=info_parts Tryz.infoC_words;have b4:=Lib.run_eql_slice_nil (P:=Tryz.prog) w 22 60 A n c 0 0 Tryz.underlying22;cases A with
 |none =>
  have h0:n=0:=by
   rcases ycb n with h|h
   ·exact h
   ·obtain⟨b,q,e,_⟩:=hs h;cases e
  subst h0;have a3:us=[]:=yaz (by omega);have HX:=Lib.hid a3;clear a3 hs hl h1
  go_enter Tryz.func148,Tryz.ntmps148
  go_wp2
  go_ret
  rw[HX.out];exact⟨_,rfl,World.ownsRow_nil _ _ _ _,Below.refl _ _⟩
 |some a =>
  have a2:∀o,0<n->∃b q,some a=some ⟨b,q,none⟩/\∀(j:Nat) u,us[j]?=some u->(w.alloc o).cell? ⟨b,q+j,none⟩=some u:=λo h=>by
   obtain⟨b,q,e,hc⟩:=hs h;exact⟨b,q,e,λj u hu=>zf3 (World.grownBy_alloc w o none) _ _ (hc j u hu)⟩
  have a6:0+n<=maxLen:=by unfold maxLen;omega
  have a7:(0+n)*24<=140737488355328:=by omega
  have a4:∀o,w.heap.size<=(w.alloc o).heap.size:=λo=>by simp
  have a9:=Lib.hid hl;clear hs
  go_enter Tryz.func148,Tryz.ntmps148
  go_wp2_with (at_builtin;refine zh0 rfl (.tmp 5) (.tmp 6) 22 rfl w.heap.size 60 j0 (.slice none 0 0) 1 24 Tryz.underlying22 ji b2 b3 a5 rfl (by decide) (.slice (some ⟨w.heap.size,0,none⟩) 0 0) 0 _ rfl (zkw _ _ _) _ _ _ _ rfl a9.out (a2 _) h1 a6 a7 (a4 _) ?_;intro v1 w1 a0 b0 b5)
  go_ret
  have a8:w.grownBy w1 none:=zn6 (World.grownBy_alloc w _ none) b0 (.inr λg e=>by
   have:some w.heap.size=some g:=e
   injection this with this
   omega)
  exact⟨v1,rfl,by simpa using a0,zl7 a8 (yaq _) (λg e=>by cases e)⟩
def Tryz.infoC_traces:(Tryz.prog.info? 70).map (λi=>(i.zero,i.size,i.bytes))=some (some (.agg #[.slice none 0 0,.slice none 0 0]),2,48):=by kernel_rfl
set_option maxRecDepth 100000 in
set_option maxHeartbeats 400000 in
def clone_traces(w:World)(A:Option Addr)(n c:Nat)(us:List Value)(hl:us.length=n*2)(hs:0<n->∃b q,A=some ⟨b,q,none⟩/\∀(j:Nat) u,us[j]?=some u->w.cell? ⟨b,q+j,none⟩=some u)
  (h1:∀u∈us,u.oneCell'=true) (hn:n<=17592186044416) (hby:n*48<=140737488355328):Calls Tryz.prog 140 #[.slice A n c] w (zmv 70 2 n us w):=by
 obtain⟨j0,ji,b2,b3,a5⟩:=info_parts Tryz.infoC_traces;have b4:=Lib.run_eql_slice_nil (P:=Tryz.prog) w 33 70 A n c 0 0 Tryz.underlying33;cases A with
 |none =>
  have h0:n=0:=by
   rcases ycb n with h|h
   ·exact h
   ·obtain⟨b,q,e,_⟩:=hs h;cases e
  subst h0;have a3:us=[]:=yaz (by omega);have HX:=Lib.hid a3;clear a3 hs hl h1
  go_enter Tryz.func140,Tryz.ntmps140
  go_wp2
  go_ret
  rw[HX.out];exact⟨_,rfl,World.ownsRow_nil _ _ _ _,Below.refl _ _⟩
 |some a =>
  have a2:∀o,0<n->∃b q,some a=some ⟨b,q,none⟩/\∀(j:Nat) u,us[j]?=some u->(w.alloc o).cell? ⟨b,q+j,none⟩=some u:=λo h=>by
   obtain⟨b,q,e,hc⟩:=hs h;exact⟨b,q,e,λj u hu=>zf3 (World.grownBy_alloc w o none) _ _ (hc j u hu)⟩
  have a6:0+n<=maxLen:=by unfold maxLen;omega
  have a7:(0+n)*48<=140737488355328:=by omega
  have a4:∀o,w.heap.size<=(w.alloc o).heap.size:=λo=>by simp
  have a9:=Lib.hid hl;clear hs
  go_enter Tryz.func140,Tryz.ntmps140
  go_wp2_with (at_builtin;refine zh0 rfl (.tmp 5) (.tmp 6) 33 rfl w.heap.size 70 j0 (.agg #[.slice none 0 0,.slice none 0 0]) 2 48 Tryz.underlying33 ji b2 b3 a5 rfl (by decide) (.slice (some ⟨w.heap.size,0,none⟩) 0 0) 0 _ rfl (zkw _ _ _) _ _ _ _ rfl a9.out (a2 _) h1 a6 a7 (a4 _) ?_;intro v1 w1 a0 b0 b5)
  go_ret
  have a8:w.grownBy w1 none:=zn6 (World.grownBy_alloc w _ none) b0 (.inr λg e=>by
   have:some w.heap.size=some g:=e
   injection this with this
   omega)
  exact⟨v1,rfl,by simpa using a0,zl7 a8 (yaq _) (λg e=>by cases e)⟩
end
end Go.Proofs.YtkeplokjplkcmaaGreat.Sym
namespace Go.Proofs.YtkeplokjplkcmaaGreat
section
open Go.RowKit
def GrowPost(t:TypeId)(w:World)(e:Ending)(w':World):Prop:=∃v',e=.returned v'/\w'.ownsRow w.heap.size t 1 v' 0 []/\Below w.heap.size w w'
def znp(w:World)(Z:Array Value)(t:TypeId)(c:Nat)(hc:c<=maxLen)(hZ:Z.size=c) :
  (w.drew.alloc (.cells Z t)).ownsRow w.heap.size t 1 (.slice (some ⟨w.heap.size,0,none⟩) 0 c) 0 []:=by
 refine⟨rfl,.inr ⟨w.heap.size,c,Z,rfl,Nat.le_refl _,?_,Nat.zero_le _,hc,by omega,by simp⟩⟩;exact heap_alloc_new w.drew _
def zqb(w:World)(o:Obj):Below w.heap.size w (w.drew.alloc o):=(Below.refl w.heap.size w).drew.alloc (Nat.le_refl _) o
set_option maxRecDepth 100000 in
set_option maxHeartbeats 800000 in
def growI_any(n:Nat)(hn:n<=1000000000)(w:World) :
  Calls Tryz.prog 174 #[.slice none 0 0,.int .i64 n] w (GrowPost 3 w):=by
 obtain⟨i0,hi,a9,b0,a8⟩:=info_parts Tryz.infoInt;have h1:¬((n:Int)<0):=by omega
 by_cases h0:n=0
 ·subst h0
  go_enter Tryz.func174,Tryz.ntmps174
  go_wp2
  go_ret
  exact⟨_,rfl,World.ownsRow_nil _ _ _ _,Below.refl _ _⟩
 ·have h4:(n:Int) > 0:=by omega
  have a2:=Lib.run_append_nil_zeros (P:=Tryz.prog) w 60 3 60 3 i0 (.int .i64 0) .i64 .i64 Tryz.underlying60 Tryz.underlying3 hi a9 n (by omega) (by omega) (by omega) (by rw[a8];omega);generalize a3:grownCap w n 0 3=cap2 at a2;have a6:n<=cap2:=by rw[<- a3];exact grownCap_ge w _ 0 _
  have a0:cap2<=maxLen:=by rw[<- a3];exact grownCap_le_maxLen w _ 0 _ (by unfold maxLen;omega)
  generalize hZ:(Builtin.zeroCells (Value.cells (.int .i64 0)) n++Builtin.zeroCells (Value.cells (.int .i64 0)) (cap2-n))=Z at a2;have a5:Z.size=cap2:=by rw[<- hZ];simp[size_zeroCells,Value.cells];omega
  have a4:=znp w Z 3 cap2 a0 a5;have a7:cap2<=9223372036854775807:=by unfold maxLen at a0;omega
  have HO:=Lib.hid (And.intro a4 (zqb w (.cells Z 3)));clear a3 hZ a4 a5
  go_enter Tryz.func174,Tryz.ntmps174
  go_wp2_with (at_builtin;refine Lib.wpList_append_run _ rfl _ _ _ _ rfl _ _ rfl rfl _ _ a2 ?_)
  go_ret
  exact⟨_,rfl,HO.out.1,HO.out.2⟩
set_option maxRecDepth 100000 in
set_option maxHeartbeats 800000 in
def growW_any(n:Nat)(hn:n<=1000000000)(w:World) :
  Calls Tryz.prog 131 #[.slice none 0 0,.int .i64 n] w (GrowPost 60 w):=by
 obtain⟨i0,hi,a9,b0,a8⟩:=info_parts Tryz.infoWord;have h1:¬((n:Int)<0):=by omega
 by_cases h0:n=0
 ·subst h0
  go_enter Tryz.func131,Tryz.ntmps131
  go_wp2
  go_ret
  exact⟨_,rfl,World.ownsRow_nil _ _ _ _,Below.refl _ _⟩
 ·have h4:(n:Int) > 0:=by omega
  have a2:=Lib.run_append_nil_zeros (P:=Tryz.prog) w 22 3 22 60 i0 (.slice none 0 0) .i64 .i64 Tryz.underlying22 Tryz.underlying3 hi a9 n (by omega) (by omega) (by omega) (by rw[a8];omega);generalize a3:grownCap w n 0 60=cap2 at a2;have a6:n<=cap2:=by rw[<- a3];exact grownCap_ge w _ 0 _
  have a0:cap2<=maxLen:=by rw[<- a3];exact grownCap_le_maxLen w _ 0 _ (by unfold maxLen;omega)
  generalize hZ:(Builtin.zeroCells (Value.cells (.slice none 0 0)) n++Builtin.zeroCells (Value.cells (.slice none 0 0)) (cap2-n))=Z at a2;have a5:Z.size=cap2:=by rw[<- hZ];simp[size_zeroCells,Value.cells];omega
  have a4:=znp w Z 60 cap2 a0 a5;have a7:cap2<=9223372036854775807:=by unfold maxLen at a0;omega
  have HO:=Lib.hid (And.intro a4 (zqb w (.cells Z 60)));clear a3 hZ a4 a5
  go_enter Tryz.func131,Tryz.ntmps131
  go_wp2_with (at_builtin;refine Lib.wpList_append_run _ rfl _ _ _ _ rfl _ _ rfl rfl _ _ a2 ?_)
  go_ret
  exact⟨_,rfl,HO.out.1,HO.out.2⟩
end
end Go.Proofs.YtkeplokjplkcmaaGreat
namespace Go.Proofs.YtkeplokjplkcmaaGreat.Sym
section
open Go.RowKit
def zsu{g:FuncId}{t:TypeId}{n:Int}(he:∀args w,(callFunc g args).run Tryz.prog w=.ok (.enter g args) w)(h0:0<=n)(h1:n<=1000000000)
  (h:∀(n:Nat),n<=1000000000->∀w,Calls Tryz.prog g #[.slice none 0 0,.int .i64 n] w (GrowPost t w)):Sp Tryz.prog g [.im (.val (.slice none 0 0)),.im (nI n)] (.row t 1 []):=by
 refine⟨he,λw S vs F hS hv hn hF=>?_⟩
 match vs,hv with
 |[v,u],⟨F1,F2,⟨h3,e1⟩,⟨F3,F4,⟨h4,e2⟩,h5,e3⟩,e4⟩ =>
  have h5:F4=[]:=h5;subst e1 e2 h5 e3 e4;cases h3;cases h4;have hc:=h n.toNat (by omega) w;rw[ydu h0]at hc;refine hc.mono ?_;rintro e w' ⟨v',rfl,ho,hb⟩
  have a0:w'.ownsRow 0 t 1 v' 0 []:=by
   refine⟨ho.1,?_⟩;rcases ho.2 with h6|⟨g1,cap,cur,k1,_,k3⟩
   ·exact .inl h6
   ·exact .inr ⟨g1,cap,cur,k1,yaf _,k3⟩
  have a3:=ho.lt
  have a2:∀b∈(zb3 v').toList,w.heap.size<=b/\b<w'.heap.size:=λb hb=>by
   refine a3 b ?_;rw[zg1 a0];simpa using hb
  refine⟨v',(zb3 v').toList,rfl,.of hb,⟨[v'],(zb3 v').toList,[],rfl,⟨(zb3 v').toList,[],⟨row_one a0,[],⟨[],Nat.one_pos,λx hx=>by simp at hx,by decide,a0,rfl,λu hu=>by simp at hu,λi u x hu=>by simp at hu⟩,rfl⟩,rfl,by simp⟩,rfl,by simp⟩,?_,λb hb=>⟨.inl (a2 b hb).1,(a2 b hb).2⟩⟩;cases zb3 v'<;>simp
def zla(n:Int):Option (yab):=chk (0<=n/\n<=1000000000) (some [])
def zsb(n:Int)(r:yab)(h:zla n=some r):Sp Tryz.prog 174 [.im (.val (.slice none 0 0)),.im (nI n)] (.row 3 1 (List.map cI r)):=by
 obtain⟨h1,h⟩:=zan h;injection h with h
 subst h;exact zsu (λargs w=>ze1 rfl rfl rfl args w) h1.1 h1.2 growI_any
def zix(n:Int):Option (yaa):=chk (0<=n/\n<=1000000000) (some [])
def zoq(n:Int)(r:yaa)(h:zix n=some r):Sp Tryz.prog 131 [.im (.val (.slice none 0 0)),.im (nI n)] (.row 60 1 (List.map (cL cI) r)):=by
 obtain⟨h1,h⟩:=zan h;injection h with h
 subst h;exact zsu (λargs w=>ze1 rfl rfl rfl args w) h1.1 h1.2 growW_any
end
section
open Go.RowKit Go.Sort
section plain
variable {α:Type}
def totB[DecidableEq α](f:α->α->Option Int)(l:List α):Bool :=
 l.all λa=>l.all λb=>match f a b,f b a with
  |some m,some n=>(decide (m=0)==decide (a=b))&&(decide (m<0)==decide (0<n))&&(decide (-1<=m/\m<=1))&&l.all λc=>!(decide (m<0)&&(match f b c with|some x=>decide (x<0)|none=>false))||(match f a c with|some x=>decide (x<0)|none=>false)
  |_,_=>false
def insF(f:α->α->Option Int)(x:α):List α->List α
 |[]=>[x]
 |y::l=>match f x y with
  |some m=>cond (decide (m<=0)) (x::y::l) (y::insF f x l)
  |none=>x::y::l
def zkg(f:α->α->Option Int):List α->List α
 |[]=>[]
 |x::l=>insF f x (zkg f l)
def zn8[DecidableEq α](l:List α)(f:α->α->Option Int):Option (List α):=chk (l.length<=1000000000) (cond (totB f l) (some (zkg f l)) none)
def cfv(f:α->α->Option Int)(a b:α):Int:=(f a b).getD 0
structure TotF(f:α->α->Option Int)(l:List α):Prop where
 get:∀a∈l,∀b∈l,f a b=some (cfv f a b)
 zero:∀a∈l,∀b∈l,cfv f a b=0->a=b
 self:∀a∈l,cfv f a a=0
 swap:∀a∈l,∀b∈l,(cfv f a b<0↔0<cfv f b a)
 trans:∀a∈l,∀b∈l,∀c∈l,cfv f a b<0->cfv f b c<0->cfv f a c<0
def totB_iff[DecidableEq α]{f:α->α->Option Int}{l:List α}(h:totB f l=true):TotF f l:=by
 have key:∀a∈l,∀b∈l,∃m n,f a b=some m/\f b a=some n/\(m=0↔a=b)/\(m<0↔0<n)/\∀c∈l,m<0->(∃x,f b c=some x/\x<0)->∃x,f a c=some x/\x<0:=by
  intro a ha b hb;have h1:=ybf.1 (ybf.1 h a ha) b hb;cases e1:f a b with
  |none=>rw[e1]at h1;cases h1
  |some m =>
   cases e2:f b a with
   |none=>rw[e1,e2]at h1;cases h1
   |some n =>
    rw[e1,e2]at h1;simp only[yax]at h1;obtain⟨⟨⟨h2,h3⟩,_⟩,h5⟩:=h1;refine⟨m,n,rfl,rfl,?_,?_,λc hc hm ⟨x,hx,a0⟩=>?_⟩
    ·have h2:=eq_of_beq h2;simpa using h2
    ·have h3:=eq_of_beq h3;simpa using h3
    ·have h6:=ybf.1 h5 c hc;rw[hx]at h6;simp only[hm,a0,decide_true,Bool.and_self,yck,yfo]at h6;cases e3:f a c with
     |none=>rw[e3]at h6;cases h6
     |some y=>rw[e3]at h6;exact⟨y,rfl,by simpa using h6⟩
 have get:∀a∈l,∀b∈l,f a b=some (cfv f a b):=λa ha b hb=>by
  obtain⟨m,n,e1,_⟩:=key a ha b hb;unfold cfv;rw[e1];rfl
 refine⟨get,λa ha b hb=>?_,λa ha=>?_,λa ha b hb=>?_,λa ha b hb c hc h1 h2=>?_⟩
 ·obtain⟨m,n,e1,e2,h3,_⟩:=key a ha b hb;rw[get a ha b hb]at e1;injection e1 with e1
  rw[e1];exact h3.1
 ·obtain⟨m,n,e1,e2,h3,_⟩:=key a ha a ha;rw[get a ha a ha]at e1;injection e1 with e1
  rw[e1];exact h3.2 rfl
 ·obtain⟨m,n,e1,e2,h3,h4,_⟩:=key a ha b hb;rw[get a ha b hb]at e1;rw[get b hb a ha]at e2;injection e1 with e1
  injection e2 with e2
  rw[e1,e2];exact h4
 ·obtain⟨m,n,e1,e2,h3,h4,h5⟩:=key a ha b hb;rw[get a ha b hb]at e1;injection e1 with e1
  obtain⟨x,hx,a0⟩:=h5 c hc (by omega) ⟨_,get b hb c hc,h2⟩;rw[get a ha c hc]at hx;injection hx with hx
  omega
def TotF.sub{f:α->α->Option Int}{l l':List α}(T:TotF f l)(h:∀x∈l',x∈l):TotF f l' :=
 ⟨λa ha b hb=>T.get a (h a ha) b (h b hb),λa ha b hb=>T.zero a (h a ha) b (h b hb),λa ha=>T.self a (h a ha),λa ha b hb=>T.swap a (h a ha) b (h b hb),λa ha b hb c hc=>T.trans a (h a ha) b (h b hb) c (h c hc)⟩
def NGt(f:α->α->Option Int)(a b:α):Prop:=¬cfv f b a<0
def TotF.ngt_trans{f:α->α->Option Int}{l:List α}(T:TotF f l){a b c:α}(ha:a∈l)(hb:b∈l)(hc:c∈l)(h1:NGt f a b)(h2:NGt f b c):NGt f a c:=by
 intro h3;have s1:=T.swap a ha b hb;have s2:=T.swap b hb c hc;have s3:=T.swap c hc a ha;have t1:=T.swap b hb a ha;have t2:=T.swap c hc b hb;unfold NGt at h1 h2;by_cases e1:cfv f b a=0
 ·have:=T.zero b hb a ha e1;subst this;exact h2 h3
 ·by_cases e2:cfv f c b=0
  ·have:=T.zero c hc b hb e2;subst this;exact h1 h3
  ·have h4:cfv f a b<0:=s1.2 (by omega);have h5:=T.trans c hc a ha b hb h3 h4;exact h2 h5
def insF_le{f:α->α->Option Int}{x y:α}{l:List α}{m:Int}(h:f x y=some m)(hm:m<=0):insF f x (y::l)=x::y::l:=by
 simp[insF,h,hm]
def insF_gt{f:α->α->Option Int}{x y:α}{l:List α}{m:Int}(h:f x y=some m)(hm:¬m<=0):insF f x (y::l)=y::insF f x l:=by
 simp[insF,h,hm]
def zp6(f:α->α->Option Int)(x:α):∀l:List α,(insF f x l).Perm (x::l)
 |[]=>List.Perm.refl _
 |y::l=>by
  cases h:f x y with
  |none=>simp[insF,h]
  |some m =>
   by_cases hm:m<=0
   ·rw[insF_le h hm]
   ·rw[insF_gt h hm];exact((zp6 f x l).cons y).trans (List.Perm.swap x y l)
def zel(f:α->α->Option Int):∀l:List α,(zkg f l).Perm l
 |[]=>List.Perm.refl _
 |x::l=>(zp6 f x _).trans ((zel f l).cons x)
def zrz{f:α->α->Option Int}{x:α}:∀{l:List α},TotF f (x::l)->l.Pairwise (NGt f)->(insF f x l).Pairwise (NGt f)
 |[],_,_=>List.pairwise_singleton _ _
 |y::l,T,h=>by
  have hx:x∈x::y::l:=by simp
  have hy:y∈x::y::l:=by simp
  have hc:=yco.1 h;by_cases hd:cfv f x y<=0
  ·rw[insF_le (T.get x hx y hy) hd]
   have a2:NGt f x y:=λh0=>by
    have:=(T.swap y hy x hx).1 h0;omega
   exact yco.2 ⟨λz hz=>by
    rcases yaw.1 hz with rfl|a0
    ·exact a2
    ·exact T.ngt_trans hx hy (by simp[a0]) a2 (hc.1 z a0),h⟩
  ·rw[insF_gt (T.get x hx y hy) hd];have a3:NGt f y x:=by unfold NGt;omega
   refine yco.2 ⟨λz hz=>?_,zrz (T.sub λz hz=>?_) hc.2⟩
   ·rcases yaw.1 ((zp6 f x l).mem_iff.1 hz) with rfl|a0
    ·exact a3
    ·exact hc.1 z a0
   ·rcases yaw.1 hz with rfl|a0
    ·simp
    ·simp[a0]
def zj4{f:α->α->Option Int}:∀{l:List α},TotF f l->(zkg f l).Pairwise (NGt f)
 |[],_=>List.Pairwise.nil
 |x::l,T=>zrz (T.sub λz hz=>by
   rcases yaw.1 hz with rfl|hz'
   ·simp
   ·exact yau _ ((zel f l).mem_iff.1 hz')) (zj4 (T.sub λz hz=>yau _ hz))
def zrr{f:α->α->Option Int}:∀{l1 l2:List α},TotF f l1->l1.Perm l2->l1.Pairwise (NGt f)->l2.Pairwise (NGt f)->l1=l2
 |[],l2,_,hp,_,_=>(List.nil_perm.1 hp).symm
 |x::l1,[],_,hp,_,_=>absurd hp.length_eq (by simp)
 |x::l1,y::l2,T,hp,h1,h2=>by
  have p1:=yco.1 h1;have p2:=yco.1 h2;have hx:x∈x::l1:=by simp
  have hy:y∈x::l1:=hp.mem_iff.2 (by simp)
  have e:x=y:=by
   rcases yaw.1 hy with e|a2
   ·exact e.symm
   ·have a0:=p1.1 y a2;rcases yaw.1 (hp.mem_iff.1 hx) with e|a4
    ·exact e
    ·have a3:=p2.1 x a4;have s1:=T.swap y hy x hx;have s2:=T.swap x hx y hy;unfold NGt at a0 a3;exact T.zero x hx y hy (by omega)
  subst e;rw[zrr (T.sub λz hz=>yau _ hz) (List.Perm.cons_inv hp) p1.2 p2.2]
end plain
section model
variable {α:Type}
def CmpG(P:Program)(g:FuncId)(X:α->IV)(f:α->α->Option Int):Prop :=
 ∀(W:World) (S:Nat->Prop) (u u':Value) (x y:α) (r:Int),f x y=some r->RepI W S u (X x)->RepI W S u' (X y) ->
  Calls P g #[u,u'] W λe w'=>e=.returned (.int .i64 r)/\∃q os,w'=Sort.grow (W.drewN q) os
def El(w:World)(S:Nat->Prop)(k:Nat)(c:α->List IV)(l:List α):Type:={ p:List Value×α // p.1.length=k/\(∀v∈p.1,v.oneCell'=true)/\zic w S p.1 (c p.2)/\p.2∈l }
variable {w:World}{S:Nat->Prop}{k:Nat}{c:α->List IV}{l:List α}
def El.enc(x:El w S k c l):List Value:=x.val.1
def El.wd(x:El w S k c l):α:=x.val.2
def El.of(us:List Value)(x:α)(h1:us.length=k)(h2:∀v∈us,v.oneCell'=true)(h3:zic w S us (c x))(h4:x∈l):El w S k c l:=⟨(us,x),h1,h2,h3,h4⟩
def el_list(hk:∀x,(c x).length=k):∀(l0:List α) (us:List Value),(∀x∈l0,x∈l)->us.length=(l0.map c).flatten.length->(∀u∈us,u.oneCell'=true) ->
  (∀(i:Nat) u x,us[i]?=some u->(l0.map c).flatten[i]?=some x->RepI w S u x)->∃zs:List (El w S k c l),(zs.map El.enc).flatten=us/\zs.map El.wd=l0
 |[],us,_,hl,_,_=>⟨[],(yaz hl).symm,rfl⟩
 |x::l0,us,hm,hl,h1,hr=>by
  rw[yav,ybu]at hl hr;rw[zkJ,hk]at hl
  obtain⟨zs,e1,e2⟩:=el_list hk l0 (us.drop k) (λy hy=>hm y (yau _ hy)) (by rw[ybh];omega) (λu hu=>h1 u (ybp hu)) λi u y hu hy=>by
   rw[ybq]at hu;refine hr (k+i) u y hu ?_;rw[ya1,if_neg (by rw[hk];omega),hk]
   rwa [yej]
  have hx1:(us.take k).length=k:=by rw[yas];omega
  have a2:∀v∈us.take k,v.oneCell'=true:=λu hu=>h1 u (ybe hu)
  have a0:zic w S (us.take k) (c x):=⟨by rw[hx1,hk],λi u y hu hy=>by
   have hi:i<k:=by
    rw[<- hk x]
    exact(zkI.1 hy).1
   rw[ybk,if_pos hi]at hu
   exact hr i u y hu (by rw[ya1,if_pos (by rw[hk];exact hi)];exact hy)⟩
  refine⟨El.of (us.take k) x hx1 a2 a0 (hm x (by simp))::zs,?_,?_⟩
  ·rw[yav,ybu,e1];exact yeu k us
  ·rw[yav,e2];rfl
def el_swo{f:α->α->Option Int}(T:TotF f l):SWO (ltOf λx y:El w S k c l=>cfv f x.wd y.wd) where
 irrefl x:=by
  have:=T.self x.wd x.property.2.2.2;simp[ltOf,this]
 trans x y z h1 h2:=by
  simp only[ltOf,decide_eq_true_eq]at *;exact T.trans _ x.property.2.2.2 _ y.property.2.2.2 _ z.property.2.2.2 h1 h2
 ntrans x y z h1 h2:=by
  simp only[ltOf,decide_eq_false_iff_not]at *;exact T.ngt_trans z.property.2.2.2 y.property.2.2.2 x.property.2.2.2 h2 h1
def SortC(P:Program)(sg:FuncId)(k:Nat)(mk:List Value->Value):Prop :=
 (∀(p:Option Addr) (cap:Nat) (fv:Value) (w:World),Calls P sg #[.slice p 0 cap,fv] w λe w'=>e=.returned (.tuple #[])/\w'=w) /\
 ∀(E:Type) [Inhabited E] (enc:E->List Value) (cf:E->E->Int) (g blk cap:Nat) (d:Array E) (w:World),(∀x,(enc x).length=k)->(∀x,∀v∈enc x,v.oneCell'=true)->SWO (ltOf cf) ->
  (∀args w,(callFunc g args).run P w=.ok (.enter g args) w) ->
  (∀(m:Nat) (os:Array Obj) (dk:Array E),dk.size=d.size->∀x y:E,Calls P g #[mk (enc x),mk (enc y)] (Sort.grow (putRow id (Sort.ahead w m) blk 0 (Go.Sort.flatK enc k dk)) os) λe w' =>
   e=.returned (.int .i64 (cf x y))/\∃q os',w'=Sort.grow ((Sort.grow (putRow id (Sort.ahead w m) blk 0 (Go.Sort.flatK enc k dk)) os).drewN q) os') ->
  Go.Sort.Holds id w blk 0 (Go.Sort.flatK enc k d)->blk<w.heap.size->d.size<4611686018427387904 ->
  Calls P sg #[.slice (some ⟨blk,0,none⟩) d.size cap,.func (.func g) #[] #[]] w λe w' =>
   e=.returned (.tuple #[])/\∃d' n os,PermIn 0 d.size d d'/\SortedIn (ltOf cf) 0 d.size d'/\w'=Sort.grow (putRow id (Sort.ahead w n) blk 0 (Go.Sort.flatK enc k d')) os
def perm_of_in'{β:Type}[Inhabited β]{d d':Array β}(h:PermIn 0 d.size d d'):d'.toList.Perm d.toList:=by
 obtain⟨hs,_,hp⟩:=h;have e1:d'.extract 0 d.size=d':=by rw[<- hs];simp
 have e2:d.extract 0 d.size=d:=by simp
 rwa [e1,e2]at hp
def zqt{β:Type}[Inhabited β]{lt:β->β->Bool}{d:Array β}{n:Nat}(hn:d.size=n)(h:SortedIn lt 0 n d):d.toList.Pairwise λa b=>lt b a=false:=by
 rw[yb6];intro i j hi hj a0;have:=h i j (yaf _) a0 (by rw[<- hn];simpa using hj);simp at hi hj;simpa[getElem!_pos,hi,hj]using this
def ztd{β:Type}[Inhabited β]{enc:β->List Value}{k:Nat}(hk:∀x,(enc x).length=k)(d:Array β):Go.Sort.flatK enc k d=(d.toList.map enc).flatten.toArray:=by
 have hl:((d.toList.map enc).flatten).length=d.size*k:=by
  rw[zbx (k:=k) λx hx=>by obtain⟨y,_,rfl⟩:=yao.1 hx;exact hk y];simp
 refine ext_get! (by simp[hl]) λt ht=>?_;rw[size_flatK]at ht;rw[get_flatK _ _ _ t ht]
 have k0:0<k:=by
  rcases ycb k with h|h
  ·subst h;simp at ht
  ·exact h
 have hq:t / k<d.size:=Nat.div_lt_of_lt_mul (by rwa [yeb]at ht);have hm:t%k<k:=yef _ k0;have hg:=flat_get (es:=d.toList.map enc) (i:=t / k) (j:=t%k) (e:=enc (d[t / k]'hq)) (λx hx=>by obtain⟨y,_,rfl⟩:=yao.1 hx;exact hk y) (by simp[hq]) hm;rw[show t / k*k+t%k=t by rw[yeb];exact yew t k]at hg;have a0:t%k<(enc (d[t / k]'hq)).length:=by rw[hk];exact hm
 rw[zkM a0,zkM (by rw[hl];exact ht)]at hg;injection hg with hg
 rw[getElem!_pos d _ hq,getElem!_pos (enc (d[t / k]'hq)) (t%k) a0,getElem!_pos ((d.toList.map enc).flatten.toArray) t (by simpa[hl]using ht)];simpa using hg.symm
def own_put{w:World}{base:Nat}{e:TypeId}{g n cap k q:Nat}{us us':List Value}{os:Array Obj}(h:w.ownsRow base e k (.slice (some ⟨g,0,none⟩) n cap) n us)(hl:us'.length=n*k) :
  (Sort.grow (putRow id (Sort.ahead w q) g 0 us'.toArray) os).ownsRow base e k (.slice (some ⟨g,0,none⟩) n cap) n us':=by
 rcases h.2 with⟨e0,_⟩|⟨g',a3,cur,e0,hb,hg,hn,hm,hs,ht⟩
 ·cases e0
 ·injection e0 with e1 _ e3
  injection e1 with e1
  injection e1 with e1
  subst e1;subst e3
  have a2:g<w.heap.size:=by
   rcases ya9 g w.heap.size with h'|h'
   ·exact h'
   ·rw[Array.getElem?_eq_none h']at hg;cases hg
  refine⟨hl,.inr ⟨g,cap,putCells id 0 us'.toArray cur,rfl,hb,?_,hn,hm,by simpa[putCells]using hs,?_⟩⟩
  ·have:g<(putRow id (Sort.ahead w q) g 0 us'.toArray).heap.size:=by simpa[putRow,mapBlock,Sort.ahead]using a2
   simp only[Sort.grow,Array.getElem?_append,if_pos this];simp[putRow,mapBlock,Sort.ahead,ydh,hg,onCells]
  ·have a4:n*k<=cap*k:=ybs k hn;apply yca;intro j;rw[ybk,ya6];by_cases hj:j<n*k
   ·have a0:j<cur.size:=by omega
    rw[if_pos hj];simp only[putCells,Array.getElem?_mapIdx,yc5 a0,yap];rw[if_pos (by simp;omega),zkM (by omega)];simp[getElem!_pos,show j<us'.length by omega]
   ·rw[if_neg hj,yat (by omega)]
def holds_own{w:World}{base:Nat}{e:TypeId}{g n cap k:Nat}{us:List Value}(h:w.ownsRow base e k (.slice (some ⟨g,0,none⟩) n cap) n us):Go.Sort.Holds id w g 0 us.toArray:=by
 rcases h.2 with⟨e0,_⟩|⟨g',a3,cur,e0,hb,hg,hn,hm,hs,ht⟩
 ·cases e0
 ·injection e0 with e1 _ e3
  injection e1 with e1
  injection e1 with e1
  subst e1;subst e3;intro j hj;have a0:j<us.length:=by simpa using hj
  have a2:j<n*k:=by rw[<- h.1];exact a0
  have a4:n*k<=cap*k:=ybs k hn;have a5:j<cur.size:=by omega
  have e1:(cur.toList.take (n*k))[j]?=us[j]?:=by rw[ht]
  rw[ybk,if_pos a2,ya6,zkM a0]at e1;refine⟨?_,by simp[World.frozen?,hg]⟩;simp only[World.cell?,hg,yal,yed,yec,if_false];rw[e1];simp[getElem!_pos,a0]
def put_block{w:World}{g q:Nat}{F:Array Value}{os:Array Obj}{b:Nat}(hb:b<w.heap.size)(hne:b≠g):(Sort.grow (putRow id (Sort.ahead w q) g 0 F) os).heap[b]?=w.heap[b]?:=by
 have:b<(putRow id (Sort.ahead w q) g 0 F).heap.size:=by simpa[putRow,mapBlock,Sort.ahead]using hb
 simp only[Sort.grow,Array.getElem?_append,if_pos this];simp[putRow,mapBlock,Sort.ahead,ydh,Ne.symm hne]
def put_cell{w:World}{g q:Nat}{F:Array Value}{os:Array Obj}{p:Addr}{u:Value}(hne:p.block≠g)(h:w.cell? p=some u):(Sort.grow (putRow id (Sort.ahead w q) g 0 F) os).cell? p=some u:=by
 have a0:=World.block_lt_of_cell? w _ h;unfold World.cell? at h ⊢;rw[put_block a0 hne];exact h
def ztc[DecidableEq α]{P:Program}{sg:FuncId}{mk:List Value->Value}{t:TypeId}{X:α->IV}(he:∀args w,(callFunc sg args).run P w=.ok (.enter sg args) w)(C:SortC P sg k mk)(hk0:0<k)(hk:∀x,(c x).length=k)
  (hX:∀(W:World) (S:Nat->Prop) us x,us.length=k->(∀v∈us,v.oneCell'=true)->zic W S us (c x)->RepI W S (mk us) (X x))
  {f:α->α->Option Int} {g:FuncId} (eg:∀args w,(callFunc g args).run P w=.ok (.enter g args) w) (hg:CmpG P g X f) {l r:List α} (h:zn8 l f=some r) :
  Sp P sg [.lent (.row t k (l.map c)),.im (.fn g [])] (.mk true [] [.lent (.row t k (r.map c))]):=by
 obtain⟨e6,h⟩:=zan h;cases hT:totB f l with
 |false=>rw[hT]at h;cases h
 |true =>
 rw[hT]at h;injection h with h
 subst h;have T:=totB_iff hT;refine⟨he,λw S vs F hS hv hn hF=>?_⟩
 match vs,hv with
 |[v,u],⟨F1,F2,⟨hv1,inn,hrow,e1⟩,⟨F3,F4,⟨h4,e2⟩,h5,e3⟩,e4⟩ =>
  have h5:F4=[]:=h5;have e1:F1=(zb3 v).toList:=e1;subst e1 e2 h5 e3;have e4:F=(zb3 v).toList:=by rw[e4];simp
  subst e4;obtain⟨us,_,_,b2,a0,b7,h1,hr⟩:=hrow;rw[zkK]at a0 b2
  have hu:u=.func (.func g) #[] #[]:=by
   generalize hx:IV.fn g []=x at h4;cases h4 with
   |fn f us cs hl hr =>
    injection hx with d3 d8
    subst d3 d8;have:=yaz hl;subst this;rfl
   |_=>cases hx
  subst hu
  have b4:∀(w':World) (a5:List Value),w'.ownsRow 0 t k v l.length a5->a5.length=((zkg f l).map c).flatten.length->(∀u∈a5,u.oneCell'=true) ->
    Belo (λb=>b∈(zb3 v).toList) w.heap.size w w'->(∀(i:Nat) u x,a5[i]?=some u->((zkg f l).map c).flatten[i]?=some x->RepI w' (λb=>(S b\/w.heap.size<=b\/b∈(zb3 v).toList)/\b<w'.heap.size/\b∉(zb3 v).toList) u x) ->
    ∃(v1:Value) (F':List Nat),Ending.returned (.tuple #[])=.returned v1/\Belo (λb=>b∈(zb3 v).toList) w.heap.size w w' /\
     zl9 w' (λb=>(S b\/w.heap.size<=b\/b∈(zb3 v).toList)/\b<w'.heap.size/\b∉F') v1 (bxVs [v,.func (.func g) #[] #[]] [.lent (.row t k (l.map c)),.im (.fn g [])]) (.mk true [] [.lent (.row t k ((zkg f l).map c))]) F'/\F'.Nodup/\∀b∈F',(w.heap.size<=b\/b∈(zb3 v).toList)/\b<w'.heap.size:=by
   intro w' a5 ho d1 d6 hb d9;refine⟨_,(zb3 v).toList,rfl,hb,⟨[],[],(zb3 v).toList,rfl,rfl,⟨(zb3 v).toList,[],⟨hv1,inn,⟨a5,hk0,λx hx=>?_,?_,?_,d1,d6,d9⟩,rfl⟩,rfl,by simp⟩,by simp⟩,hn,λb a9=>⟨.inr a9,yct (hF b a9).2 hb.size⟩⟩
   ·obtain⟨y,_,rfl⟩:=yao.1 hx;exact hk y
   ·rw[zkK,(zel f l).length_eq];exact b2
   ·rw[zkK,(zel f l).length_eq];exact ho
  by_cases b3:v=.slice none 0 0
  ·subst b3
   have a4:l.length=0:=by
    rcases a0.2 with⟨_,h0⟩|⟨_,_,_,e,_⟩
    ·exact h0
    ·cases e
   have a4:l=[]:=yaz a4;subst a4;refine(C.1 none 0 _ w).mono ?_;rintro e w' ⟨rfl,rfl⟩;have c0:us=[]:=yaz (by rw[b7];rfl);subst c0;exact b4 w' [] a0 rfl (λu hu=>by cases hu) (Belo.refl _ _ _) λi u x hu=>by simp at hu
  ·obtain⟨blk,cap,rfl⟩:∃blk cap,v=.slice (some ⟨blk,0,none⟩) l.length cap:=by
    rcases a0.2 with⟨e0,_⟩|⟨g,cap,cur,e,_⟩
    ·exact absurd e0 b3
    ·exact⟨g,cap,e⟩
   have c8:blk<w.heap.size:=(hF blk (by simp[zb3])).2;have b0:¬S blk:=(hF blk (by simp[zb3])).1;obtain⟨zs,d5,b6⟩:=el_list (w:=w) (S:=S) (l:=l) hk l us (λx hx=>hx) b7 h1 hr;by_cases a4:l=[]
   ·subst a4;refine(C.1 (some ⟨blk,0,none⟩) cap _ w).mono ?_;rintro e w' ⟨rfl,rfl⟩;have c0:us=[]:=yaz (by rw[b7];rfl);subst c0;exact b4 w' [] a0 rfl (λu hu=>by cases hu) (Belo.refl _ _ _) λi u x hu=>by simp at hu
   ·have d2:zs.length=l.length:=by have:=congrArg List.length b6;simpa using this
    obtain⟨z0,e8⟩:∃z,z∈zs:=by
     cases zs with
     |nil=>exact absurd (by simpa using b6.symm) a4
     |cons z zs=>exact⟨z,by simp⟩
    haveI:Inhabited (El w S k c l):=⟨z0⟩
    have a3:∀x:El w S k c l,(El.enc x).length=k:=λx=>x.property.1;have a7:∀d:Array (El w S k c l),Go.Sort.flatK El.enc k d=(d.toList.map El.enc).flatten.toArray:=ztd a3
    have a8:=C.2 (El w S k c l) El.enc (λx y=>cfv f x.wd y.wd) g blk cap zs.toArray w a3 (λx=>x.property.2.1) (el_swo T) eg (λm os dk _ x y=>by
      refine hg _ S _ _ x.wd y.wd _ (T.get _ x.property.2.2.2 _ y.property.2.2.2) (hX _ _ _ _ x.property.1 x.property.2.1 ⟨x.property.2.2.1.1,λi u z hu hz=>?_⟩) (hX _ _ _ _ y.property.1 y.property.2.1 ⟨y.property.2.2.1.1,λi u z hu hz=>?_⟩)
      ·exact(x.property.2.2.1.2 i u z hu hz).mono (λ_ h=>h) λp u hp hu=>put_cell (λe=>b0 (by rw[<- e];exact hp)) hu
      ·exact(y.property.2.2.1.2 i u z hu hz).mono (λ_ h=>h) λp u hp hu=>put_cell (λe=>b0 (by rw[<- e];exact hp)) hu)
     (by rw[a7];show Go.Sort.Holds id w blk 0 ((zs.map El.enc).flatten).toArray;rw[d5];exact holds_own a0) c8 (by simp;omega)
    have b5:zs.toArray.size=l.length:=by simpa using d2
    rw[b5]at a8;refine a8.mono ?_;rintro e w' ⟨rfl,d',n,os,hp,hs,rfl⟩;have c6:d'.size=l.length:=by rw[hp.1];exact b5
    have b8:=perm_of_in' (d:=zs.toArray) (by rw[b5];exact hp);have d4:=zqt c6 hs
    have d7:d'.toList.map El.wd=zkg f l:=by
     have d0:(d'.toList.map El.wd).Perm l:=(b8.map El.wd).trans (List.Perm.of_eq b6);refine zrr (T.sub λx hx=>d0.mem_iff.1 hx) (d0.trans (zel f l).symm) ?_ (zj4 T);rw[ydz];refine d4.imp λ{a b} hab=>?_;have c9:¬cfv f b.wd a.wd<0:=by simpa only[ltOf,decide_eq_false_iff_not]using hab
     exact c9
    rw[a7]
    have a2:((d'.toList.map El.enc).flatten).length=l.length*k:=by
     rw[zbx (k:=k) λx hx=>by obtain⟨y,_,rfl⟩:=yao.1 hx;exact a3 y];simp[c6]
    have b9:((zkg f l).map c).flatten.length=l.length*k:=by
     rw[zbx (k:=k) λx hx=>by obtain⟨y,_,rfl⟩:=yao.1 hx;exact hk y,zkK,(zel f l).length_eq]
    refine b4 _ _ (own_put a0 a2) (by rw[a2,b9]) (λu hu=>?_) ⟨rfl,rfl,rfl,?_,λb hb e5=>put_block hb λe=>e5 (by simp[zb3,e])⟩ λi u x hu hx=>?_
    ·obtain⟨e7,h2,h3⟩:=yd3.1 hu;obtain⟨y,_,rfl⟩:=yao.1 h2;exact y.property.2.1 u h3
    ·simp[Sort.grow,putRow,mapBlock,Sort.ahead]
    ·have hi:i<l.length*k:=by rw[<- a2];exact(zkI.1 hu).1
     have hq:i / k<l.length:=Nat.div_lt_of_lt_mul (by rwa [yeb]at hi);have hm:i%k<k:=yef _ hk0;have c7:i / k*k+i%k=i:=by rw[yeb];exact yew i k
     have a6:i / k<d'.size:=by rw[c6];exact hq
     have g1:=flat_get (es:=d'.toList.map El.enc) (i:=i / k) (j:=i%k) (e:=El.enc (d'[i / k]'a6)) (λx hx=>by obtain⟨y,_,rfl⟩:=yao.1 hx;exact a3 y) (by simp[a6]) hm;have g2:=flat_get (es:=(zkg f l).map c) (i:=i / k) (j:=i%k) (e:=c (El.wd (d'[i / k]'a6))) (λx hx=>by obtain⟨y,_,rfl⟩:=yao.1 hx;exact hk y) (by rw[<- d7];simp[a6]) hm;rw[c7,hu]at g1;rw[c7,hx]at g2;refine((d'[i / k]'a6).property.2.2.1.2 _ _ _ g1.symm g2.symm).mono (λb hb=>⟨.inl hb,?_,?_⟩) λp u hp hu=>put_cell (λe=>b0 (by rw[<- e];exact hp)) hu
     ·have:w.heap.size<=(Sort.grow (putRow id (Sort.ahead w n) blk 0 ((d'.toList.map El.enc).flatten).toArray) os).heap.size:=by simp[Sort.grow,putRow,mapBlock,Sort.ahead]
      exact yct (hS b hb) this
     ·intro a9;have:b=blk:=by simpa[zb3]using a9
      subst this;exact b0 hb
end model
end
end Go.Proofs.YtkeplokjplkcmaaGreat.Sym
namespace Go.Proofs.YtkeplokjplkcmaaGreat
section
def dig36(d:Nat):UInt8:=if d<10 then UInt8.ofNat (48+d) else UInt8.ofNat (87+d)
def digsF:Nat->Nat->List UInt8
 |0,u=>[dig36 u]
 |f+1,u=>if u<36 then [dig36 u] else digsF f (u / 36)++[dig36 (u%36)]
def digs(u:Nat):List UInt8:=digsF u u
def enc36(a:Int):List UInt8:=if a<0 then 45::digs a.natAbs else digs a.natAbs
def keyL:List Int->List UInt8
 |[]=>[]
 |a::xs=>enc36 a++32::keyL xs
end
section
open Go.RowKit
end
end Go.Proofs.YtkeplokjplkcmaaGreat
namespace Go.Proofs.YtkeplokjplkcmaaGreat.Sym
section
open Go.RowKit
def zhs{w:World}{S:Nat->Prop}{v:Value}{l:yab}(h:RepI w S v (nL cI l)):∃A n c,v=.slice A n c/\zgm w znn A n c l:=by
 have h:RepI w S v (.sl (l.map cI)):=h;generalize he:l.map cI=es at h;cases h with
 |emp A c =>
  have:l=[]:=by simpa using he
  subst this;exact⟨A,0,c,rfl,rfl,yaf _,by omega,λh=>by omega⟩
 |sl b o c k n _ us hn hk hc hs hS hl h1 hu hr =>
  subst he
  have hf:(l.map cI).flatten=l.map λx=>nI x:=by
   clear hn hk hl hr h
   induction l with
   |nil=>rfl
   |cons x l ih=>rw[yav,ybu,ih];rfl
  rw[hf]at hl hr;refine⟨_,_,_,rfl,by simpa using hn,hc,hs,λ_=>⟨b,o,rfl,λi x hx=>?_⟩⟩;have hi:i<us.length:=by rw[hl,zkK];exact(zkI.1 hx).1
  have hg:=zkM hi;refine⟨_,hu i _ hg,?_⟩;have:=hr i _ (nI x) hg (by rw[yae,hx];rfl);generalize us[i]=u at this;cases this with
  |val _=>rfl
end
end Go.Proofs.YtkeplokjplkcmaaGreat.Sym
namespace Go.Proofs.YtkeplokjplkcmaaGreat
section
open Go.RowKit
def cmpI(x y:Int):Int:=if x<y then -1 else if y<x then 1 else 0
def zis(x y:Int)(w:World) :
  Calls Tryz.prog 153 #[.int .i64 x,.int .i64 y] w λe w'=>e=.returned (.int .i64 (cmpI x y))/\w=w':=by
 by_cases h1:x<y
 ·go_enter Tryz.func153,Tryz.ntmps153
  go_wp2
  go_ret
  exact⟨zi2 (by unfold cmpI;rw[if_pos h1]),rfl⟩
 ·by_cases h2:y<x
  ·go_enter Tryz.func153,Tryz.ntmps153
   go_wp2
   go_ret
   exact⟨zi2 (by unfold cmpI;rw[if_neg (by omega),if_pos h2]),rfl⟩
  ·go_enter Tryz.func153,Tryz.ntmps153
   go_wp2
   go_ret
   exact⟨zi2 (by unfold cmpI;rw[if_neg (by omega),if_neg (by omega)]),rfl⟩
def lexI_step{xs ys:List Int}{k:Nat}{x y:Int}(hx:xs[k]?=some x)(hy:ys[k]?=some y) :
  lexI (xs.drop k) (ys.drop k)=if cmpI x y=0 then lexI (xs.drop (k+1)) (ys.drop (k+1)) else cmpI x y:=by
 obtain⟨h1,a0⟩:=List.getElem?_eq_some_iff.1 hx;obtain⟨h2,a2⟩:=List.getElem?_eq_some_iff.1 hy;rw[List.drop_eq_getElem_cons h1,List.drop_eq_getElem_cons h2,a0,a2];simp only[lexI,cmpI];by_cases a:x<y
 ·simp[a]
 ·by_cases b:y<x
  ·simp[a,b]
  ·simp[a,b]
def lexI_long{xs ys:List Int}{k:Nat}(h1:k<xs.length)(h2:ys.length<=k):lexI (xs.drop k) (ys.drop k)=1:=by
 rw[List.drop_eq_getElem_cons h1,List.drop_eq_nil_of_le h2];rfl
def lexI_end{xs ys:List Int}{k:Nat}(h1:xs.length<=k):lexI (xs.drop k) (ys.drop k)=if k<ys.length then -1 else 0:=by
 rw[List.drop_eq_nil_of_le h1];by_cases h2:k<ys.length
 ·rw[if_pos h2,List.drop_eq_getElem_cons h2];rfl
 ·rw[if_neg h2,List.drop_eq_nil_of_le (by omega)];rfl
set_option maxHeartbeats 800000 in
def zi5{A B:Option Addr}{n c m c':Nat}{xs ys:List Int}{w:World}(hx:zgm w znn A n c xs)(hy:zgm w znn B m c' ys) :
  Calls Tryz.prog 154 #[.slice A n c,.slice B m c'] w λe w'=>e=.returned (.int .i64 (lexI xs ys))/\w=w':=by
 have hn:=hx.small;have hm:=hy.small;have HL:=Lib.hid (And.intro hx.len hy.len)
 go_enter Tryz.func154,Tryz.ntmps154
 go_wp2
 go_loop [5,6,7,8,11] (λ_ _ _ _ i=>∃k:Nat,k<=n/\k<=m/\i=.int .i64 k/\Hid (lexI xs ys=lexI (xs.drop k) (ys.drop k))) (λ_ _ _ _ i=>n-(intOf i).toNat)
 case atStart=>exact⟨0,by omega,by omega,rfl,Lib.hid (by simp)⟩
 case round =>
  obtain⟨k,hk,a6,rfl,HT⟩:=hrel;by_cases h1:k<n
  ·obtain⟨b,o,x,rfl,a3,a5⟩:=hx.int_at h1;have HX:=Lib.hid a3;clear a3;by_cases h2:k<m
   ·obtain⟨b',o',y,rfl,a4,a7⟩:=hy.int_at h2;have HY:=Lib.hid a4;clear a4;have a0:=lexI_step HX.out HY.out;by_cases h3:cmpI x y=0
    ·rw[if_pos h3]at a0;have a2:=Lib.hid a0;have d3:(cmpI x y != 0)=false:=by simp[h3]
     have H3:=Lib.hid h3;clear h3 a0
     go_wp2_with (go_at_call 153;refine(zis _ _ _).mono ?_;rintro e w' ⟨rfl,rfl⟩)
     go_round
     case rel=>exact⟨k+1,by omega,by omega,by go_num,Lib.hid (by rw[HT.out,a2.out])⟩
     case measure=>simp[intOf];omega
    ·rw[if_neg h3]at a0;have a2:=Lib.hid a0;have d3:(cmpI x y != 0)=true:=by simp[h3]
     clear h3 a0
     go_wp2_with (go_at_call 153;refine(zis _ _ _).mono ?_;rintro e w' ⟨rfl,rfl⟩)
     go_ret
     exact⟨zi2 (by rw[HT.out,a2.out]),rfl⟩
   ·go_wp2
    go_ret
    obtain⟨h3,h4⟩:=HL.out;exact⟨zi2 (by rw[HT.out,lexI_long (by omega) (by omega)]),rfl⟩
  ·obtain⟨h3,h4⟩:=HL.out;have HE:=Lib.hid (lexI_end (xs:=xs) (ys:=ys) (k:=k) (by omega));clear h3 h4;by_cases h2:n<m
   ·go_wp2
    go_ret
    obtain⟨h3,h4⟩:=HL.out;exact⟨zi2 (by rw[HT.out,HE.out,if_pos (by omega)]),rfl⟩
   ·go_wp2
    go_ret
    obtain⟨h3,h4⟩:=HL.out;exact⟨zi2 (by rw[HT.out,HE.out,if_neg (by omega)]),rfl⟩
def wordLex_any{A B:Option Addr}{n c m c':Nat}{xs ys:List Int}{w:World}(hx:zgm w znn A n c xs)(hy:zgm w znn B m c' ys) :
  Calls Tryz.prog 143 #[.slice A n c,.slice B m c'] w λe w'=>e=.returned (.int .i64 (lexI xs ys))/\w=w':=by
 go_enter Tryz.func143,Tryz.ntmps143
 go_wp2_with (go_at_call 154;refine(zi5 hx hy).mono ?_;rintro e w' ⟨rfl,rfl⟩)
 go_ret
 exact⟨rfl,rfl⟩
def orI(xs:List Int):Int:=(xs.find? λa=>a != 0).getD 0
set_option maxHeartbeats 400000 in
def cmpOr_any{A:Option Addr}{n c:Nat}{xs:List Int}{w:World}(hx:zgm w znn A n c xs) :
  Calls Tryz.prog 152 #[.slice A n c] w λe w'=>e=.returned (.int .i64 (orI xs))/\w=w':=by
 have a3:=hx.small;have HL:=Lib.hid hx.len
 go_enter Tryz.func152,Tryz.ntmps152
 go_wp2
 go_loop [5,8] (λ_ i=>∃k:Nat,k<=n/\i=.int .i64 k/\Hid (((xs.take k).find? λa=>a != 0)=none)) (λ_ i=>n-(intOf i).toNat)
 case atStart=>exact⟨0,by omega,rfl,Lib.hid (by simp)⟩
 case round =>
  obtain⟨k,hk,rfl,HT⟩:=hrel;by_cases h1:k<n
  ·obtain⟨b,o,x,rfl,a0,a4⟩:=hx.int_at h1;have HX:=Lib.hid a0;clear a0;by_cases h2:x=0
   ·have d2:(x != 0)=false:=by simp[h2]
    have H2:=Lib.hid h2;clear h2
    go_wp2
    go_round
    case rel=>exact⟨k+1,by omega,by go_num,Lib.hid (by rw[zee HX.out,List.find?_append,HT.out,H2.out];rfl)⟩
    case measure=>simp[intOf]<;>omega
   ·have d2:(x != 0)=true:=by simp[h2]
    go_wp2
    go_ret
    refine⟨zi2 ?_,rfl⟩;have a2:=List.take_append_drop (k+1) xs;unfold orI;rw[<- a2,List.find?_append,zee HX.out,List.find?_append,HT.out];simp[h2]
  ·go_wp2
   go_ret
   have ht:=HT.out;rw[List.take_of_length_le (by rw[HL.out];omega)]at ht;exact⟨zi2 (by unfold orI;rw[ht];rfl),rfl⟩
def orI_cmp(xs ys:List Int):orI [cmpI xs.length ys.length,lexI xs ys]=cmpW xs ys:=by
 unfold orI cmpI cmpW;by_cases h1:xs.length<ys.length
 ·rw[if_pos (by omega),if_pos h1];rfl
 ·by_cases h2:ys.length<xs.length
  ·rw[if_neg (by omega),if_pos (by omega),if_neg h1,if_pos h2];rfl
  ·rw[if_neg (by omega),if_neg (by omega),if_neg h1,if_neg h2];by_cases h3:lexI xs ys=0
   ·simp[h3]
   ·simp[h3]
def src_two{w:World}(x y:Value)(t:TypeId):Src (w.alloc (.cells #[x,y] t)) (some ⟨w.heap.size,0,none⟩) 2 [x,y] :=
 ⟨rfl,λ_=>⟨_,_,rfl,λj u hu=>by
  have:=cell_two_new w x y t j u hu
  rwa [addr_add]at this⟩⟩
def ints_row{w:World}(x y:Int)(t:TypeId):zgm (w.alloc (.cells #[.int .i64 x,.int .i64 y] t)) znn (some ⟨w.heap.size,0,none⟩) 2 2 [x,y]:=by
 refine⟨rfl,Nat.le_refl _,by omega,λ_=>⟨_,_,rfl,λi z hz=>?_⟩⟩;obtain⟨_,hc⟩:=src_two (w:=w) (.int .i64 x) (.int .i64 y) t;obtain⟨b,o,e,a0⟩:=hc (by omega);injection e with e
 injection e with e1 e2
 subst e1 e2
 match i,hz with
 |0,hz =>
  simp at hz;subst hz;exact⟨_,a0 0 _ rfl,rfl⟩
 |1,hz =>
  simp at hz;subst hz;exact⟨_,a0 1 _ rfl,rfl⟩
set_option maxHeartbeats 400000 in
def zqf{A B:Option Addr}{n c m c':Nat}{xs ys:List Int}{w:World}(hx:zgm w znn A n c xs)(hy:zgm w znn B m c' ys) :
  Calls Tryz.prog 130 #[.slice A n c,.slice B m c'] w λe w'=>e=.returned (.int .i64 (cmpW xs ys))/\w.alloc (.cells #[.int .i64 (cmpI xs.length ys.length),.int .i64 (lexI xs ys)] 3)=w':=by
 have hn:=hx.small;have hm:=hy.small;have a0:=Lib.hid (zi5 hx hy);have HE:=Lib.hid (orI_cmp xs ys);have h1:=hx.len;have h2:=hy.len;have HO:=Lib.hid (λt=>cmpOr_any (ints_row (w:=w) (cmpI xs.length ys.length) (lexI xs ys) t));rw[h1,h2]at HE HO;rw[h1,h2];clear h1 h2 hx hy
 go_enter Tryz.func130,Tryz.ntmps130
 go_wp2_with (first|(go_at_call 153;refine(zis _ _ _).mono ?_;rintro e w' ⟨rfl,rfl⟩)|(go_at_call 154;refine a0.out.mono ?_;rintro e w' ⟨rfl,rfl⟩)|(go_at_call 152;refine(HO.out _).mono ?_;rintro e w' ⟨rfl,rfl⟩))
 go_ret
 exact⟨zi2 HE.out,rfl⟩
end
end Go.Proofs.YtkeplokjplkcmaaGreat
namespace Go.Proofs
section
open Go.Shelf
def Tryz.sortW_ren:Go.Shelf.Ren:=⟨fun|6=>149|15=>159|14=>162|28=>172|29=>173|20=>175|21=>176|22=>177|23=>178|24=>179|25=>180|26=>181|27=>182|46=>188|47=>184|48=>185|49=>189|50=>190|57=>192|n=>n,fun|22=>22|24=>60|25=>72|3=>3|39=>191|0=>0|53=>202|55=>204|4=>4|46=>196|45=>195|50=>74|5=>5|9=>9|66=>213|70=>217|76=>221|77=>222|n=>n,fun|n=>n⟩
def Tryz.sortW:Go.Proofs.SlLaysF.n6 Tryz.prog Tryz.sortW_ren:={
 mixed:=by kernel_rfl
 f6:=⟨Tryz.f149.name,by decide,Tryz.func149.trans (congrArg some (by kernel_rfl))⟩
 f14:=⟨Tryz.f162.name,by decide,Tryz.func162.trans (congrArg some (by kernel_rfl))⟩
 f15:=Tryz.func159.trans (congrArg some (by kernel_rfl))
 f20:=⟨Tryz.f175.name,by decide,Tryz.func175.trans (congrArg some (by kernel_rfl))⟩
 f21:=⟨Tryz.f176.name,by decide,Tryz.func176.trans (congrArg some (by kernel_rfl))⟩
 f22:=⟨Tryz.f177.name,by decide,Tryz.func177.trans (congrArg some (by kernel_rfl))⟩
 f23:=⟨Tryz.f178.name,by decide,Tryz.func178.trans (congrArg some (by kernel_rfl))⟩
 f24:=⟨Tryz.f179.name,by decide,Tryz.func179.trans (congrArg some (by kernel_rfl))⟩
 f25:=⟨Tryz.f180.name,by decide,Tryz.func180.trans (congrArg some (by kernel_rfl))⟩
 f26:=⟨Tryz.f181.name,by decide,Tryz.func181.trans (congrArg some (by kernel_rfl))⟩
 f27:=⟨Tryz.f182.name,by decide,Tryz.func182.trans (congrArg some (by kernel_rfl))⟩
 f28:=Tryz.func172.trans (congrArg some (by kernel_rfl))
 f29:=Tryz.func173.trans (congrArg some (by kernel_rfl))
 f46:=⟨Tryz.f188.name,by decide,Tryz.func188.trans (congrArg some (by kernel_rfl))⟩
 f47:=Tryz.func184.trans (congrArg some (by kernel_rfl))
 f48:=Tryz.func185.trans (congrArg some (by kernel_rfl))
 f49:=⟨Tryz.f189.name,by decide,Tryz.func189.trans (congrArg some (by kernel_rfl))⟩
 f50:=⟨Tryz.f190.name,by decide,Tryz.func190.trans (congrArg some (by kernel_rfl))⟩
 f57:=⟨Tryz.f192.name,by decide,Tryz.func192.trans (congrArg some (by kernel_rfl))⟩
 t0:=Tryz.underlying0
 a0:=Tryz.isAgg0
 z0:=Tryz.sizeOf0
 v0:=Tryz.zeroValue0
 t3:=Tryz.underlying3
 a3:=Tryz.isAgg3
 z3:=Tryz.sizeOf3
 v3:=Tryz.zeroValue3
 t4:=Tryz.underlying4
 a4:=Tryz.isAgg4
 z4:=Tryz.sizeOf4
 v4:=Tryz.zeroValue4
 t5:=Tryz.underlying5
 a5:=Tryz.isAgg5
 z5:=Tryz.sizeOf5
 v5:=Tryz.zeroValue5
 t9:=Tryz.underlying9
 a9:=Tryz.isAgg9
 z9:=Tryz.sizeOf9
 v9:=Tryz.zeroValue9
 t22:=Tryz.underlying22
 a22:=Tryz.isAgg22
 z22:=Tryz.sizeOf22
 v22:=Tryz.zeroValue22
 a24:=Tryz.isAgg60
 z24:=Tryz.sizeOf60
 t25:=Tryz.underlying72
 a25:=Tryz.isAgg72
 z25:=Tryz.sizeOf72
 v25:=Tryz.zeroValue72
 t39:=Tryz.underlying191
 a39:=Tryz.isAgg191
 z39:=Tryz.sizeOf191
 v39:=Tryz.zeroValue191
 t45:=Tryz.underlying195
 a45:=Tryz.isAgg195
 z45:=Tryz.sizeOf195
 v45:=Tryz.zeroValue195
 t46:=Tryz.underlying196
 a46:=Tryz.isAgg196
 z46:=Tryz.sizeOf196
 v46:=Tryz.zeroValue196
 t50:=Tryz.underlying74
 a50:=Tryz.isAgg74
 z50:=Tryz.sizeOf74
 v50:=Tryz.zeroValue74
 t53:=Tryz.underlying202
 a53:=Tryz.isAgg202
 z53:=Tryz.sizeOf202
 v53:=Tryz.zeroValue202
 t55:=Tryz.underlying204
 a55:=Tryz.isAgg204
 z55:=Tryz.sizeOf204
 v55:=Tryz.zeroValue204
 t66:=Tryz.underlying213
 a66:=Tryz.isAgg213
 z66:=Tryz.sizeOf213
 v66:=Tryz.zeroValue213
 t70:=Tryz.underlying217
 a70:=Tryz.isAgg217
 z70:=Tryz.sizeOf217
 v70:=Tryz.zeroValue217
 t76:=Tryz.underlying221
 a76:=Tryz.isAgg221
 z76:=Tryz.sizeOf221
 v76:=Tryz.zeroValue221
 t77:=Tryz.underlying222
 a77:=Tryz.isAgg222
 z77:=Tryz.sizeOf222
 v77:=Tryz.zeroValue222 }
def Tryz.sortF_ren:Go.Shelf.Ren:=⟨fun|14=>158|20=>164|21=>165|22=>166|23=>167|24=>168|25=>169|26=>170|27=>171|46=>183|47=>184|48=>185|49=>186|50=>187|15=>159|57=>191|28=>172|29=>173|n=>n,fun|24=>70|22=>33|3=>3|25=>124|4=>4|0=>0|46=>196|45=>195|50=>74|66=>213|39=>191|55=>204|70=>217|76=>221|77=>222|53=>202|5=>5|9=>9|n=>n,fun|n=>n⟩
def Tryz.sortF:Go.Proofs.SlLaysF0.n14 Tryz.prog Tryz.sortF_ren:={
 mixed:=by kernel_rfl
 f14:=⟨Tryz.f158.name,by decide,Tryz.func158.trans (congrArg some (by kernel_rfl))⟩
 f15:=Tryz.func159.trans (congrArg some (by kernel_rfl))
 f20:=⟨Tryz.f164.name,by decide,Tryz.func164.trans (congrArg some (by kernel_rfl))⟩
 f21:=⟨Tryz.f165.name,by decide,Tryz.func165.trans (congrArg some (by kernel_rfl))⟩
 f22:=⟨Tryz.f166.name,by decide,Tryz.func166.trans (congrArg some (by kernel_rfl))⟩
 f23:=⟨Tryz.f167.name,by decide,Tryz.func167.trans (congrArg some (by kernel_rfl))⟩
 f24:=⟨Tryz.f168.name,by decide,Tryz.func168.trans (congrArg some (by kernel_rfl))⟩
 f25:=⟨Tryz.f169.name,by decide,Tryz.func169.trans (congrArg some (by kernel_rfl))⟩
 f26:=⟨Tryz.f170.name,by decide,Tryz.func170.trans (congrArg some (by kernel_rfl))⟩
 f27:=⟨Tryz.f171.name,by decide,Tryz.func171.trans (congrArg some (by kernel_rfl))⟩
 f28:=Tryz.func172.trans (congrArg some (by kernel_rfl))
 f29:=Tryz.func173.trans (congrArg some (by kernel_rfl))
 f46:=⟨Tryz.f183.name,by decide,Tryz.func183.trans (congrArg some (by kernel_rfl))⟩
 f47:=Tryz.func184.trans (congrArg some (by kernel_rfl))
 f48:=Tryz.func185.trans (congrArg some (by kernel_rfl))
 f49:=⟨Tryz.f186.name,by decide,Tryz.func186.trans (congrArg some (by kernel_rfl))⟩
 f50:=⟨Tryz.f187.name,by decide,Tryz.func187.trans (congrArg some (by kernel_rfl))⟩
 f57:=⟨Tryz.f191.name,by decide,Tryz.func191.trans (congrArg some (by kernel_rfl))⟩
 t0:=Tryz.underlying0
 a0:=Tryz.isAgg0
 z0:=Tryz.sizeOf0
 v0:=Tryz.zeroValue0
 t3:=Tryz.underlying3
 a3:=Tryz.isAgg3
 z3:=Tryz.sizeOf3
 v3:=Tryz.zeroValue3
 t4:=Tryz.underlying4
 a4:=Tryz.isAgg4
 z4:=Tryz.sizeOf4
 v4:=Tryz.zeroValue4
 t5:=Tryz.underlying5
 a5:=Tryz.isAgg5
 z5:=Tryz.sizeOf5
 v5:=Tryz.zeroValue5
 t9:=Tryz.underlying9
 a9:=Tryz.isAgg9
 z9:=Tryz.sizeOf9
 v9:=Tryz.zeroValue9
 t22:=Tryz.underlying33
 a22:=Tryz.isAgg33
 z22:=Tryz.sizeOf33
 v22:=Tryz.zeroValue33
 t25:=Tryz.underlying124
 a25:=Tryz.isAgg124
 z25:=Tryz.sizeOf124
 v25:=Tryz.zeroValue124
 t39:=Tryz.underlying191
 a39:=Tryz.isAgg191
 z39:=Tryz.sizeOf191
 v39:=Tryz.zeroValue191
 t45:=Tryz.underlying195
 a45:=Tryz.isAgg195
 z45:=Tryz.sizeOf195
 v45:=Tryz.zeroValue195
 t46:=Tryz.underlying196
 a46:=Tryz.isAgg196
 z46:=Tryz.sizeOf196
 v46:=Tryz.zeroValue196
 t50:=Tryz.underlying74
 a50:=Tryz.isAgg74
 z50:=Tryz.sizeOf74
 v50:=Tryz.zeroValue74
 t53:=Tryz.underlying202
 a53:=Tryz.isAgg202
 z53:=Tryz.sizeOf202
 v53:=Tryz.zeroValue202
 t55:=Tryz.underlying204
 a55:=Tryz.isAgg204
 z55:=Tryz.sizeOf204
 v55:=Tryz.zeroValue204
 t66:=Tryz.underlying213
 a66:=Tryz.isAgg213
 z66:=Tryz.sizeOf213
 v66:=Tryz.zeroValue213
 t70:=Tryz.underlying217
 a70:=Tryz.isAgg217
 z70:=Tryz.sizeOf217
 v70:=Tryz.zeroValue217
 t76:=Tryz.underlying221
 a76:=Tryz.isAgg221
 z76:=Tryz.sizeOf221
 v76:=Tryz.zeroValue221
 t77:=Tryz.underlying222
 a77:=Tryz.isAgg222
 z77:=Tryz.sizeOf222
 v77:=Tryz.zeroValue222 }
end
end Go.Proofs
namespace Go.Proofs.YtkeplokjplkcmaaGreat.Sym
section
open Go.RowKit Go.Sort
def putRow_map{E:Type}[Inhabited E](enc:E->Value)(w:World)(blk off:Nat)(d:Array E):putRow enc w blk off d=putRow id w blk off (d.map enc):=by
 unfold putRow;congr 1;funext c;unfold putCells;congr 1;funext k x;rw[Array.size_map];by_cases h:off<=k/\k<off+d.size
 ·have h1:k-off<d.size:=by omega
  rw[if_pos h,if_pos h,getElem!_pos d _ h1,getElem!_pos (d.map enc) _ (by simpa using h1)];simp
 ·rw[if_neg h,if_neg h]
def holds_map{E:Type}[Inhabited E]{enc:E->Value}{w:World}{blk off:Nat}{d:Array E}(h:Go.Sort.Holds id w blk off (d.map enc)):Go.Sort.Holds enc w blk off d:=λj hj=>by
 have:=h j (by simpa using hj);rw[getElem!_pos (d.map enc) _ (by simpa using hj)]at this;rw[getElem!_pos d _ hj];simpa using this
def one1(us:List Value):Value:=us.headD undef
def flat_one1{E:Type}[Inhabited E]{enc:E->List Value}(hk:∀x,(enc x).length=1)(d:Array E):Go.Sort.flatK enc 1 d=d.map λx=>one1 (enc x):=by
 rw[ztd hk]
 have:(d.toList.map enc).flatten=d.toList.map λx=>one1 (enc x):=by
  generalize d.toList=l
  induction l with
  |nil=>rfl
  |cons x l ih =>
   rw[yav,ybu,ih,yav];have:=hk x
   match h:enc x,this with
   |[v],_=>rfl
 rw[this];apply ye7;simp
def sortC_words:SortC Tryz.prog 149 1 one1:=by
 refine⟨λp a0 fv w=>AnyF.slices_SortFunc_none { Tryz.sortW with } p a0 fv w,?_⟩;intro E _ enc cf g a2 a0 d w hk h1 hO eg a3 hH a4 a6;have e1:∀m (dk:Array E),putRow (λx=>one1 (enc x)) (Sort.ahead w m) a2 0 dk=putRow id (Sort.ahead w m) a2 0 (Go.Sort.flatK enc 1 dk):=λm dk=>by rw[flat_one1 hk,putRow_map]
 have a5:OneCell λx=>one1 (enc x):=λx=>by
  have h2:=hk x;have h3:=h1 x
  match h:enc x,h2 with
  |[v],_ =>
   show(one1 (enc x)).oneCell'=true;rw[h]at h3 ⊢;exact h3 v (by simp)
 refine(Any.slices_SortFunc Tryz.sortW (λx=>one1 (enc x)) a5 cf hO g #[] a2 0 a0 d w eg (λm os dk hs x y=>?_) (holds_map (by rw[<- flat_one1 hk];exact hH)) a4 a6).mono ?_
 ·have:=a3 m os dk hs x y;unfold sortWorld;rw[e1];simpa using this
 ·rintro e w' ⟨he,d',n,os,hp,hs,hw⟩;exact⟨he,d',n,os,hp,hs,by rw[hw];unfold sortWorld;rw[e1]⟩
def aggF:∀w,(isAgg (Tryz.sortF_ren.t 24)).run Tryz.prog w=.ok true w:=Tryz.isAgg70
def sizF:∀w,(Go.sizeOf (Tryz.sortF_ren.t 24)).run Tryz.prog w=.ok 2 w:=Tryz.sizeOf70
set_option maxHeartbeats 2000000 in
def sortC_traces:SortC Tryz.prog 141 2 (λus=>.agg us.toArray):=by
 refine⟨λp a3 fv w=>?_,?_⟩
 ·have hp:=λa9 W=>AnyF.pdqsortCmpFunc_none (P:=Tryz.prog) (ρ:=Tryz.sortF_ren) Tryz.sortF p a3 a9 fv W
  have hl:∀W,Calls Tryz.prog 159 #[.int .u64 0] W λe w'=>e=.returned (.int .i64 (Lib.bitLen 0:Nat))/\w'=W:=λW=>by
   have h:=Any.bits_Len (SlLaysF0.n15.bits (P:=Tryz.prog) (ρ:=Tryz.sortF_ren) { Tryz.sortF with }) 0 W (by omega) (by omega);exact h
  go_enter Tryz.func141,Tryz.ntmps141
  go_wp2_with (first|(go_at_call 159;refine(hl _).mono ?_;rintro e w' ⟨rfl,rfl⟩)|(go_at_call 158;refine(hp _ _).mono ?_;rintro e w' ⟨rfl,rfl⟩))
  go_end0
  exact⟨rfl,rfl⟩
 ·intro E _ enc cf g a6 a3 d w hk h1 hO eg a2 hH a4 a8;have a7:Lib.bitLen d.size<4611686018427387904:=Nat.lt_of_le_of_lt (Lib.bitLen_le d.size 62 (by omega) (by omega)) (by omega)
  have a0:CmpLays Tryz.prog g #[] enc 2 cf a6 0 d.size w:=λm os dk hs x y=>by
   unfold sortWorldK putRowK;simpa using a2 m os dk hs x y
  have hp:=AnyQ.pdqsortCmpFunc_all (P:=Tryz.prog) (ρ:=Tryz.sortF_ren) Tryz.sortF 2 aggF sizF enc cf g #[] hO a6 0 a3 d w eg a0 ⟨hk,h1,hH,a4⟩ (d.size+1) 0 d.size (Lib.bitLen d.size) d w (by omega) rfl (SWK.start hH) (yaf _) (yaq _) a8 a7 (Or.inl rfl)
  have hl:Calls Tryz.prog 159 #[.int .u64 (d.size:Int)] w λe w'=>e=.returned (.int .i64 (Lib.bitLen d.size:Nat))/\w'=w:=by
   have h:=Any.bits_Len (SlLaysF0.n15.bits (P:=Tryz.prog) (ρ:=Tryz.sortF_ren) { Tryz.sortF with }) (d.size:Int) w (by omega) (by omega)
   rwa [yah]at h
  have wr:IntKind.u64.wrap (d.size:Int)=d.size:=by simp[IntKind.wrap,IntKind.bits,IntKind.signed];omega
  have a5:=pdq_sorts (ltOf cf) hO d 0 d.size (Lib.bitLen d.size) true true (yaf _) (yaq _) (Or.inl rfl);clear hH a2 a0 hk h1
  go_enter Tryz.func141,Tryz.ntmps141
  go_wp2_with (first|(go_at_call 159;refine hl.mono ?_;rintro e w' ⟨rfl,rfl⟩)|(go_at_call 158;refine hp.mono ?_;rintro e w' ⟨rfl,n,os,rfl⟩))
  go_end0
  exact⟨rfl,_,n,os,a5.1,a5.2,rfl⟩
def cmpG_compare{f:yab->yab->Option Int}(hf:∀x y r,x.length<=17592186044416->f x y=some r->r=cmpW x y):CmpG Tryz.prog 130 (nL cI) f:=by
 intro W S u u' x y r h hu a0;obtain⟨A,n,c,rfl,h1⟩:=zhs hu;have:=hf x y r (by rw[h1.len];exact h1.small) h;subst this;obtain⟨B,m,c',rfl,h2⟩:=zhs a0;refine(zqf h1 h2).mono λe w' ⟨he,hw⟩=>⟨he,0,#[.cells #[.int .i64 (cmpI x.length y.length),.int .i64 (lexI x y)] 3],?_⟩;rw[<- hw,Sort.alloc_eq_grow];rfl
def rep_two{w:World}{S:Nat->Prop}{u:Value}{x y:IV}(h:RepI w S u (.agg [x,y])):∃a b,u=.agg #[a,b]/\RepI w S a x/\RepI w S b y:=by
 generalize hz:IV.agg [x,y]=z at h;cases h with
 |agg us cs hl h1 hr =>
  injection hz with hz
  subst hz
  match us,hl with
  |[a,b],_=>exact⟨a,b,rfl,hr 0 a x rfl rfl,hr 1 b y rfl rfl⟩
 |_=>cases hz
set_option maxHeartbeats 400000 in
def fits1_any{A A' B B':Option Addr}{n c m c' p q p' q':Nat}{xs ys:yab}{w:World}(hx:zgm w znn A n c xs)(hy:zgm w znn B m c' ys) :
  Calls Tryz.prog 142 #[.agg #[.slice A n c,.slice A' p q],.agg #[.slice B m c',.slice B' p' q']] w λe w'=>e=.returned (.int .i64 (lexI xs ys))/\∃q os,w'=Sort.grow (w.drewN q) os:=by
 have key:∀o o',∃q os,(w.alloc o).alloc o'=Sort.grow (w.drewN q) os:=λo o'=>⟨0,#[o]++#[o'],by
  rw[Sort.alloc_eq_grow,Sort.alloc_eq_grow,Sort.grow_grow]
  rfl⟩
 have a2:∀o o',zgm ((w.alloc o).alloc o') znn A n c xs:=λo o'=>(hx.kept (zf3 (World.grownBy_alloc w o none))).kept (zf3 (World.grownBy_alloc _ o' none));have a0:∀o o',zgm ((w.alloc o).alloc o') znn B m c' ys:=λo o'=>(hy.kept (zf3 (World.grownBy_alloc w o none))).kept (zf3 (World.grownBy_alloc _ o' none))
 go_enter Tryz.func142,Tryz.ntmps142
 go_wp2_with (go_at_call 143;refine(wordLex_any (a2 _ _) (a0 _ _)).mono ?_;rintro e w' ⟨rfl,rfl⟩)
 go_ret
 exact⟨rfl,key _ _⟩
def cmpG_fits1{T:Type}{X:T->IV}{i o:T->yab}(hX:∀x,X x=.agg [nL cI (i x),nL cI (o x)]){f:T->T->Option Int}(hf:∀x y r,(i x).length<=17592186044416->f x y=some r->r=lexI (i x) (i y)):CmpG Tryz.prog 142 X f:=by
 intro W S u u' x y r h hu a0;rw[hX]at hu a0;obtain⟨a,b,rfl,ha,hb⟩:=rep_two hu;obtain⟨a',b',rfl,a3,a2⟩:=rep_two a0;obtain⟨A,n,c,rfl,h1⟩:=zhs ha;have:=hf x y r (by rw[h1.len];exact h1.small) h;subst this;obtain⟨B,m,c',rfl,h2⟩:=zhs a3;obtain⟨_,_,_,rfl,_⟩:=zhs hb;obtain⟨_,_,_,rfl,_⟩:=zhs a2;exact fits1_any h1 h2
def rep_of_one{W:World}{S:Nat->Prop}{us:List Value}{x:IV}(hl:us.length=1)(hr:zic W S us [x]):RepI W S (one1 us) x:=by
 match us,hl with
 |[u],_=>exact hr.2 0 u x rfl rfl
def CmpE{T:Type}(P:Program)(g:FuncId)(X:T->IV)(f:T->T->Option Int):Prop:=(∀args w,(callFunc g args).run P w=.ok (.enter g args) w)/\CmpG P g X f
end
section
open Go.RowKit
set_option linter.unusedVariables false
set_option maxHeartbeats 4000000
def zly{α:Type}(by_:Nat)(l:List α):Option (List α):=chk (za5 l.length by_) (some l)
def zfl(l:yab):Option (yab):=zly 8 l
def zkf(l r:yab)(h:zfl l=some r):Sp Tryz.prog 121 [.im (nL cI l)] (.row 3 1 (List.map cI r)):=by
 obtain⟨h1,h⟩:=zan h;injection h with h
 subst h;exact zmc (by_:=8) (λargs w=>ze1 rfl rfl rfl args w) (by decide) clone_int (λe he=>by obtain⟨y,_,rfl⟩:=yao.1 he;rfl) (by rw[zkK];exact h1)
def zgi(l:yaa):Option (yaa):=zly 24 l
def znw(l r:yaa)(h:zgi l=some r):Sp Tryz.prog 148 [.im (nL (cL cI) l)] (.row 60 1 (List.map (cL cI) r)):=by
 obtain⟨h1,h⟩:=zan h;injection h with h
 subst h;exact zmc (by_:=24) (λargs w=>ze1 rfl rfl rfl args w) (by decide) clone_words (λe he=>by obtain⟨y,_,rfl⟩:=yao.1 he;rfl) (by rw[zkK];exact h1)
def zgh(l:yaa)(f:(yab)->(yab)->Option Int):Option (yaa):=zn8 l f
def zkt(l:yaa)(f:(yab)->(yab)->Option Int)(g:FuncId)(hd:CmpE Tryz.prog g (λx=>nL cI x) f)(r:yaa)(h:zgh l f=some r):Sp Tryz.prog 149 [.lent (.row 60 1 (List.map (cL cI) l)),.im (.fn g [])] (.mk true [] [.lent (.row 60 1 (List.map (cL cI) r))]) :=
 ztc (λargs w=>ze1 rfl rfl rfl args w) sortC_words (by decide) (λ_=>rfl) (λW S us x hl h1 hr=>rep_of_one hl hr) hd.1 hd.2 h
def zhe(l:List zag):Option (List zag):=zly 48 l
def zl8(l r:List zag)(h:zhe l=some r):Sp Tryz.prog 140 [.im (nL zau l)] (.row 70 2 (List.map zau r)):=by
 obtain⟨h1,h⟩:=zan h;injection h with h
 subst h;exact zmc (by_:=48) (λargs w=>ze1 rfl rfl rfl args w) (by decide) clone_traces (λe he=>by obtain⟨y,_,rfl⟩:=yao.1 he;rfl) (by rw[zkK];exact h1)
def zf2(l:List zag)(f:zag->zag->Option Int):Option (List zag):=zn8 l f
def zkk(l:List zag)(f:zag->zag->Option Int)(g:FuncId)(hd:CmpE Tryz.prog g (λx=>.agg (zau x)) f)(r:List zag)(h:zf2 l f=some r):Sp Tryz.prog 141 [.lent (.row 70 2 (List.map zau l)),.im (.fn g [])] (.mk true [] [.lent (.row 70 2 (List.map zau r))]) :=
 ztc (λargs w=>ze1 rfl rfl rfl args w) sortC_traces (by decide) (λ_=>rfl) (λW S us x hl h1 hr=>.agg _ _ hr.1 h1 hr.2) hd.1 hd.2 h
end
section
open Go.RowKit
set_option linter.unusedVariables false
set_option maxHeartbeats 4000000
def ze0.s2(o_:zav)(a2:Nat)(a7:Nat):Option ((Nat×Nat)⊕Nat) :=
 (cond (decide ((a7:Int)<(o_.Traces.length:Int))) (some (decide ((a2:Int)<=60))) (some false):Option (Bool)).bind (λ(a8:Bool)=>cond (a8) (chk (inR ((a2:Int)+1)) (idxn o_.Traces a7 λa6=>chk (inR (((a2:Int)+1)+(a6.In.length:Int))) (chk (inR ((a7:Int)+1)) (some (.inl (((a2+1)+a6.In.length),(a7+1))))))) (some (.inr a2)))
def ze0(o_:zav):Option (Bool) :=
 (iter (λ(s:Nat×Nat)=>ze0.s2 o_ s.1 s.2) fuel (0,0):Option (Nat)).bind (λ(a6:Nat)=>(cond (decide (60<(a6:Int))) (some true) (some (decide (4<o_.Inputs))):Option (Bool)).bind (λ(a2:Bool)=>some a2))
def zno(inputs_:Int):Option (Bool) :=
 (cond (decide (1<=inputs_)) (some (decide (inputs_<=1024))) (some false):Option (Bool)).bind (λ(a2:Bool)=>some a2)
def zej.s2(w_:yab)(inputs_:Int)(a2:Nat):Option (Nat⊕(Unit⊕Int)) :=
 cond (decide ((a2:Int)<(w_.length:Int))) ((idxn w_ a2 λa6=>cond (decide (a6<0)) (some true) (idxn w_ a2 λa7=>some (decide (inputs_<=a7))):Option (Bool)).bind (λ(a8:Bool)=>cond (a8) (some (.inr (.inr 1))) (some (.inl (a2+1))))) (some (.inr (.inl ())))
def zej(w_:yab)(inputs_:Int):Option (Int) :=
 (zno inputs_).bind λa2=>cond ((!a2)) (some 2) (cond (decide (1024<(w_.length:Int))) (some 3) ((iter (λ(s:Nat)=>zej.s2 w_ inputs_ s) fuel 0:Option (Unit⊕Int)).bind (Sum.elim (λ(_:Unit)=>some 0) some)))
def zd0.s2(a_:yab)(b_:yab)(a2:Nat):Option (Nat⊕Nat) :=
 (cond (decide ((a2:Int)<(a_.length:Int))) (cond (decide ((a2:Int)<(b_.length:Int))) (idxn a_ a2 λa6=>idxn b_ a2 λa7=>some (decide (a6=a7))) (some false)) (some false):Option (Bool)).bind (λ(a8:Bool)=>cond (a8) (chk (inR ((a2:Int)+1)) (some (.inl (a2+1)))) (some (.inr a2)))
def zd0(a_:yab)(b_:yab):Option (Int) :=
 (iter (λ(s:Nat)=>zd0.s2 a_ b_ s) fuel 0:Option (Nat)).bind (λ(a2:Nat)=>some (a2:Int))
def zq6(a_:yab)(b_:yab):Option (Int) :=
 (zd0 a_ b_).bind λa2=>(cond (decide (a2=(a_.length:Int))) (some (decide (a2=(b_.length:Int)))) (some false):Option (Bool)).bind (λ(a6:Bool)=>cond (a6) (some 0) ((cond (decide (a2=(a_.length:Int))) (some (decide (a2=(a_.length:Int)))) (cond (decide (a2<(b_.length:Int))) (idx a_ a2 λa7=>idx b_ a2 λa8=>some (decide (a7<a8))) (some false)):Option (Bool)).bind (λ(b0:Bool)=>cond (b0) (some (-1:Int)) (some 1))))
def zf6(a_:yab)(b_:yab):Option (Int) :=
 cond (decide ((a_.length:Int)<(b_.length:Int))) (some (-1:Int)) (cond (decide ((b_.length:Int)<(a_.length:Int))) (some 1) ((zq6 a_ b_).bind λa2=>some a2))
def zea.s2(t_:zag)(a2:Nat):Option (Nat⊕(Unit⊕Int)) :=
 cond (decide ((a2:Int)<(t_.Out.length:Int))) ((idxn t_.Out a2 λa6=>cond (decide (a6<0)) (some true) (idxn t_.Out a2 λa7=>some (decide (1048576<a7))):Option (Bool)).bind (λ(a8:Bool)=>cond (a8) (some (.inr (.inr 2))) (some (.inl (a2+1))))) (some (.inr (.inl ())))
def zea(t_:zag)(inputs_:Int):Option (Int) :=
 (zej t_.In inputs_).bind λa2=>cond (decide (a2≠0)) (some a2) (cond (decide ((t_.Out.length:Int)≠(t_.In.length:Int))) (some 1) ((iter (λ(s:Nat)=>zea.s2 t_ s) fuel 0:Option (Unit⊕Int)).bind (Sum.elim (λ(_:Unit)=>some 0) some)))
def zfo(w_:yab)(p_:yab):Option (Bool) :=
 (zd0 w_ p_).bind λa2=>some (decide (a2=(p_.length:Int)))
def zec.s2(a_:zag)(b_:zag)(a6:Int)(a2:Nat):Option (Nat⊕(Unit⊕Int)) :=
 cond (decide ((a2:Int)<a6)) (idxn a_.Out a2 λa7=>idxn b_.Out a2 λa8=>cond (decide (a7≠a8)) (some (.inr (.inr (a2:Int)))) (chk (inR ((a2:Int)+1)) (some (.inl (a2+1))))) (some (.inr (.inl ())))
def zec(a_:zag)(b_:zag):Option (Int) :=
 (zd0 a_.In b_.In).bind λa2=>(iter (λ(s:Nat)=>zec.s2 a_ b_ a2 s) fuel 0:Option (Unit⊕Int)).bind (Sum.elim (λ(_:Unit)=>some (-1:Int)) some)
def zcm.s30(o_:zav)(a6:Nat)(prefix714:Bool)(clash715:Bool)(a2:Nat):Option ((Bool×Bool×Nat)⊕(Bool×Bool)) :=
 cond (decide ((a2:Int)<(o_.Traces.length:Int))) ((cond (prefix714) (some true) (idxn o_.Traces a2 λa7=>idxn o_.Traces a6 λa8=>(zfo a7.In a8.In).bind λb0=>some b0):Option (Bool)).bind (λ(prefix741:Bool)=>cond (clash715) (some (.inl (prefix741,true,(a2+1)))) (idxn o_.Traces a6 λb2=>idxn o_.Traces a2 λb3=>(zec b2 b3).bind λb4=>some (.inl (prefix741,decide (0<=b4),(a2+1)))))) (some (.inr (prefix714,clash715)))
def zcm.k31(a2:Nat)(prefix693:Bool)(clash694:Bool):Option (Nat⊕(Unit⊕Int)) :=
 cond (prefix693) (some (.inr (.inr 7))) (cond (clash694) (some (.inr (.inr 13))) (some (.inl (a2+1))))
def zcm.s32(o_:zav)(a2:Nat):Option (Nat⊕(Unit⊕Int)) :=
 cond (decide ((a2:Int)<(o_.Traces.length:Int))) ((iter (λ(s:Bool×Bool×Nat)=>zcm.s30 o_ a2 s.1 s.2.1 s.2.2) fuel (false,false,(a2+1)):Option (Bool×Bool)).bind (λ(s:Bool×Bool)=>zcm.k31 a2 s.1 s.2)) (some (.inr (.inl ())))
def zcm(o_:zav):Option (Int) :=
 (iter (λ(s:Nat)=>zcm.s32 o_ s) fuel 0:Option (Unit⊕Int)).bind (Sum.elim (λ(_:Unit)=>some 0) some)
def zex.s2(o_:zav)(a2:Nat):Option (Nat⊕(Unit⊕Int)) :=
 cond (decide ((a2:Int)<(o_.Traces.length:Int))) (idxn o_.Traces a2 λa6=>(zej a6.In o_.Inputs).bind λa7=>cond (decide (a7≠0)) (some (.inr (.inr a7))) (cond (decide ((a6.In.length:Int)=0)) (some (.inr (.inr 19))) ((zea a6 o_.Inputs).bind λa8=>cond (decide (a8≠0)) (some (.inr (.inr a8))) ((cond (decide (0<(a2:Int))) (idx o_.Traces ((a2:Int)-1) λb0=>(zf6 b0.In a6.In).bind λb2=>some (decide (0<=b2))) (some false):Option (Bool)).bind (λ(b3:Bool)=>cond (b3) (some (.inr (.inr 10))) (some (.inl (a2+1)))))))) (some (.inr (.inl ())))
def zex(o_:zav):Option (Int) :=
 (cond (decide (o_.Inputs<1)) (some true) (some (decide (64<o_.Inputs))):Option (Bool)).bind (λ(a6:Bool)=>cond (a6) (some 2) (cond (decide (10000<(o_.Traces.length:Int))) (some 11) ((iter (λ(s:Nat)=>zex.s2 o_ s) fuel 0:Option (Unit⊕Int)).bind (Sum.elim (λ(_:Unit)=>(zcm o_).bind λa2=>some a2) some))))
def zfi.s2(l_:yaa)(w_:yab)(low84:Nat)(high85:Nat):Option ((Nat×Nat)⊕Nat) :=
 cond (decide ((low84:Int)<(high85:Int))) (chk (inR ((low84:Int)+(high85:Int))) (chk (inR (((low84:Int)+(high85:Int)) / 2)/\(0:Int)<=((low84:Int)+(high85:Int))/\(1:Int)<=2) (idxn l_ ((low84+high85) / 2) λa2=>(zf6 a2 w_).bind λa6=>cond (decide (a6<0)) (chk (inR ((((low84:Int)+(high85:Int)) / 2)+1)) (some (.inl ((((low84+high85) / 2)+1),high85)))) (some (.inl (low84,((low84+high85) / 2))))))) (some (.inr low84))
def zfi(l_:yaa)(w_:yab):Option (Int) :=
 (iter (λ(s:Nat×Nat)=>zfi.s2 l_ w_ s.1 s.2) fuel (0,l_.length):Option (Nat)).bind (λ(low77:Nat)=>some (low77:Int))
def zgf(a_:yab)(b_:yab):Option (Bool) :=
 (cond (decide ((a_.length:Int)=(b_.length:Int))) ((zd0 a_ b_).bind λa2=>some (decide (a2=(a_.length:Int)))) (some false):Option (Bool)).bind (λ(a6:Bool)=>some a6)
def zfp.s2(a8:Int)(a6:yaa)(a2:Int):Option ((yaa×Int)⊕yaa) :=
 cond (decide (a8<a2)) (chk (inR (a2-1)) (idx a6 (a2-1) λa7=>idx a6 a2 λb0=>chk (inR (a2-1)) (some (.inl ((List.set a6 a2.toNat a7),(a2-1)))))) (some (.inr a6))
def zfp(l_:yaa)(w_:yab):Option (yaa) :=
 (zfi l_ w_).bind λa2=>(cond (decide (a2<(l_.length:Int))) (idx l_ a2 λa7=>(zgf a7 w_).bind λa8=>some a8) (some false):Option (Bool)).bind (λ(b0:Bool)=>cond (b0) (some l_) (chk (za5 (List.length l_+1) 24) (chk (inR ((↑(List.length (l_++[[]])):Int)-1)) ((iter (λ(s:yaa×Int)=>zfp.s2 a2 s.1 s.2) fuel ((l_++[[]]),((↑(List.length (l_++[[]])):Int)-1)):Option (yaa)).bind (λ(a6:yaa)=>chk (za5 (List.length ([]:List Unit)+List.length w_) 8) (idx a6 a2 λb2=>some (List.set a6 a2.toNat ([]++w_))))))))
def zcd.s13(l_:yaa)(a6:Nat)(a7:yaa)(a2:Nat):Option ((yaa×Nat)⊕yaa) :=
 idxn l_ a6 λb0=>cond (decide ((a2:Int)<=(b0.length:Int))) (idxn l_ a6 λa8=>chk ((0:Int)<=(a2:Int)/\(a2:Int)<=(a8.length:Int)) ((zfp a7 (List.take a2 a8)).bind λb2=>chk (inR ((a2:Int)+1)) (some (.inl (b2,(a2+1)))))) (some (.inr a7))
def zcd.s14(l_:yaa)(a6:yaa)(a2:Nat):Option ((yaa×Nat)⊕yaa) :=
 cond (decide ((a2:Int)<(l_.length:Int))) ((iter (λ(s:yaa×Nat)=>zcd.s13 l_ a2 s.1 s.2) fuel (a6,0):Option (yaa)).bind (λ(a7:yaa)=>some (.inl (a7,(a2+1))))) (some (.inr a6))
def zcd(l_:yaa):Option (yaa) :=
 (iter (λ(s:yaa×Nat)=>zcd.s14 l_ s.1 s.2) fuel ([],0):Option (yaa)).bind (λ(a2:yaa)=>some a2)
def zhj.s2(l_:yaa)(w_:yab)(a2:Nat):Option (Nat⊕Nat) :=
 (cond (decide ((a2:Int)<(l_.length:Int))) (idxn l_ a2 λa6=>(zgf a6 w_).bind λa7=>some (!a7)) (some false):Option (Bool)).bind (λ(a8:Bool)=>cond (a8) (chk (inR ((a2:Int)+1)) (some (.inl (a2+1)))) (some (.inr a2)))
def zhj(l_:yaa)(w_:yab):Option (Int) :=
 (iter (λ(s:Nat)=>zhj.s2 l_ w_ s) fuel 0:Option (Nat)).bind (λ(a2:Nat)=>some (a2:Int))
def zc8.s18(inputs_:Int)(a2:yab)(a6:yab)(a7:Nat):Option ((yab×yab×Nat)⊕(yab×yab)) :=
 cond (decide ((a7:Int)<inputs_)) (chk (za5 (List.length a2+1) 8) (chk (za5 (List.length a6+1) 8) (chk (inR ((a7:Int)+1)) (some (.inl ((a2++[(-1:Int)]),(a6++[(-1:Int)]),(a7+1))))))) (some (.inr (a2,a6)))
def zc8.k19(a2:yaa)(a6:yaa)(a7:Nat)(a8:yab)(b0:yab):Option ((yaa×yaa×Nat)⊕(yaa×yaa)) :=
 chk (za5 (List.length a2+List.length [a8]) 24) (chk (za5 (List.length a6+List.length [b0]) 24) (chk (inR ((a7:Int)+1)) (some (.inl ((a2++[a8]),(a6++[b0]),(a7+1))))))
def zc8.s20(inputs_:Int)(states_:Int)(a2:yaa)(a6:yaa)(a7:Nat):Option ((yaa×yaa×Nat)⊕(yaa×yaa)) :=
 cond (decide ((a7:Int)<states_)) ((iter (λ(s:yab×yab×Nat)=>zc8.s18 inputs_ s.1 s.2.1 s.2.2) fuel ([],[],0):Option (yab×yab)).bind (λ(s:yab×yab)=>zc8.k19 a2 a6 a7 s.1 s.2)) (some (.inr (a2,a6)))
def zc8.k21(inputs_:Int)(a2:yaa)(a6:yaa):Option (zaa) :=
 some (⟨inputs_,0,a2,a6⟩:zaa)
def zc8(inputs_:Int)(states_:Int):Option (zaa) :=
 (iter (λ(s:yaa×yaa×Nat)=>zc8.s20 inputs_ states_ s.1 s.2.1 s.2.2) fuel ([],[],0):Option (yaa×yaa)).bind (λ(s:yaa×yaa)=>zc8.k21 inputs_ s.1 s.2)
def zc3.s2(o_:zav)(a2:yaa)(a6:Nat):Option ((yaa×Nat)⊕yaa) :=
 cond (decide ((a6:Int)<(o_.Traces.length:Int))) (idxn o_.Traces a6 λa7=>chk (za5 (List.length a2+1) 24) (some (.inl ((a2++[a7.In]),(a6+1))))) (some (.inr a2))
def zc3.s20(b8:yaa)(a6:zag)(a8:yaa)(b0:yaa)(a2:Nat):Option ((yaa×yaa×Nat)⊕(yaa×yaa)) :=
 cond (decide ((a2:Int)<(a6.In.length:Int))) (chk ((0:Int)<=(a2:Int)/\(a2:Int)<=(a6.In.length:Int)) ((zhj b8 (List.take a2 a6.In)).bind λa7=>idx a8 a7 λb2=>idxn a6.In a2 λb3=>chk ((0:Int)<=((a2:Int)+1)/\((a2:Int)+1)<=(a6.In.length:Int)) ((zhj b8 (List.take (a2+1) a6.In)).bind λb6=>idx b2 b3 λb9=>idx b0 a7 λb4=>idxn a6.In a2 λb5=>idxn a6.Out a2 λb7=>idx b4 b5 λc0=>some (.inl ((List.set a8 (Int.toNat a7) (List.set b2 (Int.toNat b3) b6)),(List.set b0 (Int.toNat a7) (List.set b4 (Int.toNat b5) b7)),(a2+1)))))) (some (.inr (a8,b0)))
def zc3.k21(a2:Nat)(a6:yaa)(a7:yaa):Option ((yaa×yaa×Nat)⊕(yaa×yaa)) :=
 some (.inl (a6,a7,(a2+1)))
def zc3.s22(o_:zav)(b0:yaa)(a6:yaa)(a7:yaa)(a2:Nat):Option ((yaa×yaa×Nat)⊕(yaa×yaa)) :=
 cond (decide ((a2:Int)<(o_.Traces.length:Int))) (idxn o_.Traces a2 λa8=>(iter (λ(s:yaa×yaa×Nat)=>zc3.s20 b0 a8 s.1 s.2.1 s.2.2) fuel (a6,a7,0):Option (yaa×yaa)).bind (λ(s:yaa×yaa)=>zc3.k21 a2 s.1 s.2)) (some (.inr (a6,a7)))
def zc3.k23(a7:zaa)(a2:yaa)(a6:yaa):Option (zaa×Int) :=
 some ((⟨a7.Inputs,a7.Start,a2,a6⟩:zaa),0)
def zc3(o_:zav):Option (zaa×Int) :=
 (iter (λ(s:yaa×Nat)=>zc3.s2 o_ s.1 s.2) fuel ([[]],0):Option (yaa)).bind (λ(a7:yaa)=>(zcd a7).bind λa2=>cond (decide (4096<(a2.length:Int))) (some ((⟨0,0,[],[]⟩:zaa),11)) ((zc8 o_.Inputs (a2.length:Int)).bind λa6=>(iter (λ(s:yaa×yaa×Nat)=>zc3.s22 o_ a2 s.1 s.2.1 s.2.2) fuel (a6.Next,a6.Out,0):Option (yaa×yaa)).bind (λ(s:yaa×yaa)=>zc3.k23 a6 s.1 s.2)))
def zcb.s13(p_:zaa)(b0:Nat)(a8:yab)(a2:Nat):Option (Nat⊕(Unit⊕(Nat⊕(Unit⊕Int)))) :=
 cond (decide ((a2:Int)<(a8.length:Int))) (idxn a8 a2 λa6=>idxn p_.Out b0 λb2=>idxn b2 a2 λa7=>(cond (decide (a6<(-1:Int))) (some true) (cond (decide ((p_.Next.length:Int)<=a6)) (some true) (cond (decide (a7<(-1:Int))) (some true) (some (decide (1048576<a7))))):Option (Bool)).bind (λ(b3:Bool)=>cond (b3) (some (.inr (.inr (.inr (.inr 2))))) (cond ((!((decide (a6=(-1:Int)))==(decide (a7=(-1:Int)))))) (some (.inr (.inr (.inr (.inr 1))))) (some (.inl (a2+1)))))) (some (.inr (.inl ())))
def zcb.s14(p_:zaa)(a2:Nat):Option (Nat⊕(Unit⊕Int)) :=
 cond (decide ((a2:Int)<(p_.Next.length:Int))) ((idxn p_.Next a2 λa6=>cond (decide ((a6.length:Int)≠p_.Inputs)) (some true) (idxn p_.Out a2 λa7=>some (decide ((a7.length:Int)≠p_.Inputs))):Option (Bool)).bind (λ(a8:Bool)=>cond (a8) (some (.inr (.inr 1))) (idxn p_.Next a2 λb0=>(iter (λ(s:Nat)=>zcb.s13 p_ a2 b0 s) fuel 0:Option (Unit⊕(Nat⊕(Unit⊕Int)))).bind (Sum.elim (λ(_:Unit)=>some (.inl (a2+1))) some)))) (some (.inr (.inl ())))
def zcb(p_:zaa):Option (Int) :=
 (cond (decide (p_.Inputs<1)) (some true) (some (decide (64<p_.Inputs))):Option (Bool)).bind (λ(a2:Bool)=>cond (a2) (some 2) (cond (decide ((p_.Next.length:Int)=0)) (some 19) (cond (decide (4096<(p_.Next.length:Int))) (some 11) ((cond (decide (p_.Start<0)) (some true) (some (decide ((p_.Next.length:Int)<=p_.Start))):Option (Bool)).bind (λ(a6:Bool)=>cond (a6) (some 2) (cond (decide ((p_.Out.length:Int)≠(p_.Next.length:Int))) (some 1) ((iter (λ(s:Nat)=>zcb.s14 p_ s) fuel 0:Option (Unit⊕Int)).bind (Sum.elim (λ(_:Unit)=>some 0) some))))))))
def zc4.s2(up_:yab)(s68:Int):Option (Int⊕Int) :=
 idx up_ s68 λa2=>cond (decide (a2≠s68)) (idx up_ s68 λa6=>some (.inl a6)) (some (.inr s68))
def zc4(up_:yab)(s_:Int):Option (Int) :=
 (iter (λ(s:Int)=>zc4.s2 up_ s) fuel s_:Option (Int)).bind (λ(s64:Int)=>some s64)
def zcn.s2(p_:zaa)(class_:yab)(a_:Int)(a2:Nat):Option (Nat⊕(Unit⊕Int)) :=
 cond (decide ((a2:Int)<(class_.length:Int))) (idxn class_ a2 λa6=>idx p_.Next a6 λa7=>idx a7 a_ λa8=>cond (decide (a8≠(-1:Int))) (some (.inr (.inr a6))) (some (.inl (a2+1)))) (some (.inr (.inl ())))
def zcn(p_:zaa)(class_:yab)(a_:Int):Option (Int) :=
 (iter (λ(s:Nat)=>zcn.s2 p_ class_ a_ s) fuel 0:Option (Unit⊕Int)).bind (Sum.elim (λ(_:Unit)=>some (-1:Int)) some)
def zap.s2(p_:zaa)(a6:yab)(a7:yaa)(a2:Nat):Option ((yab×yaa×Nat)⊕(yab×yaa)) :=
 cond (decide ((a2:Int)<(↑(List.length (List.replicate p_.Next.length (0:Int))):Int))) (idxn a6 a2 λa8=>idxn a7 a2 λb0=>chk (inR ((a2:Int)+1)) (some (.inl ((List.set a6 a2 (a2:Int)),(List.set a7 a2 [(a2:Int)]),(a2+1))))) (some (.inr (a6,a7)))
def zap.s32(p_:zaa)(b0:yaa)(b2:Int)(b3:Int)(a6:List T_A2)(a2:Nat):Option ((List T_A2×Nat)⊕(List T_A2⊕((yab×yaa×List T_A2)⊕((yab×yaa×List T_A2)⊕(yab⊕(yab×Bool)))))) :=
 cond (decide ((a2:Int)<p_.Inputs)) ((idx b0 b2 λb4=>(zcn p_ b4 (a2:Int)).bind λa7=>idx b0 b3 λb5=>(zcn p_ b5 (a2:Int)).bind λa8=>(cond (decide (a7=(-1:Int))) (some true) (some (decide (a8=(-1:Int)))):Option (Bool)).bind (λ(b6:Bool)=>cond (b6) (some (.inl a6)) (idx p_.Out a7 λb7=>idxn b7 a2 λb8=>idx p_.Out a8 λb9=>idxn b9 a2 λc0=>cond (decide (b8≠c0)) (some (.inr (.inr (.inr (.inr (.inr (.inr ([],false)))))))) (idx p_.Next a7 λc6=>idxn c6 a2 λc7=>idx p_.Next a8 λc8=>idxn c8 a2 λc9=>chk (za5 (List.length a6+1) 16) (some (.inl (a6++[(⟨c7,c9⟩:T_A2)])))))):Option (List T_A2⊕((List T_A2×Nat)⊕(List T_A2⊕((yab×yaa×List T_A2)⊕((yab×yaa×List T_A2)⊕(yab⊕(yab×Bool)))))))).bind (Sum.elim (λ(d0:List T_A2)=>chk (inR ((a2:Int)+1)) (some (.inl (d0,(a2+1))))) some)) (some (.inr (.inl a6)))
def zap.k33(a6:yab)(a7:yaa)(a2:List T_A2):Option ((yab×yaa×List T_A2)⊕(yab⊕(yab×Bool))) :=
 chk (1<=List.length a2) (some (.inl (a6,a7,(List.drop 1 a2))))
def zap.s34(p_:zaa)(a2:yab)(a6:yaa)(a8:List T_A2):Option ((yab×yaa×List T_A2)⊕(yab⊕(yab×Bool))) :=
 cond (decide (0<(a8.length:Int))) ((idxn a8 0 λb4=>(zc4 a2 b4.f0).bind λa7=>idxn a8 0 λb5=>(zc4 a2 b5.f1).bind λb0=>cond (decide (a7=b0)) (some (.inl (a2,a6,a8))) ((iter (λ(s:List T_A2×Nat)=>zap.s32 p_ a6 a7 b0 s.1 s.2) fuel (a8,0):Option (List T_A2⊕((yab×yaa×List T_A2)⊕((yab×yaa×List T_A2)⊕(yab⊕(yab×Bool)))))).bind (Sum.elim (λ(b6:List T_A2)=>idx a2 b0 λb7=>idx a6 a7 λb2=>idx a6 b0 λb3=>chk (za5 (List.length b2+List.length b3) 8) (idx a6 a7 λb8=>some (.inl ((List.set a2 b0.toNat a7),(List.set a6 (Int.toNat a7) (b2++b3)),b6)))) some)):Option ((yab×yaa×List T_A2)⊕((yab×yaa×List T_A2)⊕(yab⊕(yab×Bool))))).bind (Sum.elim (λ(s:yab×yaa×List T_A2)=>zap.k33 s.1 s.2.1 s.2.2) some)) (some (.inr (.inl a2)))
def zap.s36(a7:yab)(a6:yab)(a2:Nat):Option ((yab×Nat)⊕yab) :=
 cond (decide ((a2:Int)<(a7.length:Int))) ((zc4 a6 (a2:Int)).bind λa8=>idxn a6 a2 λb0=>some (.inl ((List.set a6 a2 a8),(a2+1)))) (some (.inr a6))
def zap.k37(p_:zaa)(s_:Int)(t_:Int)(a7:yab)(a8:yaa):Option (yab×Bool) :=
 (iter (λ(s:yab×yaa×List T_A2)=>zap.s34 p_ s.1 s.2.1 s.2.2) fuel (a7,a8,[(⟨s_,t_⟩:T_A2)]):Option (yab⊕(yab×Bool))).bind (Sum.elim (λ(a2:yab)=>(iter (λ(s:yab×Nat)=>zap.s36 a2 s.1 s.2) fuel (a2,0):Option (yab)).bind (λ(a6:yab)=>some (a6,true))) some)
def zap(p_:zaa)(s_:Int)(t_:Int):Option (yab×Bool) :=
 chk ((0:Int)<=(p_.Next.length:Int)/\(p_.Next.length:Int)<=(p_.Next.length:Int)/\za5 (Int.toNat (p_.Next.length:Int)) 8) (chk ((0:Int)<=(p_.Next.length:Int)/\(p_.Next.length:Int)<=(p_.Next.length:Int)/\za5 (Int.toNat (p_.Next.length:Int)) 24) ((iter (λ(s:yab×yaa×Nat)=>zap.s2 p_ s.1 s.2.1 s.2.2) fuel ((List.replicate p_.Next.length (0:Int)),(List.replicate p_.Next.length ([]:yab)),0):Option (yab×yaa)).bind (λ(s:yab×yaa)=>zap.k37 p_ s_ t_ s.1 s.2)))
def za6.k53(a2:Nat)(a6:Nat)(a7:List (yab×Bool)):Option ((Nat×(List (yab×Bool))×Nat)⊕(Nat×(List (yab×Bool)))) :=
 some (.inl (a6,a7,(a2+1)))
def za6.s54(b6:yab×Bool)(a8:Nat)(b0:yab)(a6:Nat)(a2:List (yab×Bool))(a7:Nat):Option ((Nat×(List (yab×Bool))×Nat)⊕(Nat×(List (yab×Bool)))) :=
 cond (decide ((a7:Int)<(b0.length:Int))) ((idxn b0 a7 λb2=>cond (decide (b2=(-1:Int))) (some (a6,a2)) ((idxn b6.1 a8 λb3=>chk ((∀p∈a2,List.length p.1=2)) (cond (((mget [b3,(a7:Int)] a2).getD false)) (chk (inR ((a6:Int)+1)) (some (a6+1))) (some a6)):Option (Nat)).bind (λ(b4:Nat)=>idxn b6.1 a8 λb5=>chk ((∀p∈a2,List.length p.1=2)) (some (b4,(mset [b5,(a7:Int)] true a2))))):Option (Nat×(List (yab×Bool)))).bind (λ(s:Nat×(List (yab×Bool)))=>za6.k53 a7 s.1 s.2)) (some (.inr (a6,a2)))
def za6.k55(a2:Nat)(a6:Nat)(a7:List (yab×Bool)):Option ((Nat×(List (yab×Bool))×Nat)⊕Nat) :=
 some (.inl (a6,a7,(a2+1)))
def za6.s56(p_:zaa)(b0:yab×Bool)(a6:Nat)(a7:List (yab×Bool))(a2:Nat):Option ((Nat×(List (yab×Bool))×Nat)⊕Nat) :=
 cond (decide ((a2:Int)<(p_.Next.length:Int))) (idxn p_.Next a2 λa8=>(iter (λ(s:Nat×(List (yab×Bool))×Nat)=>za6.s54 b0 a2 a8 s.1 s.2.1 s.2.2) fuel (a6,a7,0):Option (Nat×(List (yab×Bool)))).bind (λ(s:Nat×(List (yab×Bool)))=>za6.k55 a2 s.1 s.2)) (some (.inr a6))
def za6(p_:zaa)(s_:Int)(t_:Int):Option (Int×Bool) :=
 (zap p_ s_ t_).bind λa6=>cond ((!a6.2)) (some (0,false)) ((iter (λ(s:Nat×(List (yab×Bool))×Nat)=>za6.s56 p_ a6 s.1 s.2.1 s.2.2) fuel (0,([]:List (yab×Bool)),0):Option (Nat)).bind (λ(a2:Nat)=>some ((a2:Int),true)))
def zfx(p_:zaa)(s_:Int)(t_:Int):Option (Int×Bool×Int) :=
 (zcb p_).bind λa2=>cond (decide (a2≠0)) (some (0,false,a2)) ((cond (decide ((min s_ t_)<0)) (some true) (some (decide ((p_.Next.length:Int)<=(max s_ t_)))):Option (Bool)).bind (λ(a7:Bool)=>cond (a7) (some (0,false,2)) ((za6 p_ s_ t_).bind λa6=>some (a6.1,a6.2,0))))
def zbe.s13(red_:List Bool)(b0:Bool)(a8:yab)(a2:List Bool)(a6:Nat):Option ((List Bool×Nat)⊕List Bool) :=
 cond (decide ((a6:Int)<(a8.length:Int))) (idxn a8 a6 λa7=>(cond (b0) (cond (decide (a7≠(-1:Int))) (idx red_ a7 λb2=>some (!b2)) (some false)) (some false):Option (Bool)).bind (λ(b3:Bool)=>cond (b3) (idx a2 a7 λb4=>some (.inl ((List.set a2 a7.toNat true),(a6+1)))) (some (.inl (a2,(a6+1)))))) (some (.inr a2))
def zbe.s14(p_:zaa)(red_:List Bool)(a6:List Bool)(a2:Nat):Option ((List Bool×Nat)⊕List Bool) :=
 cond (decide ((a2:Int)<(red_.length:Int))) (idxn red_ a2 λa7=>idxn p_.Next a2 λa8=>(iter (λ(s:List Bool×Nat)=>zbe.s13 red_ a7 a8 s.1 s.2) fuel (a6,0):Option (List Bool)).bind (λ(b0:List Bool)=>some (.inl (b0,(a2+1))))) (some (.inr a6))
def zbe.s16(a7:List Bool)(a6:yab)(a2:Nat):Option ((yab×Nat)⊕yab) :=
 cond (decide ((a2:Int)<(a7.length:Int))) (idxn a7 a2 λa8=>cond (a8) (chk (za5 (List.length a6+1) 8) (some (.inl ((a6++[(a2:Int)]),(a2+1))))) (some (.inl (a6,(a2+1))))) (some (.inr a6))
def zbe(p_:zaa)(red_:List Bool):Option (yab) :=
 chk ((0:Int)<=(red_.length:Int)/\(red_.length:Int)<=(red_.length:Int)/\za5 (Int.toNat (red_.length:Int)) 1) ((iter (λ(s:List Bool×Nat)=>zbe.s14 p_ red_ s.1 s.2) fuel ((List.replicate red_.length false),0):Option (List Bool)).bind (λ(a2:List Bool)=>(iter (λ(s:yab×Nat)=>zbe.s16 a2 s.1 s.2) fuel ([],0):Option (yab)).bind (λ(a6:yab)=>some a6)))
def zb9.k9(a2:Nat)(a6:Int)(a7:Int)(a8:Nat):Option ((Int×Int×Nat×Nat)⊕(Int×Int×Nat)) :=
 some (.inl (a6,a7,a8,(a2+1)))
def zb9.s10(p_:zaa)(red_:List Bool)(blue_:Int)(a2:Int)(a7:Int)(a8:Nat)(a6:Nat):Option ((Int×Int×Nat×Nat)⊕(Int×Int×Nat)) :=
 cond (decide ((a6:Int)<(red_.length:Int))) ((idxn red_ a6 λb2=>cond ((!b2)) (some (a2,a7,a8)) ((za6 p_ (a6:Int) blue_).bind λb0=>(cond (b0.2) (cond ((decide (a2=0)&&(decide (a7=0)&&(decide ((a8:Int)=0)&&true)))) (some true) (some (decide (a2<b0.1)))) (some false):Option (Bool)).bind (λ(b3:Bool)=>cond (b3) (some (b0.1,blue_,a6)) (some (a2,a7,a8)))):Option (Int×Int×Nat)).bind (λ(s:Int×Int×Nat)=>zb9.k9 a6 s.1 s.2.1 s.2.2)) (some (.inr (a2,a7,a8)))
def zb9.k11(a2:Int)(a6:Int)(a7:Nat):Option (za2) :=
 some (⟨a2,a6,(a7:Int)⟩:za2)
def zb9(p_:zaa)(red_:List Bool)(blue_:Int):Option (za2) :=
 (iter (λ(s:Int×Int×Nat×Nat)=>zb9.s10 p_ red_ blue_ s.1 s.2.1 s.2.2.1 s.2.2.2) fuel (0,0,0,0):Option (Int×Int×Nat)).bind (λ(s:Int×Int×Nat)=>zb9.k11 s.1 s.2.1 s.2.2)
def zb0.s2(p_:zaa)(red_:List Bool)(l_:yab)(a6:Int)(a8:Int)(b0:Int)(a7:Nat):Option ((Int×Int×Int×Nat)⊕((Int×Int×Int)⊕(za2×Int))) :=
 cond (decide ((a7:Int)<(l_.length:Int))) (idxn l_ a7 λb2=>(zb9 p_ red_ b2).bind λa2=>cond ((decide (a2.score=0)&&(decide (a2.blue=0)&&(decide (a2.red=0)&&true)))) (some (.inr (.inr (a2,b2)))) ((cond ((decide (a6=0)&&(decide (a8=0)&&(decide (b0=0)&&true)))) (some true) (some (decide (a6<a2.score))):Option (Bool)).bind (λ(b3:Bool)=>cond (b3) (some (.inl (a2.score,a2.blue,a2.red,(a7+1)))) (some (.inl (a6,a8,b0,(a7+1))))))) (some (.inr (.inl (a6,a8,b0))))
def zb0.k3(a2:Int)(a6:Int)(a7:Int):Option (za2×Int) :=
 some ((⟨a2,a6,a7⟩:za2),(-1:Int))
def zb0(p_:zaa)(red_:List Bool)(l_:yab):Option (za2×Int) :=
 (iter (λ(s:Int×Int×Int×Nat)=>zb0.s2 p_ red_ l_ s.1 s.2.1 s.2.2.1 s.2.2.2) fuel (0,0,0,0):Option ((Int×Int×Int)⊕(za2×Int))).bind (Sum.elim (λ(s:Int×Int×Int)=>zb0.k3 s.1 s.2.1 s.2.2) some)
def za3.s2(p_:zaa)(a6:yab)(a2:Nat):Option ((yab×Nat)⊕yab) :=
 cond (decide ((a2:Int)<(↑(List.length (List.replicate p_.Next.length (0:Int))):Int))) (idxn a6 a2 λa7=>chk (inR ((a2:Int)+1)) (some (.inl ((List.set a6 a2 (-1:Int)),(a2+1))))) (some (.inr a6))
def za3.s20(q_:zaa)(b7:Int)(b0:yab)(a2:yab)(a8:yab)(a6:Nat):Option ((yab×yab×Nat)⊕(yab×yab)) :=
 cond (decide ((a6:Int)<(b0.length:Int))) (idxn b0 a6 λa7=>(cond (decide (a7≠(-1:Int))) (idx a2 a7 λb2=>some (decide (b2=(-1:Int)))) (some false):Option (Bool)).bind (λ(b3:Bool)=>cond (b3) (idx a2 b7 λb4=>idx q_.Next b4 λb5=>idxn b5 a6 λb6=>idx a2 a7 λb8=>chk (za5 (List.length a8+1) 8) (some (.inl ((List.set a2 a7.toNat b6),(a8++[a7]),(a6+1))))) (some (.inl (a2,a8,(a6+1)))))) (some (.inr (a2,a8)))
def za3.k21(a7:List Bool)(a6:yab)(a2:yab):Option ((yab×List Bool×yab)⊕List Bool) :=
 chk (1<=List.length a2) (some (.inl (a6,a7,(List.drop 1 a2))))
def za3.s22(p_:zaa)(q_:zaa)(red_:List Bool)(a8:yab)(a2:List Bool)(a7:yab):Option ((yab×List Bool×yab)⊕List Bool) :=
 cond (decide (0<(a7.length:Int))) (idxn a7 0 λa6=>(idx red_ a6 λb2=>cond (b2) (idx a8 a6 λb0=>idx a2 b0 λb5=>some (List.set a2 b0.toNat true)) (some a2):Option (List Bool)).bind (λ(b3:List Bool)=>idx p_.Next a6 λb4=>(iter (λ(s:yab×yab×Nat)=>za3.s20 q_ a6 b4 s.1 s.2.1 s.2.2) fuel (a8,a7,0):Option (yab×yab)).bind (λ(s:yab×yab)=>za3.k21 b3 s.1 s.2))) (some (.inr a2))
def za3(p_:zaa)(q_:zaa)(red_:List Bool):Option (List Bool) :=
 chk ((0:Int)<=(p_.Next.length:Int)/\(p_.Next.length:Int)<=(p_.Next.length:Int)/\za5 (Int.toNat (p_.Next.length:Int)) 8) ((iter (λ(s:yab×Nat)=>za3.s2 p_ s.1 s.2) fuel ((List.replicate p_.Next.length (0:Int)),0):Option (yab)).bind (λ(a6:yab)=>idx a6 p_.Start λa7=>chk ((0:Int)<=(q_.Next.length:Int)/\(q_.Next.length:Int)<=(q_.Next.length:Int)/\za5 (Int.toNat (q_.Next.length:Int)) 1) ((iter (λ(s:yab×List Bool×yab)=>za3.s22 p_ q_ red_ s.1 s.2.1 s.2.2) fuel ((List.set a6 p_.Start.toNat q_.Start),(List.replicate q_.Next.length false),[p_.Start]):Option (List Bool)).bind (λ(a2:List Bool)=>some a2))))
def zbo.s2(s_:yab)(f_:Int->Option Bool)(a2:Nat):Option (Nat⊕(Unit⊕Int)) :=
 cond (decide ((a2:Int)<(s_.length:Int))) (idxn s_ a2 λa6=>(f_ a6).bind λa7=>cond (a7) (some (.inr (.inr (a2:Int)))) (some (.inl (a2+1)))) (some (.inr (.inl ())))
def zbo(s_:yab)(f_:Int->Option Bool):Option (Int) :=
 (iter (λ(s:Nat)=>zbo.s2 s_ f_ s) fuel 0:Option (Unit⊕Int)).bind (Sum.elim (λ(_:Unit)=>some (-1:Int)) some)
def zcr(s_:yab)(f_:Int->Option Bool):Option (Bool) :=
 (zbo s_ f_).bind λa2=>some (decide (0<=a2))
def zfz(inputs_:Int):Option (Bool) :=
 (cond (decide (1<=inputs_)) (some (decide (inputs_<=1024))) (some false):Option (Bool)).bind (λ(a2:Bool)=>some a2)
def zf9(a_:Int)(p1_:Int):Option (Bool) :=
 (cond (decide (a_<0)) (some true) (some (decide (p1_<=a_))):Option (Bool)).bind (λ(a2:Bool)=>some a2)
def zbc.s2(s_:yab)(f_:Int->Option Bool)(a2:Nat):Option (Nat⊕(Unit⊕Int)) :=
 cond (decide ((a2:Int)<(s_.length:Int))) (idxn s_ a2 λa6=>(f_ a6).bind λa7=>cond (a7) (some (.inr (.inr (a2:Int)))) (some (.inl (a2+1)))) (some (.inr (.inl ())))
def zbc(s_:yab)(f_:Int->Option Bool):Option (Int) :=
 (iter (λ(s:Nat)=>zbc.s2 s_ f_ s) fuel 0:Option (Unit⊕Int)).bind (Sum.elim (λ(_:Unit)=>some (-1:Int)) some)
def zcz(s_:yab)(f_:Int->Option Bool):Option (Bool) :=
 (zbc s_ f_).bind λa2=>some (decide (0<=a2))
def zht(w_:yab)(inputs_:Int):Option (Int) :=
 (zfz inputs_).bind λa2=>cond ((!a2)) (some 2) (cond (decide (1024<(w_.length:Int))) (some 3) ((zcz w_ (λu0=>zf9 u0 inputs_)).bind λa6=>cond (a6) (some 1) (some 0)))
def zdm.s2(a_:yab)(b_:yab)(a2:Nat):Option (Nat⊕(Unit⊕Int)) :=
 cond (decide ((a2:Int)<(min (a_.length:Int) (b_.length:Int)))) (idxn a_ a2 λa6=>idxn b_ a2 λa7=>cond (decide (a6≠a7)) (some (.inr (.inr (a2:Int)))) (some (.inl (a2+1)))) (some (.inr (.inl ())))
def zdm(a_:yab)(b_:yab):Option (Int) :=
 (iter (λ(s:Nat)=>zdm.s2 a_ b_ s) fuel 0:Option (Unit⊕Int)).bind (Sum.elim (λ(_:Unit)=>some (min (a_.length:Int) (b_.length:Int))) some)
def ze2(w_:yab)(p_:yab):Option (Bool) :=
 (zdm w_ p_).bind λa2=>some (decide (a2=(p_.length:Int)))
def ze4(a_:zag)(b_:zag):Option (Int) :=
 (zdm a_.In b_.In).bind λa2=>chk ((0:Int)<=(min (min a2 (a_.Out.length:Int)) (b_.Out.length:Int))/\(min (min a2 (a_.Out.length:Int)) (b_.Out.length:Int))<=(a_.Out.length:Int)) (chk ((0:Int)<=(min (min a2 (a_.Out.length:Int)) (b_.Out.length:Int))/\(min (min a2 (a_.Out.length:Int)) (b_.Out.length:Int))<=(b_.Out.length:Int)) ((zdm (List.take (Int.toNat (min (min a2 (a_.Out.length:Int)) (b_.Out.length:Int))) a_.Out) (List.take (Int.toNat (min (min a2 (a_.Out.length:Int)) (b_.Out.length:Int))) b_.Out)).bind λa6=>cond (decide (a6<(min (min a2 (a_.Out.length:Int)) (b_.Out.length:Int)))) (some a6) (some (-1:Int))))
def cmp_isNaN_int(x_:Int):Option (Bool) :=
 some (decide (x_≠x_))
def cmp_Compare_int(x_:Int)(y_:Int):Option (Int) :=
 (cmp_isNaN_int x_).bind λa6=>(cmp_isNaN_int y_).bind λa2=>cond (a6) (cond (a2) (some 0) (some (-1:Int))) (cond (a2) (some 1) (cond (decide (x_<y_)) (some (-1:Int)) (cond (decide (y_<x_)) (some 1) (some 0))))
def zbs.s2(s1_:yab)(s2_:yab)(a2:Nat):Option (Nat⊕(Unit⊕Int)) :=
 cond (decide ((a2:Int)<(s1_.length:Int))) (idxn s1_ a2 λa7=>cond (decide ((s2_.length:Int)<=(a2:Int))) (some (.inr (.inr 1))) (idxn s2_ a2 λa8=>(cmp_Compare_int a7 a8).bind λa6=>cond (decide (a6≠0)) (some (.inr (.inr a6))) (some (.inl (a2+1))))) (some (.inr (.inl ())))
def zbs(s1_:yab)(s2_:yab):Option (Int) :=
 (iter (λ(s:Nat)=>zbs.s2 s1_ s2_ s) fuel 0:Option (Unit⊕Int)).bind (Sum.elim (λ(_:Unit)=>cond (decide ((s1_.length:Int)<(s2_.length:Int))) (some (-1:Int)) (some 0)) some)
def word_Lex(a_:yab)(b_:yab):Option (Int) :=
 (zbs a_ b_).bind λa2=>some a2
def zdl(a_:zag)(b_:zag):Option (Int) :=
 (word_Lex a_.In b_.In).bind λa2=>some a2
def zdo.s2(a6:List zag)(a2:Nat):Option (Nat⊕(Unit⊕Bool)) :=
 cond (decide ((a2:Int)<(a6.length:Int))) ((idxn a6 a2 λa7=>idx a6 ((a2:Int)-1) λa8=>(ze2 a7.In a8.In).bind λb0=>cond (b0) (some true) (idx a6 ((a2:Int)-1) λb2=>idxn a6 a2 λb3=>(ze4 b2 b3).bind λb4=>some (decide (0<=b4))):Option (Bool)).bind (λ(b5:Bool)=>cond (b5) (some (.inr (.inr false))) (some (.inl (a2+1))))) (some (.inr (.inl ())))
def zdo(l_:List zag):Option (Bool) :=
 (zhe l_).bind λa2=>(zf2 a2 (λu0 u1=>zdl u0 u1)).bind λa6=>(iter (λ(s:Nat)=>zdo.s2 a6 s) fuel 1:Option (Unit⊕Bool)).bind (Sum.elim (λ(_:Unit)=>some true) some)
def zew(o_:Int):Option (Bool) :=
 (cond (decide (o_<0)) (some true) (some (decide (1048576<o_))):Option (Bool)).bind (λ(a2:Bool)=>some a2)
def zfw(t_:zag)(inputs_:Int):Option (Int) :=
 (zht t_.In inputs_).bind λa2=>cond (decide (a2≠0)) (some a2) (cond (decide ((t_.Out.length:Int)≠(t_.In.length:Int))) (some 1) ((zcr t_.Out (λu0=>zew u0)).bind λa6=>cond (a6) (some 2) (some 0)))
def zd1.s2(vals_:yab)(a2:Nat):Option (Nat⊕(Unit⊕Int)) :=
 cond (decide ((a2:Int)<(vals_.length:Int))) (idxn vals_ a2 λa6=>cond (decide (a6≠0)) (some (.inr (.inr a6))) (some (.inl (a2+1)))) (some (.inr (.inl ())))
def zd1(vals_:yab):Option (Int) :=
 (iter (λ(s:Nat)=>zd1.s2 vals_ s) fuel 0:Option (Unit⊕Int)).bind (Sum.elim (λ(_:Unit)=>some 0) some)
def zef(a_:yab)(b_:yab):Option (Int) :=
 (cmp_Compare_int (a_.length:Int) (b_.length:Int)).bind λa2=>(zbs a_ b_).bind λa6=>(zd1 [a2,a6]).bind λa7=>some a7
def zhf(a_:zag)(b_:zag):Option (Int) :=
 (zef a_.In b_.In).bind λa2=>some a2
def zfa(u_:zag)(p1_:zag):Option (Bool) :=
 (ze2 u_.In p1_.In).bind λa2=>some a2
def zfd(u_:zag)(p1_:zag):Option (Bool) :=
 (ze4 p1_ u_).bind λa2=>some (decide (0<=a2))
def zas.s2(s_:List zag)(f_:zag->Option Bool)(a2:Nat):Option (Nat⊕(Unit⊕Int)) :=
 cond (decide ((a2:Int)<(s_.length:Int))) (idxn s_ a2 λa6=>(f_ a6).bind λa7=>cond (a7) (some (.inr (.inr (a2:Int)))) (some (.inl (a2+1)))) (some (.inr (.inl ())))
def zas(s_:List zag)(f_:zag->Option Bool):Option (Int) :=
 (iter (λ(s:Nat)=>zas.s2 s_ f_ s) fuel 0:Option (Unit⊕Int)).bind (Sum.elim (λ(_:Unit)=>some (-1:Int)) some)
def zbr(s_:List zag)(f_:zag->Option Bool):Option (Bool) :=
 (zas s_ f_).bind λa2=>some (decide (0<=a2))
def zb5.s2(o_:zav)(a2:Nat):Option (Nat⊕(Unit⊕Int)) :=
 cond (decide ((a2:Int)<(o_.Traces.length:Int))) (idxn o_.Traces a2 λa6=>(zht a6.In o_.Inputs).bind λa7=>cond (decide (a7≠0)) (some (.inr (.inr a7))) (cond (decide ((a6.In.length:Int)=0)) (some (.inr (.inr 19))) ((zfw a6 o_.Inputs).bind λa8=>cond (decide (a8≠0)) (some (.inr (.inr a8))) ((cond (decide (0<(a2:Int))) (idx o_.Traces ((a2:Int)-1) λb0=>(zhf b0 a6).bind λb2=>some (decide (0<=b2))) (some false):Option (Bool)).bind (λ(b3:Bool)=>cond (b3) (some (.inr (.inr 10))) (some (.inl (a2+1)))))))) (some (.inr (.inl ())))
def zb5.s4(o_:zav)(a2:Nat):Option (Nat⊕(Unit⊕Int)) :=
 cond (decide ((a2:Int)<(o_.Traces.length:Int))) (idxn o_.Traces a2 λa6=>chk ((0:Int)<=((a2:Int)+1)/\((a2:Int)+1)<=(o_.Traces.length:Int)) ((zbr (List.drop (a2+1) o_.Traces) (λu0=>zfa u0 a6)).bind λa7=>cond (a7) (some (.inr (.inr 7))) ((zbr (List.drop (a2+1) o_.Traces) (λu0=>zfd u0 a6)).bind λa8=>cond (a8) (some (.inr (.inr 13))) (some (.inl (a2+1)))))) (some (.inr (.inl ())))
def zb5(o_:zav):Option (Int) :=
 (cond (decide (o_.Inputs<1)) (some true) (some (decide (64<o_.Inputs))):Option (Bool)).bind (λ(a6:Bool)=>cond (a6) (some 2) (cond (decide (10000<(o_.Traces.length:Int))) (some 11) ((iter (λ(s:Nat)=>zb5.s2 o_ s) fuel 0:Option (Unit⊕Int)).bind (Sum.elim (λ(_:Unit)=>(zdo o_.Traces).bind λa2=>cond (a2) (some 0) ((iter (λ(s:Nat)=>zb5.s4 o_ s) fuel 0:Option (Unit⊕Int)).bind (Sum.elim (λ(_:Unit)=>some 0) some))) some))))
def zda.s2(inputs_:Int)(a6:yab)(a2:Nat):Option ((yab×Nat)⊕yab) :=
 cond (decide ((a2:Int)<(↑(List.length (List.replicate (Int.toNat inputs_) (0:Int))):Int))) (idxn a6 a2 λa7=>chk (inR ((a2:Int)+1)) (some (.inl ((List.set a6 a2 (-1:Int)),(a2+1))))) (some (.inr a6))
def zda(inputs_:Int):Option (yab) :=
 chk ((0:Int)<=inputs_/\inputs_<=inputs_/\za5 (Int.toNat inputs_) 8) ((iter (λ(s:yab×Nat)=>zda.s2 inputs_ s.1 s.2) fuel ((List.replicate (Int.toNat inputs_) (0:Int)),0):Option (yab)).bind (λ(a2:yab)=>some a2))
def zai.s18(b0:yab)(a2:yab)(a6:yab)(a8:Nat):Option ((yab×yab×Nat)⊕(yab×yab)) :=
 cond (decide ((a8:Int)<(b0.length:Int))) (idxn b0 a8 λa7=>(cond (decide (a7≠(-1:Int))) (idx a2 a7 λb2=>some (decide (b2=(-1:Int)))) (some false):Option (Bool)).bind (λ(b3:Bool)=>cond (b3) (idx a2 a7 λb4=>chk (za5 (List.length a6+1) 8) (some (.inl ((List.set a2 a7.toNat (a6.length:Int)),(a6++[a7]),(a8+1))))) (some (.inl (a2,a6,(a8+1)))))) (some (.inr (a2,a6)))
def zai.k19(a2:Nat)(a6:yab)(a7:yab):Option ((yab×yab×Nat)⊕(yab×yab)) :=
 some (.inl (a6,a7,(a2+1)))
def zai.s20(p_:zaa)(a7:yab)(a2:yab)(a6:Nat):Option ((yab×yab×Nat)⊕(yab×yab)) :=
 cond (decide ((a6:Int)<(a2.length:Int))) (idxn a2 a6 λa8=>idx p_.Next a8 λb0=>(iter (λ(s:yab×yab×Nat)=>zai.s18 b0 s.1 s.2.1 s.2.2) fuel (a7,a2,0):Option (yab×yab)).bind (λ(s:yab×yab)=>zai.k19 a6 s.1 s.2)) (some (.inr (a7,a2)))
def zai.s38(p_:zaa)(b6:yab)(b2:Int)(a8:yab)(a6:yab)(a7:yab)(a2:Nat):Option ((yab×yab×Nat)⊕(yab×yab)) :=
 cond (decide ((a2:Int)<(a8.length:Int))) (idxn a8 a2 λb0=>cond (decide (b0≠(-1:Int))) (idx b6 b0 λb3=>idx p_.Out b2 λb4=>idxn b4 a2 λb5=>idxn a6 a2 λb7=>idxn a7 a2 λb8=>some (.inl ((List.set a6 a2 b3),(List.set a7 a2 b5),(a2+1)))) (some (.inl (a6,a7,(a2+1))))) (some (.inr (a6,a7)))
def zai.k39(a2:yaa)(a6:yaa)(a7:Nat)(a8:yab)(b0:yab):Option ((yaa×yaa×Nat)⊕(yaa×yaa)) :=
 chk (za5 (List.length a2+1) 24) (chk (za5 (List.length a6+1) 24) (some (.inl ((a2++[a8]),(a6++[b0]),(a7+1)))))
def zai.s40(p_:zaa)(b5:yab)(b0:yab)(a6:yaa)(a7:yaa)(a2:Nat):Option ((yaa×yaa×Nat)⊕(yaa×yaa)) :=
 cond (decide ((a2:Int)<(b0.length:Int))) (idxn b0 a2 λa8=>(zda p_.Inputs).bind λb2=>(zda p_.Inputs).bind λb3=>idx p_.Next a8 λb4=>(iter (λ(s:yab×yab×Nat)=>zai.s38 p_ b5 a8 b4 s.1 s.2.1 s.2.2) fuel (b2,b3,0):Option (yab×yab)).bind (λ(s:yab×yab)=>zai.k39 a6 a7 a2 s.1 s.2)) (some (.inr (a6,a7)))
def zai.k41(p_:zaa)(a7:yab)(a2:yaa)(a6:yaa):Option (zaa×yab) :=
 some ((⟨p_.Inputs,0,a2,a6⟩:zaa),a7)
def zai.k42(p_:zaa)(a2:yab)(a6:yab):Option (zaa×yab) :=
 (iter (λ(s:yaa×yaa×Nat)=>zai.s40 p_ a2 a6 s.1 s.2.1 s.2.2) fuel ([],[],0):Option (yaa×yaa)).bind (λ(s:yaa×yaa)=>zai.k41 p_ a2 s.1 s.2)
def zai(p_:zaa):Option (zaa×yab) :=
 (zda (p_.Next.length:Int)).bind λa2=>idx a2 p_.Start λa6=>(iter (λ(s:yab×yab×Nat)=>zai.s20 p_ s.1 s.2.1 s.2.2) fuel ((List.set a2 p_.Start.toNat 0),[p_.Start],0):Option (yab×yab)).bind (λ(s:yab×yab)=>zai.k42 p_ s.1 s.2)
def zbn.k53(a6:Int)(a7:Nat)(a8:Int)(a2:yaa)(b0:yaa):Option ((yaa×yaa×Int×Nat)⊕((yaa×yaa)⊕((yaa×yaa×Nat)⊕((yaa×yaa)⊕(zaa×Int))))) :=
 idx a2 a6 λb2=>idx b2 a8 λb3=>some (.inl (a2,b0,b3,(a7+1)))
def zbn.s54(o_:zav)(b2:zag)(a2:yaa)(a8:yaa)(a6:Int)(b0:Nat):Option ((yaa×yaa×Int×Nat)⊕((yaa×yaa)⊕((yaa×yaa×Nat)⊕((yaa×yaa)⊕(zaa×Int))))) :=
 cond (decide ((b0:Int)<(b2.In.length:Int))) (idxn b2.In b0 λa7=>(idx a2 a6 λb8=>idx b8 a7 λb9=>cond (decide (b9=(-1:Int))) (cond (decide ((a2.length:Int)=4096)) (some (.inr (.inr (.inr (.inr (.inr ((⟨0,0,[],[]⟩:zaa),11))))))) (idx a2 a6 λb3=>idx a8 a6 λb4=>idxn b2.Out b0 λb5=>idx b3 a7 λc0=>idx b4 a7 λc6=>(zda o_.Inputs).bind λb6=>chk (za5 (List.length (List.set a2 (Int.toNat a6) (List.set b3 (Int.toNat a7) (a2.length:Int)))+List.length [b6]) 24) ((zda o_.Inputs).bind λb7=>chk (za5 (List.length (List.set a8 (Int.toNat a6) (List.set b4 (Int.toNat a7) b5))+List.length [b7]) 24) (some (.inl (((List.set a2 (Int.toNat a6) (List.set b3 (Int.toNat a7) (a2.length:Int)))++[b6]),((List.set a8 (Int.toNat a6) (List.set b4 (Int.toNat a7) b5))++[b7]))))))) (some (.inl (a2,a8))):Option ((yaa×yaa)⊕((yaa×yaa×Int×Nat)⊕((yaa×yaa)⊕((yaa×yaa×Nat)⊕((yaa×yaa)⊕(zaa×Int))))))).bind (Sum.elim (λ(s:yaa×yaa)=>zbn.k53 a6 b0 a7 s.1 s.2) some)) (some (.inr (.inl (a2,a8))))
def zbn.k55(a2:Nat)(a6:yaa)(a7:yaa):Option ((yaa×yaa×Nat)⊕((yaa×yaa)⊕(zaa×Int))) :=
 some (.inl (a6,a7,(a2+1)))
def zbn.s56(o_:zav)(a6:yaa)(a7:yaa)(a2:Nat):Option ((yaa×yaa×Nat)⊕((yaa×yaa)⊕(zaa×Int))) :=
 cond (decide ((a2:Int)<(o_.Traces.length:Int))) (idxn o_.Traces a2 λa8=>(iter (λ(s:yaa×yaa×Int×Nat)=>zbn.s54 o_ a8 s.1 s.2.1 s.2.2.1 s.2.2.2) fuel (a6,a7,0,0):Option ((yaa×yaa)⊕((yaa×yaa×Nat)⊕((yaa×yaa)⊕(zaa×Int))))).bind (Sum.elim (λ(s:yaa×yaa)=>zbn.k55 a2 s.1 s.2) some)) (some (.inr (.inl (a6,a7))))
def zbn.k57(o_:zav)(a6:yaa)(a7:yaa):Option (zaa×Int) :=
 (zai (⟨o_.Inputs,0,a6,a7⟩:zaa)).bind λa2=>some (a2.1,0)
def zbn(o_:zav):Option (zaa×Int) :=
 (zb5 o_).bind λa2=>cond (decide (a2≠0)) (some ((⟨0,0,[],[]⟩:zaa),a2)) ((zda o_.Inputs).bind λa6=>(zda o_.Inputs).bind λa7=>(iter (λ(s:yaa×yaa×Nat)=>zbn.s56 o_ s.1 s.2.1 s.2.2) fuel ([a6],[a7],0):Option ((yaa×yaa)⊕(zaa×Int))).bind (Sum.elim (λ(s:yaa×yaa)=>zbn.k57 o_ s.1 s.2) some))
def zbu.s1(b_:zbm)(a2:Int):Option (Int⊕(Int×(List (Int×Int)))) :=
 cond ((!((mget a2 b_.up).isSome))) (some (.inr (a2,b_.up))) (some (.inl ((mget a2 b_.up).getD 0)))
def zbu(b_:zbm)(x_:Int):Option (Int×(List (Int×Int))) :=
 iter (λ(s:Int)=>zbu.s1 b_ s) fuel x_
def zdx(b_:zbm)(x_:Int)(y_:Int):Option (List (Int×Int)) :=
 some (mset y_ x_ b_.up)
def zae.s2(p_:zaa)(a6:yaa)(a7:yaa)(a2:Nat):Option ((yaa×yaa×Nat)⊕(yaa×yaa)) :=
 cond (decide ((a2:Int)<(p_.Next.length:Int))) (idxn p_.Next a2 λa8=>chk (za5 (List.length ([]:List Unit)+List.length a8) 8) (chk (za5 (List.length a6+List.length [([]++a8)]) 24) (idxn p_.Out a2 λb0=>chk (za5 (List.length ([]:List Unit)+List.length b0) 8) (chk (za5 (List.length a7+List.length [([]++b0)]) 24) (some (.inl ((a6++[([]++a8)]),(a7++[([]++b0)]),(a2+1)))))))) (some (.inr (a6,a7)))
def zae.s43(a6:Int×(List (Int×Int)))(a7:Int×(List (Int×Int)))(b6:yab)(a8:yaa)(b0:yaa)(b2:List T_A2)(a2:Nat):Option ((yaa×yaa×List T_A2×Nat)⊕((yaa×yaa×List T_A2)⊕((yaa×yaa×(List (Int×Int))×List T_A2)⊕((yaa×yaa×(List (Int×Int))×List T_A2)⊕((yaa×yaa×(List (Int×Int)))⊕(zaa×yab×Bool)))))) :=
 cond (decide ((a2:Int)<(b6.length:Int))) (idxn a8 (Int.toNat (max a6.1 a7.1)) λb7=>idxn b7 a2 λb3=>cond (decide (b3=(-1:Int))) (chk (inR ((a2:Int)+1)) (some (.inl (a8,b0,b2,(a2+1))))) (idx a8 (min a6.1 a7.1) λb8=>idxn b8 a2 λb9=>cond (decide (b9=(-1:Int))) (idx a8 (min a6.1 a7.1) λb4=>idx b0 (min a6.1 a7.1) λb5=>idx b0 (max a6.1 a7.1) λc0=>idxn c0 a2 λc6=>idxn b4 a2 λd3=>idxn b5 a2 λd4=>chk (inR ((a2:Int)+1)) (some (.inl ((List.set a8 (Int.toNat (min a6.1 a7.1)) (List.set b4 a2 b3)),(List.set b0 (Int.toNat (min a6.1 a7.1)) (List.set b5 a2 c6)),b2,(a2+1))))) (idx b0 (min a6.1 a7.1) λc7=>idxn c7 a2 λc8=>idx b0 (max a6.1 a7.1) λc9=>idxn c9 a2 λd0=>cond (decide (c8≠d0)) (some (.inr (.inr (.inr (.inr (.inr ((⟨0,0,[],[]⟩:zaa),[],false))))))) (idx a8 (min a6.1 a7.1) λd1=>idxn d1 a2 λd2=>chk (za5 (List.length b2+1) 16) (chk (inR ((a2:Int)+1)) (some (.inl (a8,b0,(b2++[(⟨d2,b3⟩:T_A2)]),(a2+1))))))))) (some (.inr (.inl (a8,b0,b2))))
def zae.k44(a2:List (Int×Int))(a6:yaa)(a7:yaa)(a8:List T_A2):Option ((yaa×yaa×(List (Int×Int))×List T_A2)⊕((yaa×yaa×(List (Int×Int))×List T_A2)⊕((yaa×yaa×(List (Int×Int)))⊕(zaa×yab×Bool)))) :=
 some (.inl (a6,a7,a2,a8))
def zae.k45(a2:yaa)(a6:yaa)(a7:List (Int×Int))(a8:List T_A2):Option ((yaa×yaa×(List (Int×Int))×List T_A2)⊕((yaa×yaa×(List (Int×Int)))⊕(zaa×yab×Bool))) :=
 some (.inl (a2,a6,a7,a8))
def zae.s46(a8:yaa)(b0:yaa)(b2:List (Int×Int))(a6:List T_A2):Option ((yaa×yaa×(List (Int×Int))×List T_A2)⊕((yaa×yaa×(List (Int×Int)))⊕(zaa×yab×Bool))) :=
 cond (decide (0<(a6.length:Int))) ((idxn a6 0 λb3=>(zbu (⟨b2⟩:zbm) b3.f0).bind λa7=>idxn a6 0 λb4=>(zbu (⟨a7.2⟩:zbm) b4.f1).bind λa2=>chk (1<=List.length a6) (cond (decide (a7.1=a2.1)) (some (.inl (a8,b0,a2.2,(List.drop 1 a6)))) ((zdx (⟨a2.2⟩:zbm) (min a7.1 a2.1) (max a7.1 a2.1)).bind λb5=>idx a8 (max a7.1 a2.1) λb6=>(iter (λ(s:yaa×yaa×List T_A2×Nat)=>zae.s43 a7 a2 b6 s.1 s.2.1 s.2.2.1 s.2.2.2) fuel (a8,b0,(List.drop 1 a6),0):Option ((yaa×yaa×List T_A2)⊕((yaa×yaa×(List (Int×Int))×List T_A2)⊕((yaa×yaa×(List (Int×Int))×List T_A2)⊕((yaa×yaa×(List (Int×Int)))⊕(zaa×yab×Bool)))))).bind (Sum.elim (λ(s:yaa×yaa×List T_A2)=>zae.k44 b5 s.1 s.2.1 s.2.2) some))):Option ((yaa×yaa×(List (Int×Int))×List T_A2)⊕((yaa×yaa×(List (Int×Int))×List T_A2)⊕((yaa×yaa×(List (Int×Int)))⊕(zaa×yab×Bool))))).bind (Sum.elim (λ(s:yaa×yaa×(List (Int×Int))×List T_A2)=>zae.k45 s.1 s.2.1 s.2.2.1 s.2.2.2) some)) (some (.inr (.inl (a8,b0,b2))))
def zae.s64(a7:Nat)(b4:yab)(a6:yaa)(a8:List (Int×Int))(a2:Nat):Option ((yaa×(List (Int×Int))×Nat)⊕(yaa×(List (Int×Int)))) :=
 cond (decide ((a2:Int)<(b4.length:Int))) (idxn a6 a7 λb5=>idxn b5 a2 λb0=>cond (decide (b0≠(-1:Int))) (idxn a6 a7 λb2=>(zbu (⟨a8⟩:zbm) b0).bind λb3=>idxn b2 a2 λb6=>chk (inR ((a2:Int)+1)) (some (.inl ((List.set a6 a7 (List.set b2 a2 b3.1)),b3.2,(a2+1))))) (chk (inR ((a2:Int)+1)) (some (.inl (a6,a8,(a2+1)))))) (some (.inr (a6,a8)))
def zae.k65(a2:Nat)(a6:yaa)(a7:List (Int×Int)):Option ((yaa×(List (Int×Int))×Nat)⊕(yaa×(List (Int×Int)))) :=
 some (.inl (a6,a7,(a2+1)))
def zae.s66(a8:yaa)(a6:yaa)(a7:List (Int×Int))(a2:Nat):Option ((yaa×(List (Int×Int))×Nat)⊕(yaa×(List (Int×Int)))) :=
 cond (decide ((a2:Int)<(a8.length:Int))) (idxn a6 a2 λb0=>(iter (λ(s:yaa×(List (Int×Int))×Nat)=>zae.s64 a2 b0 s.1 s.2.1 s.2.2) fuel (a6,a7,0):Option (yaa×(List (Int×Int)))).bind (λ(s:yaa×(List (Int×Int)))=>zae.k65 a2 s.1 s.2)) (some (.inr (a6,a7)))
def zae.s68(a7:zaa×yab)(b0:List (Int×Int))(a6:yab)(a2:Nat):Option (((List (Int×Int))×yab×Nat)⊕yab) :=
 cond (decide ((a2:Int)<(↑(List.length (List.replicate a7.2.length (0:Int))):Int))) ((zbu (⟨b0⟩:zbm) (a2:Int)).bind λa8=>idx a7.2 a8.1 λb2=>idxn a6 a2 λb3=>chk (inR ((a2:Int)+1)) (some (.inl (a8.2,(List.set a6 a2 b2),(a2+1))))) (some (.inr a6))
def zae.k69(p_:zaa)(a7:yaa)(a8:yaa)(b0:List (Int×Int)):Option (zaa×yab×Bool) :=
 (zbu (⟨b0⟩:zbm) p_.Start).bind λa6=>(zai (⟨p_.Inputs,a6.1,a8,a7⟩:zaa)).bind λa2=>chk ((0:Int)<=(a2.2.length:Int)/\(a2.2.length:Int)<=(a2.2.length:Int)/\za5 (Int.toNat (a2.2.length:Int)) 8) ((iter (λ(s:(List (Int×Int))×yab×Nat)=>zae.s68 a2 s.1 s.2.1 s.2.2) fuel (a6.2,(List.replicate a2.2.length (0:Int)),0):Option (yab)).bind (λ(b2:yab)=>some (a2.1,b2,true)))
def zae.k70(p_:zaa)(a2:yaa)(a6:yaa)(a7:List (Int×Int)):Option (zaa×yab×Bool) :=
 (iter (λ(s:yaa×(List (Int×Int))×Nat)=>zae.s66 a2 s.1 s.2.1 s.2.2) fuel (a2,a7,0):Option (yaa×(List (Int×Int)))).bind (λ(s:yaa×(List (Int×Int)))=>zae.k69 p_ a6 s.1 s.2)
def zae.k71(p_:zaa)(s_:Int)(t_:Int)(a2:yaa)(a6:yaa):Option (zaa×yab×Bool) :=
 (iter (λ(s:yaa×yaa×(List (Int×Int))×List T_A2)=>zae.s46 s.1 s.2.1 s.2.2.1 s.2.2.2) fuel (a2,a6,([]:List (Int×Int)),[(⟨s_,t_⟩:T_A2)]):Option ((yaa×yaa×(List (Int×Int)))⊕(zaa×yab×Bool))).bind (Sum.elim (λ(s:yaa×yaa×(List (Int×Int)))=>zae.k70 p_ s.1 s.2.1 s.2.2) some)
def zae(p_:zaa)(s_:Int)(t_:Int):Option (zaa×yab×Bool) :=
 (iter (λ(s:yaa×yaa×Nat)=>zae.s2 p_ s.1 s.2.1 s.2.2) fuel ([],[],0):Option (yaa×yaa)).bind (λ(s:yaa×yaa)=>zae.k71 p_ s_ t_ s.1 s.2)
def zhq(p_:zaa)(s_:Int)(t_:Int):Option (zaa×Bool×Int) :=
 (zcb p_).bind λa2=>cond (decide (a2≠0)) (some ((⟨0,0,[],[]⟩:zaa),false,a2)) ((cond (decide ((min s_ t_)<0)) (some true) (some (decide ((p_.Next.length:Int)<=(max s_ t_)))):Option (Bool)).bind (λ(a7:Bool)=>cond (a7) (some ((⟨0,0,[],[]⟩:zaa),false,2)) ((zae p_ s_ t_).bind λa6=>some (a6.1,a6.2.2,0))))
def zbh.k3(a2:Int)(a6:Int)(a7:yaa)(a8:yaa)(b0:List Bool):Option ((Int×Int×yaa×yaa×List Bool)⊕(zaa×Int)) :=
 some (.inl (a2,a6,a7,a8,b0))
def zbh.s4(a7:Int)(a8:Int)(b0:yaa)(b2:yaa)(b3:List Bool):Option ((Int×Int×yaa×yaa×List Bool)⊕(zaa×Int)) :=
 ((zbe (⟨a7,a8,b0,b2⟩:zaa) b3).bind λb4=>cond (decide ((b4.length:Int)=0)) (some (.inr (.inr ((⟨a7,a8,b0,b2⟩:zaa),0)))) ((zb0 (⟨a7,a8,b0,b2⟩:zaa) b3 b4).bind λa2=>cond (decide (a2.2≠(-1:Int))) (idx b3 a2.2 λb6=>some (.inl (a7,a8,b0,b2,(List.set b3 a2.2.toNat true)))) ((zhq (⟨a7,a8,b0,b2⟩:zaa) a2.1.red a2.1.blue).bind λa6=>(za3 (⟨a7,a8,b0,b2⟩:zaa) a6.1 b3).bind λb5=>some (.inl (a6.1.Inputs,a6.1.Start,a6.1.Next,a6.1.Out,b5)))):Option ((Int×Int×yaa×yaa×List Bool)⊕((Int×Int×yaa×yaa×List Bool)⊕(zaa×Int)))).bind (Sum.elim (λ(s:Int×Int×yaa×yaa×List Bool)=>zbh.k3 s.1 s.2.1 s.2.2.1 s.2.2.2.1 s.2.2.2.2) some)
def zbh(o_:zav):Option (zaa×Int) :=
 (zbn o_).bind λa2=>cond (decide (a2.2≠0)) (some ((⟨0,0,[],[]⟩:zaa),a2.2)) (chk ((0:Int)<=(a2.1.Next.length:Int)/\(a2.1.Next.length:Int)<=(a2.1.Next.length:Int)/\za5 (Int.toNat (a2.1.Next.length:Int)) 1) (idx (List.replicate a2.1.Next.length false) a2.1.Start λa6=>iter (λ(s:Int×Int×yaa×yaa×List Bool)=>zbh.s4 s.1 s.2.1 s.2.2.1 s.2.2.2.1 s.2.2.2.2) fuel (a2.1.Inputs,a2.1.Start,a2.1.Next,a2.1.Out,(List.set (List.replicate a2.1.Next.length false) a2.1.Start.toNat true))))
def za8.s2(slices_:List (yaa))(size73:Nat)(a2:Nat):Option ((Nat×Nat)⊕Nat) :=
 cond (decide ((a2:Int)<(slices_.length:Int))) (idxn slices_ a2 λa6=>chk (inR ((size73:Int)+(a6.length:Int))) (cond (decide (((size73:Int)+(a6.length:Int))<0)) (none) (some (.inl ((size73+a6.length),(a2+1)))))) (some (.inr size73))
def za8.s4(slices_:List (yaa))(a2:yaa)(a6:Nat):Option ((yaa×Nat)⊕yaa) :=
 cond (decide ((a6:Int)<(slices_.length:Int))) (idxn slices_ a6 λa7=>chk (za5 (List.length a2+List.length a7) 24) (some (.inl ((a2++a7),(a6+1))))) (some (.inr a2))
def za8(slices_:List (yaa)):Option (yaa) :=
 (iter (λ(s:Nat×Nat)=>za8.s2 slices_ s.1 s.2) fuel (0,0):Option (Nat)).bind (λ(size68:Nat)=>(zix (size68:Int)).bind λa6=>(iter (λ(s:yaa×Nat)=>za8.s4 slices_ s.1 s.2) fuel (a6,0):Option (yaa)).bind (λ(a2:yaa)=>some a2))
def zep(a_:yab)(b_:yab)(p2_:(yab)->(yab)->Option Int):Option (Bool) :=
 (p2_ a_ b_).bind λa2=>some (decide (a2=0))
def zaj.s18(eq_:(yab)->(yab)->Option Bool)(a8:Nat)(a2:yaa)(a7:Nat)(a6:Nat):Option ((yaa×Nat×Nat)⊕(yaa×Nat)) :=
 cond (decide ((a6:Int)<(↑(List.length a2-a8):Int))) (idxn a2 (a8+a6) λb0=>chk ((0:Int)<=((a6:Int)-1)) (idxn a2 (a8+(Int.toNat ((a6:Int)-1))) λb2=>(eq_ b0 b2).bind λb3=>cond ((!b3)) (idxn a2 (a8+a6) λb4=>idxn a2 a7 λb5=>chk (inR ((a7:Int)+1)) (some (.inl ((List.set a2 a7 b4),(a7+1),(a6+1))))) (some (.inl (a2,a7,(a6+1)))))) (some (.inr (a2,a7)))
def zaj.k19(a6:yaa)(a2:Nat):Option (Nat⊕(Unit⊕yaa)) :=
 chk ((0:Int)<=(a2:Int)/\(a2:Int)<=(a6.length:Int)/\0<List.length a6) (chk (a2<=List.length a6) (chk ((0:Int)<=(a2:Int)/\(a2:Int)<=(↑(List.length (List.take a2 a6++List.replicate (List.length a6-a2) [])):Int)/\0<List.length (List.take a2 a6++List.replicate (List.length a6-a2) [])) (some (.inr (.inr (List.take a2 (List.take a2 a6++List.replicate (List.length a6-a2) [])))))))
def zaj.s20(s_:yaa)(eq_:(yab)->(yab)->Option Bool)(a2:Nat):Option (Nat⊕(Unit⊕yaa)) :=
 cond (decide ((a2:Int)<(s_.length:Int))) (idxn s_ a2 λa6=>idx s_ ((a2:Int)-1) λa7=>(eq_ a6 a7).bind λa8=>cond (a8) (chk ((0:Int)<=(a2:Int)/\(a2:Int)<=(s_.length:Int)/\0<List.length s_) ((iter (λ(s:yaa×Nat×Nat)=>zaj.s18 eq_ a2 s.1 s.2.1 s.2.2) fuel (s_,a2,1):Option (yaa×Nat)).bind (λ(s:yaa×Nat)=>zaj.k19 s.1 s.2))) (some (.inl (a2+1)))) (some (.inr (.inl ())))
def zaj(s_:yaa)(eq_:(yab)->(yab)->Option Bool):Option (yaa) :=
 cond (decide ((s_.length:Int)<2)) (some s_) ((iter (λ(s:Nat)=>zaj.s20 s_ eq_ s) fuel 1:Option (Unit⊕yaa)).bind (Sum.elim (λ(_:Unit)=>some s_) some))
def zcv.s2(a7:yaa)(a6:yaa)(a2:Nat):Option ((yaa×Nat)⊕yaa) :=
 cond (decide ((a2:Int)<(a7.length:Int))) (idxn a6 a2 λa8=>(zfl a8).bind λb0=>idxn a6 a2 λb2=>chk (inR ((a2:Int)+1)) (some (.inl ((List.set a6 a2 b0),(a2+1))))) (some (.inr a6))
def zcv(l_:yaa)(order_:(yab)->(yab)->Option Int):Option (yaa) :=
 (zgi l_).bind λa6=>(zgh a6 order_).bind λa7=>(zaj a7 (λu0 u1=>zep u0 u1 order_)).bind λa2=>(iter (λ(s:yaa×Nat)=>zcv.s2 a2 s.1 s.2) fuel (a2,0):Option (yaa)).bind (λ(a8:yaa)=>some a8)
def zd7(l_:yaa):Option (yaa) :=
 (zcv l_ (λu0 u1=>zef u0 u1)).bind λa2=>some a2
def zgj(lists_:List (yaa)):Option (yaa) :=
 (za8 lists_).bind λa2=>(zd7 a2).bind λa6=>some a6
def zbd.s18(p_:zaa)(out_:Int)(b2:Nat)(b3:yab)(a6:yab)(a7:yab)(a2:Nat):Option ((yab×yab×Nat)⊕(yab×yab)) :=
 cond (decide ((a2:Int)<(b3.length:Int))) (idxn b3 a2 λa8=>idxn p_.Out b2 λb4=>idxn b4 a2 λb0=>idxn a6 a2 λb5=>idxn a7 a2 λb6=>cond (decide (a8=(-1:Int))) (idxn (List.set a6 a2 a8) a2 λb7=>idxn (List.set a7 a2 b0) a2 λb8=>some (.inl ((List.set (List.set a6 a2 a8) a2 (b2:Int)),(List.set (List.set a7 a2 b0) a2 out_),(a2+1)))) (some (.inl ((List.set a6 a2 a8),(List.set a7 a2 b0),(a2+1))))) (some (.inr (a6,a7)))
def zbd.k19(a2:yaa)(a6:yaa)(a7:Nat)(a8:yab)(b0:yab):Option ((yaa×yaa×Nat)⊕(yaa×yaa)) :=
 chk (za5 (List.length a2+1) 24) (chk (za5 (List.length a6+1) 24) (some (.inl ((a2++[a8]),(a6++[b0]),(a7+1)))))
def zbd.s20(p_:zaa)(out_:Int)(a6:yaa)(a7:yaa)(a2:Nat):Option ((yaa×yaa×Nat)⊕(yaa×yaa)) :=
 cond (decide ((a2:Int)<(p_.Next.length:Int))) (chk ((0:Int)<=p_.Inputs/\p_.Inputs<=p_.Inputs/\za5 (Int.toNat p_.Inputs) 8) (chk ((0:Int)<=p_.Inputs/\p_.Inputs<=p_.Inputs/\za5 (Int.toNat p_.Inputs) 8) (idxn p_.Next a2 λa8=>(iter (λ(s:yab×yab×Nat)=>zbd.s18 p_ out_ a2 a8 s.1 s.2.1 s.2.2) fuel ((List.replicate (Int.toNat p_.Inputs) (0:Int)),(List.replicate (Int.toNat p_.Inputs) (0:Int)),0):Option (yab×yab)).bind (λ(s:yab×yab)=>zbd.k19 a6 a7 a2 s.1 s.2)))) (some (.inr (a6,a7)))
def zbd.k21(p_:zaa)(a2:yaa)(a6:yaa):Option (zab×Int) :=
 some ((⟨p_.Inputs,p_.Start,a2,a6⟩:zab),0)
def zbd(p_:zaa)(out_:Int):Option (zab×Int) :=
 (zcb p_).bind λa2=>cond (decide (a2≠0)) (some ((⟨0,0,[],[]⟩:zab),a2)) ((cond (decide (out_<0)) (some true) (some (decide (1048576<out_))):Option (Bool)).bind (λ(a6:Bool)=>cond (a6) (some ((⟨0,0,[],[]⟩:zab),2)) (cond (decide (128<(p_.Next.length:Int))) (some ((⟨0,0,[],[]⟩:zab),11)) ((iter (λ(s:yaa×yaa×Nat)=>zbd.s20 p_ out_ s.1 s.2.1 s.2.2) fuel ([],[],0):Option (yaa×yaa)).bind (λ(s:yaa×yaa)=>zbd.k21 p_ s.1 s.2)))))
def zbz.s13(m_:zab)(a6:Nat)(a2:Nat):Option (Nat⊕(Unit⊕(Nat⊕(Unit⊕Int)))) :=
 cond (decide ((a2:Int)<m_.Inputs)) (idxn m_.Next a6 λb0=>idxn b0 a2 λa7=>idxn m_.Out a6 λb2=>idxn b2 a2 λa8=>(cond (decide (a7<0)) (some true) (cond (decide ((m_.Next.length:Int)<=a7)) (some true) (cond (decide (a8<0)) (some true) (some (decide (1048576<a8))))):Option (Bool)).bind (λ(b3:Bool)=>cond (b3) (some (.inr (.inr (.inr (.inr 2))))) (chk (inR ((a2:Int)+1)) (some (.inl (a2+1)))))) (some (.inr (.inl ())))
def zbz.s14(m_:zab)(a2:Nat):Option (Nat⊕(Unit⊕Int)) :=
 cond (decide ((a2:Int)<(m_.Next.length:Int))) ((idxn m_.Next a2 λa6=>cond (decide ((a6.length:Int)≠m_.Inputs)) (some true) (idxn m_.Out a2 λa7=>some (decide ((a7.length:Int)≠m_.Inputs))):Option (Bool)).bind (λ(a8:Bool)=>cond (a8) (some (.inr (.inr 1))) ((iter (λ(s:Nat)=>zbz.s13 m_ a2 s) fuel 0:Option (Unit⊕(Nat⊕(Unit⊕Int)))).bind (Sum.elim (λ(_:Unit)=>some (.inl (a2+1))) some)))) (some (.inr (.inl ())))
def zbz(m_:zab):Option (Int) :=
 (cond (decide (m_.Inputs<1)) (some true) (some (decide (64<m_.Inputs))):Option (Bool)).bind (λ(a2:Bool)=>cond (a2) (some 2) (cond (decide ((m_.Next.length:Int)=0)) (some 19) (cond (decide (128<(m_.Next.length:Int))) (some 11) ((cond (decide (m_.Start<0)) (some true) (some (decide ((m_.Next.length:Int)<=m_.Start))):Option (Bool)).bind (λ(a6:Bool)=>cond (a6) (some 2) (cond (decide ((m_.Out.length:Int)≠(m_.Next.length:Int))) (some 1) ((iter (λ(s:Nat)=>zbz.s14 m_ s) fuel 0:Option (Unit⊕Int)).bind (Sum.elim (λ(_:Unit)=>some 0) some))))))))
def zca.s18(b0:yab)(a2:List Bool)(a6:yab)(a7:Nat):Option ((List Bool×yab×Nat)⊕(List Bool×yab)) :=
 cond (decide ((a7:Int)<(b0.length:Int))) (idxn b0 a7 λa8=>idx a2 a8 λb2=>cond ((!b2)) (idx a2 a8 λb3=>chk (za5 (List.length a6+1) 8) (some (.inl ((List.set a2 a8.toNat true),(a6++[a8]),(a7+1))))) (some (.inl (a2,a6,(a7+1))))) (some (.inr (a2,a6)))
def zca.k19(a2:Nat)(a6:List Bool)(a7:yab):Option ((List Bool×yab×Nat)⊕yab) :=
 some (.inl (a6,a7,(a2+1)))
def zca.s20(m_:zab)(a7:List Bool)(a2:yab)(a6:Nat):Option ((List Bool×yab×Nat)⊕yab) :=
 cond (decide ((a6:Int)<(a2.length:Int))) (idxn a2 a6 λa8=>idx m_.Next a8 λb0=>(iter (λ(s:List Bool×yab×Nat)=>zca.s18 b0 s.1 s.2.1 s.2.2) fuel (a7,a2,0):Option (List Bool×yab)).bind (λ(s:List Bool×yab)=>zca.k19 a6 s.1 s.2)) (some (.inr a2))
def zca(m_:zab):Option (yab) :=
 (zbz m_).bind λa6=>cond (decide (a6≠0)) (some []) (chk ((0:Int)<=(m_.Next.length:Int)/\(m_.Next.length:Int)<=(m_.Next.length:Int)/\za5 (Int.toNat (m_.Next.length:Int)) 1) (idx (List.replicate m_.Next.length false) m_.Start λa7=>(iter (λ(s:List Bool×yab×Nat)=>zca.s20 m_ s.1 s.2.1 s.2.2) fuel ((List.set (List.replicate m_.Next.length false) m_.Start.toNat true),[m_.Start],0):Option (yab)).bind (λ(a2:yab)=>some a2)))
def zb4.s2(a7:yab)(a6:yab)(a2:Nat):Option ((yab×Nat)⊕yab) :=
 cond (decide ((a2:Int)<(a7.length:Int))) (idxn a7 a2 λa8=>idx a6 a8 λb0=>some (.inl ((List.set a6 a8.toNat (a2:Int)),(a2+1)))) (some (.inr a6))
def zb4.s15(b2:yab)(a7:yab)(a6:yab)(a2:Nat):Option ((yab×Nat)⊕yab) :=
 cond (decide ((a2:Int)<(a7.length:Int))) (idxn a7 a2 λa8=>idx b2 a8 λb0=>idxn a6 a2 λb3=>some (.inl ((List.set a6 a2 b0),(a2+1)))) (some (.inr a6))
def zb4.s16(m_:zab)(b5:yab)(b6:yab)(a2:yaa)(a6:yaa)(a7:Nat):Option ((yaa×yaa×Nat)⊕(yaa×yaa)) :=
 cond (decide ((a7:Int)<(b5.length:Int))) (idxn b5 a7 λa8=>chk ((0:Int)<=m_.Inputs/\m_.Inputs<=m_.Inputs/\za5 (Int.toNat m_.Inputs) 8) (idx m_.Next a8 λb0=>(iter (λ(s:yab×Nat)=>zb4.s15 b6 b0 s.1 s.2) fuel ((List.replicate (Int.toNat m_.Inputs) (0:Int)),0):Option (yab)).bind (λ(b2:yab)=>chk (za5 (List.length a2+1) 24) (idx m_.Out a8 λb3=>(zfl b3).bind λb4=>chk (za5 (List.length a6+1) 24) (some (.inl ((a2++[b2]),(a6++[b4]),(a7+1)))))))) (some (.inr (a2,a6)))
def zb4.k17(m_:zab)(a2:yaa)(a6:yaa):Option (zab×Int) :=
 some ((⟨m_.Inputs,0,a2,a6⟩:zab),0)
def zb4(m_:zab):Option (zab×Int) :=
 (zbz m_).bind λa2=>cond (decide (a2≠0)) (some ((⟨0,0,[],[]⟩:zab),a2)) ((zca m_).bind λa6=>chk ((0:Int)<=(m_.Next.length:Int)/\(m_.Next.length:Int)<=(m_.Next.length:Int)/\za5 (Int.toNat (m_.Next.length:Int)) 8) ((iter (λ(s:yab×Nat)=>zb4.s2 a6 s.1 s.2) fuel ((List.replicate m_.Next.length (0:Int)),0):Option (yab)).bind (λ(a7:yab)=>(iter (λ(s:yaa×yaa×Nat)=>zb4.s16 m_ a6 a7 s.1 s.2.1 s.2.2) fuel ([],[],0):Option (yaa×yaa)).bind (λ(s:yaa×yaa)=>zb4.k17 m_ s.1 s.2))))
def zbi.s18(m_:zab)(class_:yab)(a7:Nat)(a6:yab)(a2:Nat):Option ((yab×Nat)⊕yab) :=
 cond (decide ((a2:Int)<m_.Inputs)) (idxn m_.Out a7 λb0=>idxn b0 a2 λa8=>chk ((a2:Int)<128) (idxn a6 a2 λb5=>chk (inR (64+(a2:Int))) (idxn m_.Next a7 λb2=>idxn b2 a2 λb3=>idx class_ b3 λb4=>chk ((64+(a2:Int))<128) (idxn (List.set a6 a2 a8) (64+a2) λb6=>chk (inR ((a2:Int)+1)) (some (.inl ((List.set (List.set a6 a2 a8) (64+a2) b4),(a2+1)))))))) (some (.inr a6))
def zbi.k19(a6:yab)(a2:Nat)(a7:List (yab×Int))(a8:Int):Option (((List (yab×Int))×yab×Nat)⊕((List (yab×Int))×yab)) :=
 idxn a6 a2 λb0=>some (.inl (a7,(List.set a6 a2 a8),(a2+1)))
def zbi.s20(m_:zab)(class_:yab)(a2:List (yab×Int))(a8:yab)(a7:Nat):Option (((List (yab×Int))×yab×Nat)⊕((List (yab×Int))×yab)) :=
 cond (decide ((a7:Int)<(class_.length:Int))) ((iter (λ(s:yab×Nat)=>zbi.s18 m_ class_ a7 s.1 s.2) fuel ((List.replicate 128 0),0):Option (yab)).bind (λ(a6:yab)=>chk (List.length a6=128) (chk (List.length a6=128/\∀p∈a2,List.length p.1=128) ((cond ((!((mget a6 a2).isSome))) (chk (List.length a6=128) (chk (List.length a6=128/\∀p∈a2,List.length p.1=128) (some ((mset a6 (a2.length:Int) a2),(a2.length:Int))))) (some (a2,((mget a6 a2).getD 0))):Option ((List (yab×Int))×Int)).bind (λ(s:(List (yab×Int))×Int)=>zbi.k19 a8 a7 s.1 s.2))))) (some (.inr (a2,a8)))
def zbi.k21(a2:List (yab×Int))(a6:yab):Option (yab×Int) :=
 some (a6,(a2.length:Int))
def zbi(m_:zab)(class_:yab):Option (yab×Int) :=
 chk ((0:Int)<=(class_.length:Int)/\(class_.length:Int)<=(class_.length:Int)/\za5 (Int.toNat (class_.length:Int)) 8) ((iter (λ(s:(List (yab×Int))×yab×Nat)=>zbi.s20 m_ class_ s.1 s.2.1 s.2.2) fuel (([]:List (yab×Int)),(List.replicate class_.length (0:Int)),0):Option ((List (yab×Int))×yab)).bind (λ(s:(List (yab×Int))×yab)=>zbi.k21 s.1 s.2))
def zcl.s2(m_:zab)(k_:Int)(class71:yab)(a7:Int)(a2:Nat):Option ((yab×Int×Nat)⊕(yab⊕(yab×Int))) :=
 cond (decide ((a2:Int)<(min (max k_ 0) (m_.Next.length:Int)))) ((zbi m_ class71).bind λa6=>cond (decide (a6.2=a7)) (some (.inr (.inr (class71,(a2:Int))))) (some (.inl (a6.1,a6.2,(a2+1))))) (some (.inr (.inl class71)))
def zcl(m_:zab)(k_:Int):Option (yab×Int) :=
 chk ((0:Int)<=(m_.Next.length:Int)/\(m_.Next.length:Int)<=(m_.Next.length:Int)/\za5 (Int.toNat (m_.Next.length:Int)) 8) ((iter (λ(s:yab×Int×Nat)=>zcl.s2 m_ k_ s.1 s.2.1 s.2.2) fuel ((List.replicate m_.Next.length (0:Int)),1,0):Option (yab⊕(yab×Int))).bind (Sum.elim (λ(class67:yab)=>some (class67,(min (max k_ 0) (m_.Next.length:Int)))) some))
def ze7(m_:zab)(k_:Int):Option (yab×Int) :=
 (zbz m_).bind λa2=>cond (decide (a2≠0)) (some ([],a2)) ((zcl m_ k_).bind λa6=>some (a6.1,0))
def zey(m_:zab):Option (yab×Int) :=
 (ze7 m_ 128).bind λa2=>some (a2.1,a2.2)
def zbv.s30(b2:yab×Int)(a7:yab)(a2:yab)(a6:Nat):Option ((yab×Nat)⊕yab) :=
 cond (decide ((a6:Int)<(a7.length:Int))) (idxn a7 a6 λa8=>idx b2.1 a8 λb0=>chk (za5 (List.length a2+1) 8) (some (.inl ((a2++[b0]),(a6+1))))) (some (.inr a2))
def zbv.k31(a2:Nat)(a6:yaa)(a7:yaa):Option ((yaa×yaa×Nat)⊕(yaa×yaa)) :=
 some (.inl (a6,a7,(a2+1)))
def zbv.s32(b5:zab×Int)(b0:yab×Int)(a2:yaa)(a7:yaa)(a6:Nat):Option ((yaa×yaa×Nat)⊕(yaa×yaa)) :=
 cond (decide ((a6:Int)<(b0.1.length:Int))) ((idxn b0.1 a6 λb2=>cond (decide (b2<(a2.length:Int))) (some (a2,a7)) (idxn b5.1.Next a6 λb3=>(iter (λ(s:yab×Nat)=>zbv.s30 b0 b3 s.1 s.2) fuel ([],0):Option (yab)).bind (λ(b4:yab)=>chk (za5 (List.length a2+1) 24) (idxn b5.1.Out a6 λa8=>chk (za5 (List.length ([]:List Unit)+List.length a8) 8) (chk (za5 (List.length a7+1) 24) (some ((a2++[b4]),(a7++[([]++a8)]))))))):Option (yaa×yaa)).bind (λ(s:yaa×yaa)=>zbv.k31 a6 s.1 s.2)) (some (.inr (a2,a7)))
def zbv.k33(a7:zab×Int)(a2:yaa)(a6:yaa):Option (zab×Int) :=
 some ((⟨a7.1.Inputs,0,a2,a6⟩:zab),0)
def zbv(m_:zab):Option (zab×Int) :=
 (zb4 m_).bind λa2=>cond (decide (a2.2≠0)) (some ((⟨0,0,[],[]⟩:zab),a2.2)) ((zey a2.1).bind λa6=>cond (decide (a6.2≠0)) (some ((⟨0,0,[],[]⟩:zab),a6.2)) ((iter (λ(s:yaa×yaa×Nat)=>zbv.s32 a2 a6 s.1 s.2.1 s.2.2) fuel ([],[],0):Option (yaa×yaa)).bind (λ(s:yaa×yaa)=>zbv.k33 a2 s.1 s.2)))
def zcx.s2(m_:zab)(w_:yab)(b4:Int)(a6:yab)(a7:Nat):Option ((Int×yab×Nat)⊕yab) :=
 cond (decide ((a7:Int)<(w_.length:Int))) (idxn w_ a7 λa2=>idx m_.Out b4 λa8=>idx a8 a2 λb0=>chk (za5 (List.length a6+1) 8) (idx m_.Next b4 λb2=>idx b2 a2 λb3=>some (.inl (b3,(a6++[b0]),(a7+1))))) (some (.inr a6))
def zcx(m_:zab)(s_:Int)(w_:yab):Option (yab) :=
 chk ((0:Int)<=0/\0<=(w_.length:Int)/\za5 (Int.toNat (w_.length:Int)) 8) ((iter (λ(s:Int×yab×Nat)=>zcx.s2 m_ w_ s.1 s.2.1 s.2.2) fuel (s_,[],0):Option (yab)).bind (λ(a2:yab)=>some a2))
def zb2.s2(s1_:yab)(s2_:yab)(a2:Nat):Option (Nat⊕(Unit⊕Bool)) :=
 cond (decide ((a2:Int)<(s1_.length:Int))) (idxn s1_ a2 λa6=>idxn s2_ a2 λa7=>cond (decide (a6≠a7)) (some (.inr (.inr false))) (some (.inl (a2+1)))) (some (.inr (.inl ())))
def zb2(s1_:yab)(s2_:yab):Option (Bool) :=
 cond (decide ((s1_.length:Int)≠(s2_.length:Int))) (some false) ((iter (λ(s:Nat)=>zb2.s2 s1_ s2_ s) fuel 0:Option (Unit⊕Bool)).bind (Sum.elim (λ(_:Unit)=>some true) some))
def zd3(w_:yab)(p1_:zab)(p2_:Int)(p3_:Int):Option (Bool) :=
 (zcx p1_ p2_ w_).bind λa2=>(zcx p1_ p3_ w_).bind λa6=>(zb2 a2 a6).bind λa7=>some (!a7)
def zb8.s2(l_:yaa)(has_:(yab)->Option Bool)(a2:Nat):Option (Nat⊕(Unit⊕Bool)) :=
 cond (decide ((a2:Int)<(l_.length:Int))) (idxn l_ a2 λa6=>(has_ a6).bind λa7=>cond (a7) (some (.inr (.inr true))) (some (.inl (a2+1)))) (some (.inr (.inl ())))
def zb8(l_:yaa)(has_:(yab)->Option Bool):Option (Bool) :=
 (iter (λ(s:Nat)=>zb8.s2 l_ has_ s) fuel 0:Option (Unit⊕Bool)).bind (Sum.elim (λ(_:Unit)=>some false) some)
def zeh(m_:zab)(words_:yaa)(s_:Int)(t_:Int):Option (Bool) :=
 (zb8 words_ (λu0=>zd3 u0 m_ s_ t_)).bind λa2=>some a2
def zez(m_:zab):Option (Bool) :=
 ((zbz m_).bind λa6=>cond (decide (a6≠0)) (some true) ((zca m_).bind λa7=>some (decide ((a7.length:Int)≠(m_.Next.length:Int)))):Option (Bool)).bind (λ(a8:Bool)=>cond (a8) (some false) ((zbv m_).bind λa2=>(cond (decide (a2.2=0)) (some (decide ((a2.1.Next.length:Int)=(m_.Next.length:Int)))) (some false):Option (Bool)).bind (λ(b0:Bool)=>some b0)))
def zft(m_:zab):Option (Int) :=
 (zbz m_).bind λa2=>cond (decide (a2≠0)) (some a2) ((zez m_).bind λa6=>cond ((!a6)) (some 1) (some 0))
def zbb.s2(slices_:yaa)(size73:Nat)(a2:Nat):Option ((Nat×Nat)⊕Nat) :=
 cond (decide ((a2:Int)<(slices_.length:Int))) (idxn slices_ a2 λa6=>chk (inR ((size73:Int)+(a6.length:Int))) (cond (decide (((size73:Int)+(a6.length:Int))<0)) (none) (some (.inl ((size73+a6.length),(a2+1)))))) (some (.inr size73))
def zbb.s4(slices_:yaa)(a2:yab)(a6:Nat):Option ((yab×Nat)⊕yab) :=
 cond (decide ((a6:Int)<(slices_.length:Int))) (idxn slices_ a6 λa7=>chk (za5 (List.length a2+List.length a7) 8) (some (.inl ((a2++a7),(a6+1))))) (some (.inr a2))
def zbb(slices_:yaa):Option (yab) :=
 (iter (λ(s:Nat×Nat)=>zbb.s2 slices_ s.1 s.2) fuel (0,0):Option (Nat)).bind (λ(size68:Nat)=>(zla (size68:Int)).bind λa6=>(iter (λ(s:yab×Nat)=>zbb.s4 slices_ s.1 s.2) fuel (a6,0):Option (yab)).bind (λ(a2:yab)=>some a2))
def zhb(parts_:yaa):Option (yab) :=
 (zbb parts_).bind λa2=>some a2
def zbl.s2(a_:zab)(b_:zab)(a6:List (List Bool))(a2:Nat):Option ((List (List Bool)×Nat)⊕List (List Bool)) :=
 cond (decide ((a2:Int)<(↑(List.length (List.replicate a_.Next.length ([]:List Bool))):Int))) (chk ((0:Int)<=(b_.Next.length:Int)/\(b_.Next.length:Int)<=(b_.Next.length:Int)/\za5 (Int.toNat (b_.Next.length:Int)) 1) (idxn a6 a2 λa7=>chk (inR ((a2:Int)+1)) (some (.inl ((List.set a6 a2 (List.replicate b_.Next.length false)),(a2+1)))))) (some (.inr a6))
def zbl.s20(a_:zab)(b_:zab)(b4:Nat)(a6:zbk)(a8:List (List Bool))(a7:List zbk)(a2:Nat):Option ((List (List Bool)×List zbk×Nat)⊕((List (List Bool)×List zbk)⊕((List (List Bool)×List zbk×Nat)⊕(Unit⊕(yab×Bool))))) :=
 cond (decide ((a2:Int)<a_.Inputs)) (idx a_.Out a6.at_.s λb5=>idxn b5 a2 λb6=>idx b_.Out a6.at_.t λb7=>idxn b7 a2 λb8=>cond (decide (b6≠b8)) (idxn a7 b4 λb9=>(zhb [b9.word,[(a2:Int)]]).bind λc0=>some (.inr (.inr (.inr (.inr (c0,true)))))) (idx a_.Next a6.at_.s λc6=>idxn c6 a2 λb0=>idx b_.Next a6.at_.t λc7=>idxn c7 a2 λb2=>(cond ((!(decide (b0=a6.at_.s)&&(decide (b2=a6.at_.t)&&true)))) (idx a8 b0 λc8=>idx c8 b2 λc9=>some (!c9)) (some false):Option (Bool)).bind (λ(d0:Bool)=>cond (d0) (idx a8 b0 λb3=>idx b3 b2 λd3=>idxn a7 b4 λd1=>(zhb [d1.word,[(a2:Int)]]).bind λd2=>chk (za5 (List.length a7+1) 40) (chk (inR ((a2:Int)+1)) (some (.inl ((List.set a8 (Int.toNat b0) (List.set b3 (Int.toNat b2) true)),(a7++[(⟨(⟨b0,b2⟩:zdp),d2⟩:zbk)]),(a2+1)))))) (chk (inR ((a2:Int)+1)) (some (.inl (a8,a7,(a2+1)))))))) (some (.inr (.inl (a8,a7))))
def zbl.k21(a7:Nat)(a2:List (List Bool))(a6:List zbk):Option ((List (List Bool)×List zbk×Nat)⊕(Unit⊕(yab×Bool))) :=
 some (.inl (a2,a6,(a7+1)))
def zbl.s22(a_:zab)(b_:zab)(a8:List (List Bool))(a6:List zbk)(a2:Nat):Option ((List (List Bool)×List zbk×Nat)⊕(Unit⊕(yab×Bool))) :=
 cond (decide ((a2:Int)<(a6.length:Int))) (idxn a6 a2 λa7=>(iter (λ(s:List (List Bool)×List zbk×Nat)=>zbl.s20 a_ b_ a2 a7 s.1 s.2.1 s.2.2) fuel (a8,a6,0):Option ((List (List Bool)×List zbk)⊕((List (List Bool)×List zbk×Nat)⊕(Unit⊕(yab×Bool))))).bind (Sum.elim (λ(s:List (List Bool)×List zbk)=>zbl.k21 a2 s.1 s.2) some)) (some (.inr (.inl ())))
def zbl(a_:zab)(b_:zab)(first_:zdp):Option (yab×Bool) :=
 chk ((0:Int)<=(a_.Next.length:Int)/\(a_.Next.length:Int)<=(a_.Next.length:Int)/\za5 (Int.toNat (a_.Next.length:Int)) 24) ((iter (λ(s:List (List Bool)×Nat)=>zbl.s2 a_ b_ s.1 s.2) fuel ((List.replicate a_.Next.length ([]:List Bool)),0):Option (List (List Bool))).bind (λ(a2:List (List Bool))=>idx a2 first_.s λa6=>idx a6 first_.t λa7=>(iter (λ(s:List (List Bool)×List zbk×Nat)=>zbl.s22 a_ b_ s.1 s.2.1 s.2.2) fuel ((List.set a2 (Int.toNat first_.s) (List.set a6 (Int.toNat first_.t) true)),[(⟨first_,[]⟩:zbk)],0):Option (Unit⊕(yab×Bool))).bind (Sum.elim (λ(_:Unit)=>some ([],false)) some)))
def zha(m_:zab)(s_:Int)(t_:Int):Option (yab×Bool×Int) :=
 (zbz m_).bind λa2=>cond (decide (a2≠0)) (some ([],false,a2)) ((cond (decide (s_<0)) (some true) (cond (decide ((m_.Next.length:Int)<=s_)) (some true) (cond (decide (t_<0)) (some true) (some (decide ((m_.Next.length:Int)<=t_))))):Option (Bool)).bind (λ(a7:Bool)=>cond (a7) (some ([],false,2)) ((zbl m_ m_ (⟨s_,t_⟩:zdp)).bind λa6=>some (a6.1,a6.2,0))))
def zby.s13(m_:zab)(a8:Nat)(a2:yaa)(a6:Nat):Option ((yaa×Nat)⊕(yaa⊕((yaa×Nat)⊕(yaa⊕(yaa×Int))))) :=
 cond (decide ((a6:Int)<(m_.Next.length:Int))) (((zeh m_ a2 (a8:Int) (a6:Int)).bind λb0=>cond (b0) (some (.inl a2)) ((zha m_ (a8:Int) (a6:Int)).bind λa7=>cond (decide (a7.2.2≠0)) (some (.inr (.inr (.inr (.inr (.inr ([],a7.2.2))))))) (chk (za5 (List.length a2+1) 24) (some (.inl (a2++[a7.1]))))):Option (yaa⊕((yaa×Nat)⊕(yaa⊕((yaa×Nat)⊕(yaa⊕(yaa×Int))))))).bind (Sum.elim (λ(b2:yaa)=>some (.inl (b2,(a6+1)))) some)) (some (.inr (.inl a2)))
def zby.s14(m_:zab)(a6:yaa)(a2:Nat):Option ((yaa×Nat)⊕(yaa⊕(yaa×Int))) :=
 cond (decide ((a2:Int)<(m_.Next.length:Int))) ((iter (λ(s:yaa×Nat)=>zby.s13 m_ a2 s.1 s.2) fuel (a6,(a2+1)):Option (yaa⊕((yaa×Nat)⊕(yaa⊕(yaa×Int))))).bind (Sum.elim (λ(a7:yaa)=>some (.inl (a7,(a2+1)))) some)) (some (.inr (.inl a6)))
def zby(m_:zab):Option (yaa×Int) :=
 (zft m_).bind λa7=>cond (decide (a7≠0)) (some ([],a7)) ((iter (λ(s:yaa×Nat)=>zby.s14 m_ s.1 s.2) fuel ([],0):Option (yaa⊕(yaa×Int))).bind (Sum.elim (λ(a2:yaa)=>(zd7 a2).bind λa6=>some (a6,0)) some))
def zbf.s18(b4:yab)(a2:List (Option (yab)))(b0:yaa)(a8:yab)(a7:Nat):Option ((List (Option (yab))×yaa×yab×Nat)⊕(List (Option (yab))×yaa×yab)) :=
 cond (decide ((a7:Int)<(b4.length:Int))) (idxn b4 a7 λa6=>(cond (decide (a6≠(-1:Int))) (idx a2 a6 λb5=>some (Option.isNone b5)) (some false):Option (Bool)).bind (λ(b6:Bool)=>cond (b6) (idxn a8 0 λb7=>idx a2 b7 λb8=>Option.bind b8 λb2=>chk (za5 (List.length ([]:List Unit)+List.length b2) 8) (chk (za5 (List.length ([]++b2)+1) 8) (idx a2 a6 λc0=>idx (List.set a2 a6.toNat (some (([]++b2)++[(a7:Int)]))) a6 λb9=>Option.bind b9 λb3=>chk (za5 (List.length ([]:List Unit)+List.length b3) 8) (chk (za5 (List.length b0+1) 24) (chk (za5 (List.length a8+1) 8) (some (.inl ((List.set a2 a6.toNat (some (([]++b2)++[(a7:Int)]))),(b0++[([]++b3)]),(a8++[a6]),(a7+1))))))))) (some (.inl (a2,b0,a8,(a7+1)))))) (some (.inr (a2,b0,a8)))
def zbf.k19(a6:List (Option (yab)))(a7:yaa)(a2:yab):Option ((List (Option (yab))×yaa×yab)⊕yaa) :=
 chk (1<=List.length a2) (some (.inl (a6,a7,(List.drop 1 a2))))
def zbf.s20(p_:zaa)(a7:List (Option (yab)))(a6:yaa)(a2:yab):Option ((List (Option (yab))×yaa×yab)⊕yaa) :=
 cond (decide (0<(a2.length:Int))) (idxn a2 0 λa8=>idx p_.Next a8 λb0=>(iter (λ(s:List (Option (yab))×yaa×yab×Nat)=>zbf.s18 b0 s.1 s.2.1 s.2.2.1 s.2.2.2) fuel (a7,a6,a2,0):Option (List (Option (yab))×yaa×yab)).bind (λ(s:List (Option (yab))×yaa×yab)=>zbf.k19 s.1 s.2.1 s.2.2)) (some (.inr a6))
def zbf(p_:zaa):Option (yaa) :=
 chk ((0:Int)<=(p_.Next.length:Int)/\(p_.Next.length:Int)<=(p_.Next.length:Int)/\za5 (Int.toNat (p_.Next.length:Int)) 24) (idx (List.replicate p_.Next.length (none:Option (yab))) p_.Start λa7=>(iter (λ(s:List (Option (yab))×yaa×yab)=>zbf.s20 p_ s.1 s.2.1 s.2.2) fuel ((List.set (List.replicate p_.Next.length (none:Option (yab))) p_.Start.toNat (some ([]:yab))),[[]],[p_.Start]):Option (yaa)).bind (λ(a6:yaa)=>(zd7 a6).bind λa2=>some a2))
def zcs.s2(o_:zav)(a6:yaa)(a2:Nat):Option ((yaa×Nat)⊕yaa) :=
 cond (decide ((a2:Int)<o_.Inputs)) (chk (za5 (List.length a6+1) 24) (chk (inR ((a2:Int)+1)) (some (.inl ((a6++[[(a2:Int)]]),(a2+1)))))) (some (.inr a6))
def zcs(o_:zav):Option (zcq×Int) :=
 (zbh o_).bind λa2=>cond (decide (a2.2≠0)) (some ((⟨0,[],[]⟩:zcq),a2.2)) ((zbd a2.1 0).bind λa6=>cond (decide (a6.2≠0)) (some ((⟨0,[],[]⟩:zcq),a6.2)) ((zbv a6.1).bind λa7=>(zby a7.1).bind λa8=>(iter (λ(s:yaa×Nat)=>zcs.s2 o_ s.1 s.2) fuel ([],0):Option (yaa)).bind (λ(b0:yaa)=>(zbf a2.1).bind λb2=>(zgj [b0,a8.1]).bind λb3=>some ((⟨o_.Inputs,b2,b3⟩:zcq),0))))
def zcg.s2(a_:yaa)(b_:yaa)(a2:Nat):Option (Nat⊕(Unit⊕Bool)) :=
 cond (decide ((a2:Int)<(a_.length:Int))) (idxn a_ a2 λa6=>idxn b_ a2 λa7=>(zgf a6 a7).bind λa8=>cond ((!a8)) (some (.inr (.inr false))) (some (.inl (a2+1)))) (some (.inr (.inl ())))
def zcg(a_:yaa)(b_:yaa):Option (Bool) :=
 cond (decide ((a_.length:Int)≠(b_.length:Int))) (some false) ((iter (λ(s:Nat)=>zcg.s2 a_ b_ s) fuel 0:Option (Unit⊕Bool)).bind (Sum.elim (λ(_:Unit)=>some true) some))
def R35_Same(a_:zaa)(b_:zaa):Option (Bool) :=
 (cond (decide (a_.Inputs=b_.Inputs)) (cond (decide (a_.Start=b_.Start)) ((zcg a_.Next b_.Next).bind λa2=>cond (a2) ((zcg a_.Out b_.Out).bind λa6=>some a6) (some false)) (some false)) (some false):Option (Bool)).bind (λ(a7:Bool)=>some a7)
def zhn(a_:zcq)(b_:zcq):Option (Bool) :=
 (cond (decide (a_.Inputs=b_.Inputs)) ((zcg a_.Prefixes b_.Prefixes).bind λa2=>cond (a2) ((zcg a_.Suffixes b_.Suffixes).bind λa6=>some a6) (some false)) (some false):Option (Bool)).bind (λ(a7:Bool)=>some a7)
def zjb:Option (Bool) :=
 (zc3 (⟨1,[(⟨[0,0,0,0],[1,2,1,2]⟩:zag)]⟩:zav)).bind λa2=>(zfx a2.1 0 2).bind λa6=>(zfx a2.1 0 4).bind λa7=>(zfx a2.1 0 1).bind λa8=>(zbh (⟨1,[(⟨[0,0,0,0],[1,2,1,2]⟩:zag)]⟩:zav)).bind λb0=>(zcs (⟨1,[(⟨[0,0,0,0],[1,2,1,2]⟩:zag)]⟩:zav)).bind λb2=>(zcs (⟨2,[]⟩:zav)).bind λb3=>(cond (decide (a6.1=2)) (cond (a6.2.1) (cond (decide (a6.2.2=0)) (cond (decide (a7.1=0)) (cond (a7.2.1) (cond (decide (a7.2.2=0)) (cond ((!a8.2.1)) (cond (decide (a8.2.2=0)) ((R35_Same b0.1 (⟨1,0,[[1],[0]],[[1],[2]]⟩:zaa)).bind λb4=>cond (b4) (cond (decide (b0.2=0)) ((zhn b2.1 (⟨1,[[],[0]],[[0]]⟩:zcq)).bind λb5=>cond (b5) (cond (decide (b2.2=0)) ((zhn b3.1 (⟨2,[[]],[[0],[1]]⟩:zcq)).bind λb6=>cond (b6) (some (decide (b3.2=0))) (some false)) (some false)) (some false)) (some false)) (some false)) (some false)) (some false)) (some false)) (some false)) (some false)) (some false)) (some false)) (some false):Option (Bool)).bind (λ(b7:Bool)=>some b7)
def zfv.s2(l_:yab)(n_:Int)(a2:Nat):Option (Nat⊕Nat) :=
 (cond (decide ((a2:Int)<(l_.length:Int))) (idxn l_ a2 λa6=>some (decide (a6≠n_))) (some false):Option (Bool)).bind (λ(a7:Bool)=>cond (a7) (chk (inR ((a2:Int)+1)) (some (.inl (a2+1)))) (some (.inr a2)))
def zfv(l_:yab)(n_:Int):Option (Int) :=
 (iter (λ(s:Nat)=>zfv.s2 l_ n_ s) fuel 0:Option (Nat)).bind (λ(a2:Nat)=>some (a2:Int))
def zli.s2(a7:Int)(a8:Int)(b0:Int)(b2:Int)(a2:yab)(a6:Nat):Option ((yab×Nat)⊕yab) :=
 cond (decide ((a6:Int)<(a2.length:Int))) (idxn a2 a6 λb3=>cond (decide (b3=(max b0 b2))) (idxn a2 a6 λb4=>some (.inl ((List.set a2 a6 (min a7 a8)),(a6+1)))) (some (.inl (a2,(a6+1))))) (some (.inr a2))
def zli(class_:yab)(s_:Int)(t_:Int):Option (yab) :=
 idx class_ s_ λa2=>idx class_ t_ λa6=>idx class_ s_ λa7=>idx class_ t_ λa8=>(iter (λ(s:yab×Nat)=>zli.s2 a2 a6 a7 a8 s.1 s.2) fuel (class_,0):Option (yab)).bind (λ(b0:yab)=>some b0)
def zh5.s2(p_:zaa)(class_:yab)(c_:Int)(a_:Int)(a2:Nat):Option (Nat⊕(Unit⊕Int)) :=
 cond (decide ((a2:Int)<(class_.length:Int))) ((idxn class_ a2 λa6=>cond (decide (a6=c_)) (idxn p_.Next a2 λa7=>idx a7 a_ λa8=>some (decide (a8≠(-1:Int)))) (some false):Option (Bool)).bind (λ(b0:Bool)=>cond (b0) (some (.inr (.inr (a2:Int)))) (some (.inl (a2+1))))) (some (.inr (.inl ())))
def zh5(p_:zaa)(class_:yab)(c_:Int)(a_:Int):Option (Int) :=
 (iter (λ(s:Nat)=>zh5.s2 p_ class_ c_ a_ s) fuel 0:Option (Unit⊕Int)).bind (Sum.elim (λ(_:Unit)=>some (-1:Int)) some)
def zco.k53(a2:Nat)(a6:yab)(a7:yab)(a8:yab):Option ((yab×yab×yab×Nat)⊕(yab×yab×yab)) :=
 chk (inR ((a2:Int)+1)) (some (.inl (a6,a7,a8,(a2+1))))
def zco.s54(p_:zaa)(class_:yab)(b4:Nat)(a2:yab)(a6:yab)(a7:yab)(a8:Nat):Option ((yab×yab×yab×Nat)⊕(yab×yab×yab)) :=
 cond (decide ((a8:Int)<p_.Inputs)) ((idxn a2 b4 λb5=>(zh5 p_ class_ b5 (a8:Int)).bind λb0=>cond (decide (b0=(-1:Int))) (chk (za5 (List.length a6+1) 8) (chk (za5 (List.length a7+1) 8) (some (a2,(a6++[(-1:Int)]),(a7++[(-1:Int)]))))) (idx p_.Next b0 λb6=>idxn b6 a8 λb7=>idx class_ b7 λb2=>((zfv a2 b2).bind λb8=>cond (decide (b8=(a2.length:Int))) (chk (za5 (List.length a2+1) 8) (some (a2++[b2]))) (some a2):Option (yab)).bind (λ(b3:yab)=>(zfv b3 b2).bind λb9=>chk (za5 (List.length a6+1) 8) (idx p_.Out b0 λc0=>idxn c0 a8 λc6=>chk (za5 (List.length a7+1) 8) (some (b3,(a6++[b9]),(a7++[c6])))))):Option (yab×yab×yab)).bind (λ(s:yab×yab×yab)=>zco.k53 a8 s.1 s.2.1 s.2.2)) (some (.inr (a2,a6,a7)))
def zco.k55(a2:yaa)(a6:yaa)(a7:Nat)(a8:yab)(b0:yab)(b2:yab):Option ((yab×yaa×yaa×Nat)⊕(yab×yaa×yaa)) :=
 chk (za5 (List.length a2+1) 24) (chk (za5 (List.length a6+1) 24) (some (.inl (a8,(a2++[b0]),(a6++[b2]),(a7+1)))))
def zco.s56(p_:zaa)(class_:yab)(a2:yab)(a7:yaa)(a8:yaa)(a6:Nat):Option ((yab×yaa×yaa×Nat)⊕(yab×yaa×yaa)) :=
 cond (decide ((a6:Int)<(a2.length:Int))) ((iter (λ(s:yab×yab×yab×Nat)=>zco.s54 p_ class_ a6 s.1 s.2.1 s.2.2.1 s.2.2.2) fuel (a2,[],[],0):Option (yab×yab×yab)).bind (λ(s:yab×yab×yab)=>zco.k55 a7 a8 a6 s.1 s.2.1 s.2.2)) (some (.inr (a2,a7,a8)))
def zco.k57(p_:zaa)(a2:yab)(a6:yaa)(a7:yaa):Option (zaa×yab) :=
 some ((⟨p_.Inputs,0,a6,a7⟩:zaa),a2)
def zco(p_:zaa)(class_:yab):Option (zaa×yab) :=
 idx class_ p_.Start λa2=>(iter (λ(s:yab×yaa×yaa×Nat)=>zco.s56 p_ class_ s.1 s.2.1 s.2.2.1 s.2.2.2) fuel ([a2],[],[],0):Option (yab×yaa×yaa)).bind (λ(s:yab×yaa×yaa)=>zco.k57 p_ s.1 s.2.1 s.2.2)
def zlf.s2(red_:List Bool)(class_:yab)(l_:yab)(a6:List Bool)(a2:Nat):Option ((List Bool×Nat)⊕List Bool) :=
 cond (decide ((a2:Int)<(red_.length:Int))) (idxn red_ a2 λa8=>cond (a8) (idxn class_ a2 λb0=>(zfv l_ b0).bind λa7=>idx a6 a7 λb2=>some (.inl ((List.set a6 a7.toNat true),(a2+1)))) (some (.inl (a6,(a2+1))))) (some (.inr a6))
def zlf(red_:List Bool)(class_:yab)(l_:yab):Option (List Bool) :=
 chk ((0:Int)<=(l_.length:Int)/\(l_.length:Int)<=(l_.length:Int)/\za5 (Int.toNat (l_.length:Int)) 1) ((iter (λ(s:List Bool×Nat)=>zlf.s2 red_ class_ l_ s.1 s.2) fuel ((List.replicate l_.length false),0):Option (List Bool)).bind (λ(a2:List Bool)=>some a2))
def zeb.s2(l_:yaa)(a6:yaa)(a2:Nat):Option ((yaa×Nat)⊕yaa) :=
 cond (decide ((a2:Int)<(l_.length:Int))) (idxn l_ a2 λa7=>(zfp a6 a7).bind λa8=>some (.inl (a8,(a2+1)))) (some (.inr a6))
def zeb(l_:yaa):Option (yaa) :=
 (iter (λ(s:yaa×Nat)=>zeb.s2 l_ s.1 s.2) fuel ([],0):Option (yaa)).bind (λ(a2:yaa)=>some a2)
def zh6.s2(m_:zab)(s_:Int)(a2:Nat):Option (Nat⊕(Unit⊕Int)) :=
 cond (decide ((a2:Int)<m_.Inputs)) ((idx m_.Next s_ λa6=>idxn a6 a2 λa7=>cond (decide (a7<0)) (some true) (idx m_.Next s_ λa8=>idxn a8 a2 λb0=>cond (decide ((m_.Next.length:Int)<=b0)) (some true) (idx m_.Out s_ λb2=>idxn b2 a2 λb3=>cond (decide (b3<0)) (some true) (idx m_.Out s_ λb4=>idxn b4 a2 λb5=>some (decide (1048576<b5))))):Option (Bool)).bind (λ(b6:Bool)=>cond (b6) (some (.inr (.inr 2))) (chk (inR ((a2:Int)+1)) (some (.inl (a2+1)))))) (some (.inr (.inl ())))
def zh6(m_:zab)(s_:Int):Option (Int) :=
 (idx m_.Next s_ λa2=>cond (decide ((a2.length:Int)≠m_.Inputs)) (some true) (idx m_.Out s_ λa6=>some (decide ((a6.length:Int)≠m_.Inputs))):Option (Bool)).bind (λ(a7:Bool)=>cond (a7) (some 1) ((iter (λ(s:Nat)=>zh6.s2 m_ s_ s) fuel 0:Option (Unit⊕Int)).bind (Sum.elim (λ(_:Unit)=>some 0) some)))
def zev.s2(m_:zab)(a2:Nat):Option (Nat⊕(Unit⊕Int)) :=
 cond (decide ((a2:Int)<(m_.Next.length:Int))) ((zh6 m_ (a2:Int)).bind λa6=>cond (decide (a6≠0)) (some (.inr (.inr a6))) (some (.inl (a2+1)))) (some (.inr (.inl ())))
def zev(m_:zab):Option (Int) :=
 (cond (decide (m_.Inputs<1)) (some true) (some (decide (64<m_.Inputs))):Option (Bool)).bind (λ(a2:Bool)=>cond (a2) (some 2) (cond (decide ((m_.Next.length:Int)=0)) (some 19) (cond (decide (128<(m_.Next.length:Int))) (some 11) ((cond (decide (m_.Start<0)) (some true) (some (decide ((m_.Next.length:Int)<=m_.Start))):Option (Bool)).bind (λ(a6:Bool)=>cond (a6) (some 2) (cond (decide ((m_.Out.length:Int)≠(m_.Next.length:Int))) (some 1) ((iter (λ(s:Nat)=>zev.s2 m_ s) fuel 0:Option (Unit⊕Int)).bind (Sum.elim (λ(_:Unit)=>some 0) some))))))))
def zeg.s2(p_:zaa)(w_:yab)(a6:Int)(a7:yab)(a8:Nat):Option ((Int×yab×Nat)⊕(yab⊕(yab×Bool))) :=
 cond (decide ((a8:Int)<(w_.length:Int))) (idxn w_ a8 λa2=>(cond (decide (a2<0)) (some true) (cond (decide (p_.Inputs<=a2)) (some true) (idx p_.Next a6 λb0=>idx b0 a2 λb2=>some (decide (b2=(-1:Int))))):Option (Bool)).bind (λ(b3:Bool)=>cond (b3) (some (.inr (.inr ([],false)))) (idx p_.Out a6 λb4=>idx b4 a2 λb5=>chk (za5 (List.length a7+1) 8) (idx p_.Next a6 λb6=>idx b6 a2 λb7=>some (.inl (b7,(a7++[b5]),(a8+1))))))) (some (.inr (.inl a7)))
def zeg(p_:zaa)(w_:yab):Option (yab×Bool) :=
 (zcb p_).bind λa6=>cond (decide (a6≠0)) (some ([],false)) ((iter (λ(s:Int×yab×Nat)=>zeg.s2 p_ w_ s.1 s.2.1 s.2.2) fuel (p_.Start,[],0):Option (yab⊕(yab×Bool))).bind (Sum.elim (λ(a2:yab)=>some (a2,true)) some))
def zgs.s2(l_:yaa)(w_:yab)(a2:Nat):Option (Nat⊕(Unit⊕Bool)) :=
 cond (decide ((a2:Int)<(l_.length:Int))) (idxn l_ a2 λa6=>(zgf a6 w_).bind λa7=>cond (a7) (some (.inr (.inr true))) (some (.inl (a2+1)))) (some (.inr (.inl ())))
def zgs(l_:yaa)(w_:yab):Option (Bool) :=
 (iter (λ(s:Nat)=>zgs.s2 l_ w_ s) fuel 0:Option (Unit⊕Bool)).bind (Sum.elim (λ(_:Unit)=>some false) some)
def zax.s2(o_:zav)(b3:zaa×Int)(a2:Nat):Option (Nat⊕(Unit⊕Bool)) :=
 cond (decide ((a2:Int)<(o_.Traces.length:Int))) (idxn o_.Traces a2 λa7=>(zeg b3.1 a7.In).bind λa6=>(cond ((!a6.2)) (some true) (idxn o_.Traces a2 λa8=>(zgf a6.1 a8.Out).bind λb0=>some (!b0)):Option (Bool)).bind (λ(b2:Bool)=>cond (b2) (some (.inr (.inr false))) (some (.inl (a2+1))))) (some (.inr (.inl ())))
def zax.s4(b5:zaa×Int)(a6:zcq×Int)(a2:Nat):Option (Nat⊕(Unit⊕Bool)) :=
 cond (decide ((a2:Int)<(a6.1.Prefixes.length:Int))) (idxn a6.1.Prefixes a2 λa7=>(zeg b5.1 a7).bind λa8=>(cond ((!a8.2)) (some true) (cond (decide (0<(a2:Int))) (idx a6.1.Prefixes ((a2:Int)-1) λb0=>idxn a6.1.Prefixes a2 λb2=>(zf6 b0 b2).bind λb3=>some (decide (0<=b3))) (some false)):Option (Bool)).bind (λ(b4:Bool)=>cond (b4) (some (.inr (.inr false))) (some (.inl (a2+1))))) (some (.inr (.inl ())))
def zax.s6(o_:zav)(a7:zcq×Int)(a2:Nat):Option (Nat⊕(Unit⊕Bool)) :=
 cond (decide ((a2:Int)<o_.Inputs)) ((zgs a7.1.Suffixes [(a2:Int)]).bind λa6=>cond ((!a6)) (some (.inr (.inr false))) (chk (inR ((a2:Int)+1)) (some (.inl (a2+1))))) (some (.inr (.inl ())))
def zax(o_:zav):Option (Bool) :=
 ((ze0 o_).bind λb6=>cond (b6) (some true) ((zex o_).bind λb7=>some (decide (b7≠0))):Option (Bool)).bind (λ(b8:Bool)=>cond (b8) ((zjb).bind λb9=>some b9) ((zbh o_).bind λa6=>(zcs o_).bind λa2=>(cond (decide (a6.2≠0)) (some true) (cond (decide (a2.2≠0)) (some true) ((zcb a6.1).bind λc0=>cond (decide (c0≠0)) (some true) (cond (decide ((a2.1.Prefixes.length:Int)≠(a6.1.Next.length:Int))) (some true) (cond (decide ((a2.1.Prefixes.length:Int)=0)) (some true) (some (decide (a2.1.Inputs≠o_.Inputs))))))):Option (Bool)).bind (λ(c6:Bool)=>cond (c6) (some false) ((iter (λ(s:Nat)=>zax.s2 o_ a6 s) fuel 0:Option (Unit⊕Bool)).bind (Sum.elim (λ(_:Unit)=>(iter (λ(s:Nat)=>zax.s4 a6 a2 s) fuel 0:Option (Unit⊕Bool)).bind (Sum.elim (λ(_:Unit)=>(iter (λ(s:Nat)=>zax.s6 o_ a2 s) fuel 0:Option (Unit⊕Bool)).bind (Sum.elim (λ(_:Unit)=>((zcd a2.1.Prefixes).bind λa7=>(zcg a7 a2.1.Prefixes).bind λa8=>cond (a8) ((zeb a2.1.Suffixes).bind λb0=>(zcg b0 a2.1.Suffixes).bind λb2=>cond (b2) (cond (decide (0<(a2.1.Suffixes.length:Int))) (idxn a2.1.Suffixes 0 λb3=>cond (decide (0<(b3.length:Int))) ((zjb).bind λb4=>some b4) (some false)) (some false)) (some false)) (some false):Option (Bool)).bind (λ(b5:Bool)=>some b5)) some)) some)) some)))))
end
section
section
variable {S R A B α β:Type}
def za1{step:S->Option (S⊕R)}(I:S->Prop)(m:S->Nat)(Q:R->Prop)(h:∀s,I s->(∃s',step s=some (.inl s')/\I s'/\m s'<m s)\/∃r,step s=some (.inr r)/\Q r) :
  ∀(n:Nat) (s:S),I s->m s<n->∃r,iter step n s=some r/\Q r
 |0,_,_,hm=>absurd hm (ybg _)
 |n+1,s,hi,hm=>by
  unfold iter;rcases h s hi with⟨s',e,hi',hm'⟩|⟨r,e,hq⟩
  ·rw[e];exact za1 I m Q h n s' hi' (by omega)
  ·rw[e];exact⟨r,rfl,hq⟩
def zek{step:S->Option (S⊕R)}{r:R}(I:S->Prop)(m:S->Nat)(h:∀s,I s->(∃s',step s=some (.inl s')/\I s'/\m s'<m s)\/step s=some (.inr r)){n:Nat}{s:S}(hi:I s)(hm:m s<n):iter step n s=some r:=by
 obtain⟨r',e,rfl⟩:=za1 I m (λr'=>r'=r) (λs hs=>(h s hs).imp id λe=>⟨r,e,rfl⟩) n s hi hm;exact e
def walk(g:A->Nat->α->Option (A⊕R))(fin:A->Option R):A->Nat->List α->Option R
 |a,_,[]=>fin a
 |a,i,x::l=>(g a i x).bind (Sum.elim (λa'=>walk g fin a' (i+1) l) some)
def zah{l:List α}{i:Nat}{x:α}{k:α->Option β}(h:l[i]?=some x):idxn l i k=k x:=by unfold idxn;rw[h]
def za9{l:List α}{n:Int}{i:Nat}{x:α}{k:α->Option β}(hn:n=(i:Int))(h:l[i]?=some x):idx l n k=k x:=by
 subst hn;unfold idx;rw[if_pos (by omega),yah,h]
def zaq{c:Prop}[Decidable c]{k:Option α}(h:c):chk c k=k:=by unfold chk;rw[if_pos h]
def zam{a:α}{f:α->Option β}:(some a).bind f=f a:=(ybr a f).trans (Eq.trans rfl rfl)
def zay:100000000000000<fuel:=by unfold fuel;omega
def zdw{l:List α}{i:Nat}{x:α}(h:l[i]?=some x):decide ((i:Int)<(l.length:Int))=true:=by
 have:=(zkI.1 h).1;simpa using this
def zf4(l:List α):decide ((l.length:Int)<(l.length:Int))=false:=by simp
def scan(g:Nat->α->Option R):Nat->List α->Option R
 |_,[]=>none
 |i,x::l=>match g i x with|some r=>some r|none=>scan g (i+1) l
def zfc{g:Nat->α->Option R}:∀{l:List α} {j:Nat},scan g j l=none↔∀i x,l[i]?=some x->g (j+i) x=none
 |[],j=>by simp[scan]
 |y::l,j=>by
  constructor
  ·intro h i x hx;unfold scan at h;cases e:g j y with
   |some r=>rw[e]at h;cases h
   |none =>
    rw[e]at h
    match i,hx with
    |0,hx =>
     simp at hx;subst hx;exact e
    |i+1,hx =>
     have:=(zfc (g:=g) (l:=l) (j:=j+1)).1 h i x (by simpa using hx)
     rwa [show j+1+i=j+(i+1) by omega]at this
  ·intro h;unfold scan;have h0:=h 0 y rfl;rw[ybz]at h0;rw[h0]
   exact(zfc (g:=g) (l:=l) (j:=j+1)).2 λi x hx=>by
    have:=h (i+1) x (by simpa using hx)
    rwa [show j+(i+1)=j+1+i by omega]at this
def zdy{step:Nat->Option (Nat⊕(Unit⊕R))}{l:List α}(g:Nat->α->Option R)(h1:∀i x,l[i]?=some x->step i=some (match g i x with|some r=>.inr (.inr r)|none=>.inl (i+1)))(h2:step l.length=some (.inr (.inl ())))(hl:l.length<=100000000000000) :
  iter step fuel 0=some (match scan g 0 l with|some r=>.inr r|none=>.inl ()):=by
 have key:∀(n i:Nat),i<=l.length->l.length-i<n->iter step n i=some (match scan g i (l.drop i) with|some r=>.inr r|none=>.inl ()):=by
  intro n
  induction n with
  |zero=>intro i _ h;omega
  |succ n ih =>
   intro i hi hn;rcases ya9 i l.length with h|h
   ·rw[yb1 h];unfold iter scan;rw[h1 i _ (zkM h)];cases g i l[i]with
    |some r=>rfl
    |none=>exact ih (i+1) h (by omega)
   ·have e:i=l.length:=by omega
    subst e;rw[yfd];unfold iter scan;rw[h2]
 exact key fuel 0 (yaf _) (by have:=zay;omega)
end
end
section
open Go.RowKit
def zil(x y:Int):cmp_Compare_int x y=some (cmpI x y):=by
 unfold cmp_Compare_int cmp_isNaN_int cmpI;by_cases h1:x<y
 ·simp[h1]
 ·by_cases h2:y<x<;>simp[h1,h2]
def zjw(s t:yab)(hs:s.length<=100000000000000):zbs s t=some (lexI s t):=by
 have key:=za1 (step:=λk=>zbs.s2 s t k) (λk=>k<=s.length/\k<=t.length/\lexI s t=lexI (s.drop k) (t.drop k)) (λk=>s.length-k)
  (λr=>Sum.elim (λ(_:Unit)=>cond (decide ((s.length:Int)<(t.length:Int))) (some (-1:Int)) (some 0)) some r=some (lexI s t)) (λk ⟨h1,h2,h3⟩=>by
   unfold zbs.s2
   rcases ya9 k s.length with h|h
   ·have hx:=zkM h
    rw[zdw hx,zkD,zah hx]
    by_cases h4:t.length<=k
    ·right
     refine⟨.inr 1,by simp[h4],?_⟩
     rw[h3,lexI_long h h4]
     rfl
    ·have hy:=zkM (show k<t.length by omega)
     have a0:=lexI_step hx hy
     have d4:decide ((t.length:Int)<=(k:Int))=false:=by simp;omega
     rw[d4,zkC,zah hy,zil]
     by_cases h5:cmpI s[k] t[k]=0
     ·left
      rw[if_pos h5]at a0
      exact⟨k+1,by simp[h5],⟨by omega,by omega,by rw[h3,a0]⟩,by omega⟩
     ·right
      rw[if_neg h5]at a0
      exact⟨.inr (cmpI s[k] t[k]),by simp[h5],by rw[h3,a0];rfl⟩
   ·right
    have e:k=s.length:=by omega
    subst e
    rw[zf4,zkC]
    refine⟨.inl (),rfl,?_⟩
    rw[h3,lexI_end (yaq _)]
    by_cases h4:s.length<t.length<;>simp[h4]) fuel 0 ⟨yaf _,yaf _,rfl⟩ (by have:=zay;simp only[yea];omega)
 obtain⟨r,e,hq⟩:=key;unfold zbs;rw[e];exact hq
def cmp_Or_two(x y:Int):zd1 [x,y]=some (if x≠0 then x else y):=by
 unfold zd1;have e:fuel=(fuel-3)+1+1+1:=by unfold fuel;omega
 rw[e];by_cases h1:x=0
 ·by_cases h2:y=0
  ·simp[iter,zd1.s2,idxn,h1,h2]
  ·simp[iter,zd1.s2,idxn,h1,h2]
 ·simp[iter,zd1.s2,idxn,h1]
def zr8(s t:yab)(hs:s.length<=100000000000000):word_Lex s t=some (lexI s t):=by
 unfold word_Lex;rw[zjw s t hs];rfl
def zhx(s t:yab)(hs:s.length<=100000000000000):zef s t=some (cmpW s t):=by
 unfold zef;rw[zjw s t hs,zil];show(zd1 [cmpI s.length t.length,lexI s t]).bind some=_;rw[cmp_Or_two];show some _=some _;congr 1;unfold cmpI cmpW;by_cases h1:s.length<t.length
 ·simp[h1]
 ·by_cases h2:t.length<s.length
  ·simp[h1,h2]
  ·simp[h1,h2]
def zn9:CmpE Tryz.prog 130 (λx=>nL cI x) (λx y=>zef x y) :=
 ⟨λargs w=>ze1 rfl rfl rfl args w,cmpG_compare λx y r hx h=>by rw[zhx x y (by omega)]at h;injection h with h;exact h.symm⟩
def zmb:CmpE Tryz.prog 142 (λx=>.agg (zau x)) (λx y=>zdl x y) :=
 ⟨λargs w=>ze1 rfl rfl rfl args w,cmpG_fits1 (T:=zag) (i:=λx=>x.In) (o:=λx=>x.Out) (f:=λx y=>zdl x y) (λ_=>rfl) λx y r hx h=>by
  simp only[zdl]at h
  rw[zr8 _ _ (by omega)]at h
  injection h with h
  exact h.symm⟩
end
section
section
variable {α β R:Type}
def get_at{l:List α}{i:Nat}(h:i<l.length):l[i]?=some l[i]:=zkM h
def iter_all2[DecidableEq α]{a b:List α}{step:Nat->Option (Nat⊕(Unit⊕Bool))}(hlen:a.length=b.length)(h1:∀i x y,a[i]?=some x->b[i]?=some y->step i=some (if x=y then .inl (i+1) else .inr (.inr false)))
  (h2:step a.length=some (.inr (.inl ()))) (hl:a.length<=100000000000000):(iter step fuel 0).bind (Sum.elim (λ_=>some true) some)=some (decide (a=b)):=by
 rw[zdy (l:=a) (λi x=>if b[i]?=some x then none else some false) (λi x hx=>?_) h2 hl]
 ·cases e:scan (λi x=>if b[i]?=some x then none else some false) 0 a with
  |none =>
   have:=zfc.1 e
   have a0:a=b:=by
    apply yca;intro i;rcases ya9 i a.length with h|h
    ·have h3:=this i _ (get_at h);rw[yal]at h3;split at h3
     ·rename_i h4;rw[get_at h,h4]
     ·cases h3
    ·rw[yat h,yat (by omega)]
   simp[a0]
  |some r =>
   have a2:a≠b:=λa0=>by
    subst a0;have:scan (λi x=>if a[i]?=some x then none else some false) 0 a=none:=zfc.2 λi x hx=>by rw[yal,if_pos hx]
    rw[this]at e;cases e
   have hr:r=false:=by
    have key:∀(l:List α) (j:Nat),scan (λi x=>if b[i]?=some x then none else some false) j l=some r->r=false:=by
     intro l
     induction l with
     |nil=>intro j h;cases h
     |cons x l ih =>
      intro j h;unfold scan at h;split at h
      ·rename_i r' h3;injection h with h
       subst h;split at h3
       ·cases h3
       ·injection h3 with h3
        exact h3.symm
      ·exact ih _ h
    exact key a 0 e
   subst hr;simp[a2]
 ·have hi:=(zkI.1 hx).1;have hy:=get_at (l:=b) (i:=i) (by omega);rw[h1 i x _ hx hy];by_cases h:x=b[i]'(by omega)
  ·rw[if_pos h,hy,if_pos (by rw[h])]
  ·rw[if_neg h,hy,if_neg (λh3=>h (by injection h3 with h3;exact h3.symm))]
end
def SmW(x:yab):Prop:=x.length<=2000000
def SmL(l:yaa):Prop:=l.length<=2000000/\∀x∈l,SmW x
def R01_Size_eq(n:Int):zno n=some (decide (1<=n/\n<=1024)):=by
 unfold zno;by_cases h1:1<=n<;>by_cases h2:n<=1024<;>simp[h1,h2]
def zn5(n:Int):zfz n=some (decide (1<=n/\n<=1024)):=by
 unfold zfz;by_cases h1:1<=n<;>by_cases h2:n<=1024<;>simp[h1,h2]
def zp3{α R:Type}{p:α->Bool}{r:R}:∀(l:List α) (j:Nat),scan (λ_ x=>if p x=true then none else some r) j l=if l.all p=true then none else some r
 |[],_=>rfl
 |x::l,j=>by
  unfold scan;by_cases h:p x=true
  ·simp only[h,if_true,yfn,Bool.true_and];exact zp3 l (j+1)
  ·simp[h]
def zo2(w:yab)(n:Int)(hl:SmW w):zej w n=some (zi7 w n):=by
 unfold zej zi7;rw[R01_Size_eq];by_cases h1:1<=n/\n<=1024
 ·rw[if_pos h1];simp only[ybr,h1,and_self,decide_true,yck,zkC];by_cases h2:1024<w.length
  ·rw[if_pos h2,show decide ((1024:Int)<(w.length:Int))=true from zkB (by omega),zkD]
  ·rw[if_neg h2,show decide ((1024:Int)<(w.length:Int))=false from zkA (by omega),zkC]
   have key:=zdy (step:=λs=>zej.s2 w n s) (l:=w) (λ_ x=>if decide (0<=x/\x<n)=true then none else some (1:Int)) (λi x hx=>by
    simp only[zej.s2]
    rw[zdw hx,zkD,zah hx,zah hx]
    by_cases a1:x<0
    ·simp[a1,show ¬(0<=x) by omega]
    ·by_cases a2:n<=x
     ·simp[a1,a2,show ¬(x<n) by omega]
     ·simp[a1,a2,show 0<=x by omega,show x<n by omega]) (by
    simp only[zej.s2]
    rw[zf4]
    rfl) (by unfold SmW at hl;omega)
   rw[key,zp3 (p:=λx=>decide (0<=x/\x<n))];by_cases h:(w.all λx=>decide (0<=x/\x<n))=true
   ·rw[if_pos h,if_pos h];rfl
   ·rw[if_neg h,if_neg h];rfl
 ·rw[if_neg h1];simp[h1]
def znc(w:yab)(n:Int)(hl:SmW w):zht w n=some (zi7 w n):=by
 unfold zht zi7 zcz zbc;rw[zn5];by_cases h1:1<=n/\n<=1024
 ·rw[if_pos h1];simp only[ybr,h1,and_self,decide_true,yck,zkC];by_cases h2:1024<w.length
  ·rw[if_pos h2,show decide ((1024:Int)<(w.length:Int))=true from zkB (by omega),zkD]
  ·rw[if_neg h2,show decide ((1024:Int)<(w.length:Int))=false from zkA (by omega),zkC]
   have key:=zdy (step:=λs=>zbc.s2 w (λu0=>zf9 u0 n) s) (l:=w) (λi x=>if decide (0<=x/\x<n)=true then none else some (i:Int)) (λi x hx=>by
    simp only[zbc.s2,zf9]
    rw[zdw hx,zkD,zah hx]
    by_cases a1:x<0
    ·simp[a1,show ¬(0<=x) by omega]
    ·by_cases a2:n<=x
     ·simp[a1,a2,show ¬(x<n) by omega]
     ·simp[a1,a2,show 0<=x by omega,show x<n by omega]) (by
    simp only[zbc.s2]
    rw[zf4]
    rfl) (by unfold SmW at hl;omega)
   rw[key];cases e:scan (λi x=>if decide (0<=x/\x<n)=true then none else some (i:Int)) 0 w with
   |none =>
    have h3:=zfc.1 e
    have h:(w.all λx=>decide (0<=x/\x<n))=true:=ybf.2 λx hx=>by
     obtain⟨i,hi,rfl⟩:=yci.1 hx;have:=h3 i _ (get_at hi);split at this
     ·assumption
     ·cases this
    rw[if_pos h];simp
   |some r =>
    have h:¬(w.all λx=>decide (0<=x/\x<n))=true:=λh=>by
     have:scan (λi x=>if decide (0<=x/\x<n)=true then none else some (i:Int)) 0 w=none:=zfc.2 λi x hx=>if_pos (ybf.1 h x (zkH hx));rw[this]at e;cases e
    have hr:0<=r:=by
     have key:∀(l:yab) (j:Nat),scan (λi x=>if decide (0<=x/\x<n)=true then none else some (i:Int)) j l=some r->0<=r:=by
      intro l
      induction l with
      |nil=>intro j h;cases h
      |cons x l ih =>
       intro j h;unfold scan at h;split at h
       ·rename_i r' h3;injection h with h
        subst h;split at h3
        ·cases h3
        ·injection h3 with h3
         omega
       ·exact ih _ h
     exact key w 0 e
    rw[if_neg h];simp[hr]
 ·rw[if_neg h1];simp[h1]
def zhk(a b:yab)(ha:SmW a):zd0 a b=some (zbg a b:Int):=by
 unfold zd0;rw[zek (r:=zbg a b) (λk=>k<=a.length/\zbg a b=zbg (a.drop k) (b.drop k)+k) (λk=>a.length-k) (λk ⟨h1,h2⟩=>?_) ⟨yaf _,by simp⟩ (by have:=zay;unfold SmW at ha;omega)]
 ·rfl
 ·simp only[zd0.s2];rcases ya9 k a.length with h|h
  ·have hx:=get_at h;rcases ya9 k b.length with h'|h'
   ·have hy:=get_at h';rw[zdw hx,zdw hy,zkD,zkD,zah hx,zah hy];rw[yb1 h,yb1 h']at h2;by_cases e:a[k]=b[k]
    ·left;unfold SmW at ha;refine⟨k+1,?_,⟨h,?_⟩,by omega⟩
     ·rw[zaq (by unfold inR;omega)];simp[e]
     ·rw[h2,e];simp[zbg];omega
    ·right;simp only[zbg,e,if_false,yal]at h2;simp[e,h2]
   ·right;rw[zdw hx,zkD,show decide ((k:Int)<(b.length:Int))=false by simp;omega];rw[zoa (Or.inr h'),yal]at h2;simp[h2]
  ·right;rw[show decide ((k:Int)<(a.length:Int))=false by simp;omega];rw[zoa (Or.inl h),yal]at h2;simp[h2]
def zhw(a b:yab)(ha:SmW a):zgf a b=some (decide (a=b)):=by
 unfold zgf;rw[zhk a b ha];have h:=same_iff a b;by_cases h1:a.length=b.length
 ·rw[show decide ((a.length:Int)=(b.length:Int))=true from zkB (by omega),zkD];by_cases h2:zbg a b=a.length
  ·have:a=b:=h.1 ⟨h1,h2⟩;subst this;simp[zj2]
  ·have:a≠b:=λe=>h2 (h.2 e).2;simp only[ybr,this,decide_false];rw[zkA (by omega)]
 ·have:a≠b:=λe=>h1 (by rw[e]);rw[show decide ((a.length:Int)=(b.length:Int))=false from zkA (by omega),zkC];simp[this]
def R01_Lex_eq(a b:yab)(ha:SmW a):zq6 a b=some (lexI a b):=by
 unfold zq6;rw[zhk a b ha];have a2:=zjg a b;have a0:=zrx a b;rw[a0];simp only[ybr];by_cases h1:zbg a b=a.length
 ·rw[show decide ((↑(zbg a b):Int)=↑a.length)=true from zkB (by omega),zkD,zkD];by_cases h2:zbg a b=b.length
  ·rw[show decide ((↑(zbg a b):Int)=↑b.length)=true from zkB (by omega),if_pos ⟨h1,h2⟩];rfl
  ·rw[show decide ((↑(zbg a b):Int)=↑b.length)=false from zkA (by omega),if_neg (λh=>h2 h.2),if_pos (Or.inl h1)];rfl
 ·rw[show decide ((↑(zbg a b):Int)=↑a.length)=false from zkA (by omega),zkC,zkC,if_neg (λh=>h1 h.1)];by_cases h2:zbg a b=b.length
  ·rw[show decide ((↑(zbg a b):Int)<(b.length:Int))=false from zkA (by omega),if_neg (λh=>by omega)];rfl
  ·have hx:=get_at (l:=a) (i:=zbg a b) (by omega);have hy:=get_at (l:=b) (i:=zbg a b) (by omega);rw[show decide ((↑(zbg a b):Int)<(b.length:Int))=true from zkB (by omega),zkD,za9 rfl hx,za9 rfl hy];rw[ybj,ybj,hx,hy];by_cases h3:a[zbg a b]'(by omega)<b[zbg a b]'(by omega)
   ·rw[if_pos (Or.inr ⟨by omega,h3⟩)];simp[h3]
   ·rw[if_neg (λh=>by
     rcases h with h|⟨_,h⟩
     ·omega
     ·exact h3 h)]
    simp[h3]
def zi1(a b:yab)(ha:SmW a):zf6 a b=some (cmpW a b):=by
 unfold zf6 cmpW;rw[R01_Lex_eq a b ha];by_cases h1:a.length<b.length
 ·rw[show decide ((a.length:Int)<(b.length:Int))=true from zkB (by omega),if_pos h1];rfl
 ·rw[show decide ((a.length:Int)<(b.length:Int))=false from zkA (by omega),if_neg h1,zkC];by_cases h2:b.length<a.length
  ·rw[show decide ((b.length:Int)<(a.length:Int))=true from zkB (by omega),if_pos h2];rfl
  ·rw[show decide ((b.length:Int)<(a.length:Int))=false from zkA (by omega),if_neg h2];rfl
def R02_Has_eq(l:yaa)(w:yab)(hl:SmL l):zgs l w=some (decide (w∈l)):=by
 unfold zgs
 have key:=zdy (step:=λs=>zgs.s2 l w s) (l:=l) (λ_ x=>if decide (x≠w)=true then none else some true) (λi x hx=>by
  simp only[zgs.s2]
  rw[zdw hx,zkD,zah hx,zhw x w (hl.2 x (zkH hx))]
  by_cases h:x=w<;>simp[h]) (by
  simp only[zgs.s2]
  rw[zf4]
  rfl) (by have:=hl.1;omega)
 rw[key,zp3 (p:=λx=>decide (x≠w))];by_cases h:w∈l
 ·have:¬(l.all λx=>decide (x≠w))=true:=λh2=>by
   have:=ybf.1 h2 w h;simp at this
  rw[if_neg this];simp[h]
 ·have:(l.all λx=>decide (x≠w))=true:=ybf.2 λx hx=>by
   have:x≠w:=λe=>h (e ▸ hx);simpa using this
  rw[if_pos this];simp[h]
end
section
section
variable {κ ν:Type}[BEq κ]
def zg2{k:κ}{v:ν}(hb:∀a b:κ,(a==b)=true↔a=b):∀m:List (κ×ν),mget k (mset k v m)=some v
 |[]=>by
  unfold mset mget;rw[(hb k k).2 rfl]
 |p::m=>by
  unfold mset;cases h:k==p.1 with
  |true =>
   show mget k ((k,v)::m)=_;unfold mget;rw[(hb k k).2 rfl]
  |false =>
   show mget k (p::mset k v m)=_;unfold mget;rw[h];exact zg2 hb m
def zga{k k':κ}{v:ν}(hb:∀a b:κ,(a==b)=true↔a=b)(hne:¬k'=k):∀m:List (κ×ν),mget k' (mset k v m)=mget k' m
 |[]=>by
  have e:(k'==k)=false:=by
   cases e:k'==k with
   |true=>exact absurd ((hb _ _).1 e) hne
   |false=>rfl
  unfold mset mget;simp only[e];rfl
 |p::m=>by
  unfold mset;cases h:k==p.1 with
  |true =>
   have e1:k=p.1:=(hb _ _).1 h;show mget k' ((k,v)::m)=mget k' (p::m)
   have e:(k'==k)=false:=by
    cases e:k'==k with
    |true=>exact absurd ((hb _ _).1 e) hne
    |false=>rfl
   unfold mget;rw[<- e1];simp only[e]
  |false =>
   show mget k' (p::mset k v m)=mget k' (p::m);unfold mget;rw[zga hb hne m]
end
def SmT(t:zcq):Prop:=inR t.Inputs/\SmL t.Prefixes/\SmL t.Suffixes/\∀x∈t.Prefixes,∀a∈x,inR a
end
section

end
section

end
end Go.Proofs.YtkeplokjplkcmaaGreat.Sym
namespace Go.Proofs.YtkeplokjplkcmaaGreat
section
structure znk(cf:List Int->List Int->Int):Prop where
 range:∀a b,cf a b=-1\/cf a b=0\/cf a b=1
 zero:∀a b,cf a b=0↔a=b
 swap:∀a b,cf b a=- cf a b
 trans:∀a b c,cf a b=-1->cf b c=-1->cf a c=-1
def cmpW_total:znk cmpW:=⟨zlp,zrs,zr0,zji⟩
def zdb(l:List (List Int)):List (List Int):=l.foldl (λacc x=>if acc.getLast?=some x then acc else acc++[x]) []
def zq5(l:List (List Int))(x:List Int):zdb (l++[x])=if(zdb l).getLast?=some x then zdb l else zdb l++[x]:=by
 unfold zdb;rw[List.foldl_append];rfl
def zqp:∀(l acc:List (List Int)),(l.foldl (λacc x=>if acc.getLast?=some x then acc else acc++[x]) acc).getLast?=if l=[] then acc.getLast? else l.getLast?
 |[],acc=>by rw[if_pos rfl];rfl
 |x::l,acc=>by
  have hx:(if acc.getLast?=some x then acc else acc++[x]).getLast?=some x:=by
   split
   ·assumption
   ·simp
  rw[List.foldl_cons,zqp l,if_neg (show ¬x::l=[] by simp)];cases l with
  |nil=>rw[if_pos rfl,hx];rfl
  |cons y l =>
   rw[if_neg (show ¬y::l=[] by simp),List.getLast?_cons_cons]
def dedupA_last(l:List (List Int)):(zdb l).getLast?=l.getLast?:=by
 unfold zdb;rw[zqp];split
 ·rename_i h;rw[h]
 ·rfl
def zqs{l:List (List Int)}{k:Nat}{x y:List Int}(hy:l[k]?=some y)(hx:l[k+1]?=some x) :
  zdb (l.take (k+1+1))=if x=y then zdb (l.take (k+1)) else zdb (l.take (k+1))++[x]:=by
 rw[zee hx,zq5,dedupA_last,zee hy];simp only[List.getLast?_append,List.getLast?_singleton,Option.some_or];by_cases h:y=x
 ·subst h;simp
 ·have h':¬x=y:=λe=>h e.symm;simp[h,h']
def zow{l:List (List Int)}(h:l.length<=1):zdb l=l:=by
 match l,h with
 |[],_=>rfl
 |[x],_=>rfl
def dedup_asc{cf:List Int->List Int->Int}(T:znk cf):∀{l:List (List Int)},l.Pairwise (λa b=>0<=cf b a)->(zdb l).Pairwise (λa b=>cf a b=-1)/\∀x,x∈zdb l↔x∈l:=by
 intro l
 -- from the end of the list
 suffices H:∀n (l:List (List Int)),l.length=n->l.Pairwise (λa b=>0<=cf b a)->(zdb l).Pairwise (λa b=>cf a b=-1)/\∀x,x∈zdb l↔x∈l from H _ l rfl
 intro n
 induction n with
 |zero =>
  intro l hl _;have:l=[]:=List.eq_nil_of_length_eq_zero hl;subst this;exact⟨List.Pairwise.nil,λx=>Iff.rfl⟩
 |succ n ih =>
  intro l hl hp
  obtain⟨m,x,rfl⟩:∃m x,l=m++[x]:=by
   have a0:l≠[]:=by intro e;rw[e]at hl;simp at hl
   exact⟨l.dropLast,l.getLast a0,(List.dropLast_concat_getLast a0).symm⟩
  have a8:m.length=n:=by simpa using hl
  rw[List.pairwise_append]at hp;obtain⟨a7,_,a4⟩:=hp;obtain⟨h1,h2⟩:=ih m a8 a7;rw[zq5];by_cases h:(zdb m).getLast?=some x
  ·rw[if_pos h];refine⟨h1,λy=>?_⟩;have hx:x∈m:=(h2 x).1 (List.mem_of_getLast? h);rw[h2,List.mem_append,List.mem_singleton];constructor
   ·exact Or.inl
   ·rintro (h'|rfl)
    ·exact h'
    ·exact hx
  ·rw[if_neg h];refine⟨?_,λy=>by rw[List.mem_append,List.mem_append,h2]⟩;rw[List.pairwise_append];refine⟨h1,by simp,λa ha b hb=>?_⟩;rw[List.mem_singleton]at hb;subst hb;have a9:a∈m:=(h2 a).1 ha;have b2:0<=cf b a:=a4 a a9 b (by simp);have hr:=T.range b a;have b0:=T.swap b a;by_cases e:cf b a=0
   ·-- a would be the last one
    exfalso;have a5:b=a:=(T.zero _ _).1 e;subst a5
    -- the last of m is the greatest, and b is in m and not less than it
    have a0:zdb m≠[]:=λe=>by rw[e]at ha;cases ha
    have a6:=List.getLast?_eq_some_getLast a0;have a3:(zdb m).getLast a0∈m:=(h2 _).1 (List.getLast_mem a0);have h3:0<=cf b ((zdb m).getLast a0):=a4 _ a3 b (by simp);have a2:zdb m=(zdb m).dropLast++[(zdb m).getLast a0]:=(List.dropLast_concat_getLast a0).symm
    have h4:b=(zdb m).getLast a0\/cf b ((zdb m).getLast a0)=-1:=by
     rw[a2]at ha h1;rw[List.pairwise_append]at h1;rcases List.mem_append.1 ha with h5|h5
     ·exact Or.inr (h1.2.2 b h5 _ (by simp))
     ·exact Or.inl (List.mem_singleton.1 h5)
    rcases h4 with h4|h4
    ·exact h (by rw[a6,<- h4])
    ·omega
   ·omega
def dedupA_length(l:List (List Int)):(zdb l).length<=l.length:=by
 suffices H:∀(l acc:List (List Int)),(l.foldl (λacc x=>if acc.getLast?=some x then acc else acc++[x]) acc).length<=acc.length+l.length by
  simpa[zdb]using H l []
 intro l
 induction l with
 |nil=>intro acc;simp
 |cons x l ih =>
  intro acc;rw[List.foldl_cons];refine Nat.le_trans (ih _) ?_;split
  ·simp
  ·simp;omega
end
section
def zdi(x:List Int):List (List Int):=(List.range (x.length+1)).map x.take
def suffixes(x:List Int):List (List Int):=(List.range (x.length+1)).map x.drop
def preL(l:List (List Int)):List (List Int):=l.flatMap zdi
def prefixes_take(x:List Int){j:Nat}(hj:j<=x.length):(zdi x).take (j+1)=(zdi x).take j++[x.take j]:=by
 have:(zdi x)[j]?=some (x.take j):=by simp[zdi,List.getElem?_range (show j<x.length+1 by omega)]
 exact zee this
def zfk(x:List Int):(zdi x).length=x.length+1:=by simp[zdi]
def preL_step{l:List (List Int)}{k:Nat}{x:List Int}(h:l[k]?=some x):preL (l.take (k+1))=preL (l.take k)++zdi x:=by rw[zee h];simp[preL]
def topB(all:List (List Int))(x:List Int):Bool:=all.all λy=>decide (y=x\/¬x <+: y)
def tailB(x:List Int)(l:List (List Int)):Bool:=l.all λy=>decide (y.length=x.length\/¬x <+: y)
def top_eq{all:List (List Int)}(hs:Asc all){k:Nat}{x:List Int}(hx:all[k]?=some x):tailB x (all.drop (k+1))=topB all x:=by
 rw[Bool.eq_iff_iff,tailB,topB,List.all_eq_true,List.all_eq_true];simp only[decide_eq_true_eq];constructor
 ·intro h y hy;obtain⟨i,hi⟩:=List.getElem?_of_mem hy;rcases Nat.lt_trichotomy i k with a0|a0|a0
  ·right;intro hp;have hc:=hs.get a0 hi hx;have hl:=hp.length_le
   have:x=y:=hp.eq_of_length_le (by
    unfold cmpW at hc
    split at hc
    ·omega
    ·split at hc
     ·omega
     ·omega)
   rw[this,zjt]at hc;omega
  ·left;rw[a0,hx]at hi;injection hi with hi
   exact hi.symm
  ·have a2:y∈all.drop (k+1):=by
    have:(all.drop (k+1))[i-(k+1)]?=some y:=by rw[List.getElem?_drop,show k+1+(i-(k+1))=i by omega];exact hi
    exact List.mem_of_getElem? this
   rcases h y a2 with h1|h1
   ·by_cases hp:x <+: y
    ·left;exact(hp.eq_of_length h1.symm).symm
    ·exact Or.inr hp
   ·exact Or.inr h1
 ·intro h y hy;obtain⟨i,hi⟩:=List.getElem?_of_mem hy;rw[List.getElem?_drop]at hi;rcases h y (List.mem_of_getElem? hi) with h1|h1
  ·have hc:=hs.get (show k<k+1+i by omega) hx hi;rw[h1,zjt]at hc;omega
  ·exact Or.inr h1
end
end Go.Proofs.YtkeplokjplkcmaaGreat

/- Parts of the proof. -/
import Derived.Test.YtjmcbfbjajlbhaaGreatDoorM1
import Derived.Maps.Own
import Derived.Laws.StructEq
import Derived.ChangeKeysEq
import Derived.Great.BuildSlice
import Derived.Orders
import Derived.Scope
import Derived.Test.YtjmcbfbjajlbhaaGreatDoorCards
import Derived.Test.YtjmcbfbjajlbhaaGreatDoorTie
import Derived.ProofKit
import Derived.OpenShut
import Derived.Deep.DeepHandedRow
import Derived.Lib.LaidTab
import Derived.Deep.Slices
import Derived.Lib.Hide
import Derived.Lib.AppendZeros
import Derived.Shelf.SlSortCmp.NoneTotal
import Derived.Lib.OwnBridge
import Derived.Lib.BufferRead
set_option linter.all false
set_option maxRecDepth 100000
set_option maxHeartbeats 4000000
open Go.RowKit
namespace Go.Proofs.YtjmcbfbjajlbhaaGreatDoor.Sym
section
open Go.RowKit Go.ChangeMaps
def ba_eq{a b:ByteArray}(h:(a==b)=true):a=b:=by
 have h:ByteArray.beq a b=true:=h;unfold ByteArray.beq at h;cases a;cases b;simp at h;rw[h]
def ba_rfl(a:ByteArray):(a==a)=true:=by
 show ByteArray.beq a a=true;unfold ByteArray.beq;simp
section
variable {P:Program}{B:Base}{o:Oper}{X:St}{K:Fx->Prop}
def aNilCheck_ok{x:Operand}(hop:o.op=.nilCheck x)(hd:J3 B.n o=true)(h:aNilCheck o X K x):∃fx,K fx/\Eff P B o fx.rd X fx.wr:=by
 unfold aNilCheck at h;split at h
 ·rename_i b g i hx;obtain⟨hg,h⟩:=h.out;refine⟨_,h,Eff.pure hd λX' hag a w Y hs=>?_⟩;have h1:=F7 hs x;rw[E8 (I4 hag),hx]at h1;have hg':=(V1 (J6 hag (.gen b) (by simp))).trans hg;generalize hv:a.eval x=v at h1;have h2:=h1;cases h1 with
  |own _ _ _ _ a2 hgg hh =>
   obtain⟨q,e1,e2⟩:=hh hg';refine⟨v,?_,h2⟩;subst e2;simp[execOp,hop,hv]
 ·rename_i cs hx;refine⟨_,h,Eff.pure hd λX' hag a w Y hs=>?_⟩;have h1:=F7 hs x;rw[E8 hag,hx]at h1;have h2:=h1;have h1:=h1.im_inv;generalize hv:a.eval x=v at h1 h2;refine⟨v,?_,h2⟩;cases h1 with
  |ref b q us _ _ _ _ _ _=>simp[execOp,hop,hv]
 ·rename_i f cs hx;refine⟨_,h,Eff.pure hd λX' hag a w Y hs=>?_⟩;have h1:=F7 hs x;rw[E8 hag,hx]at h1;have h2:=h1;have h1:=h1.im_inv;generalize hv:a.eval x=v at h1 h2;refine⟨v,?_,h2⟩;cases h1 with
  |fn _ us _ _ _=>simp[execOp,hop,hv]
 ·rename_i f cs hx;refine⟨_,h,Eff.pure hd λX' hag a w Y hs=>?_⟩;have h1:=F7 hs x;rw[E8 hag,hx]at h1;have h2:=h1;generalize hv:a.eval x=v at h1 h2;refine⟨v,?_,h2⟩;cases h1 with
  |fn _ us _ _ _=>simp[execOp,hop,hv]
 ·exact h.elim
def pH{V:Type}(z:List V):∀(l j:Nat),(List.replicate l z).flatten[j]?=if j<l*z.length then z[j%z.length]? else none
 |0,j=>by simp
 |l+1,j=>by
  rw[List.replicate_succ,V6,T8,pH z l];by_cases h:j<z.length
  ·rw[if_pos h,if_pos (by rw[Nat.add_mul];omega),Nat.mod_eq_of_lt h]
  ·have e:j%z.length=(j-z.length)%z.length:=Nat.mod_eq_sub_mod (by omega);rw[if_neg h,e];by_cases h2:j-z.length<l*z.length
   ·rw[if_pos h2,if_pos (by rw[Nat.add_mul];omega)]
   ·rw[if_neg h2,if_neg (by rw[Nat.add_mul];omega)]
def made_take(z:Array Value)(l c:Nat)(h:l<=c)(hz:0<z.size):(madeCells z (c*z.size)).toList.take (l*z.size)=(List.replicate l z.toList).flatten:=by
 apply nP;intro j;rw[pH,R3];have hm:l*z.size<=c*z.size:=bD _ h;simp only[mG];by_cases hj:j<l*z.size
 ·rw[if_pos hj,if_pos hj];have a2:j%z.size<z.size:=wR _ hz;unfold madeCells;rw[kW,K5,Array.toList_range,bT (by omega)];simp only[L5];rw[getElem!_pos z (j%z.size) a2,T7,xD a2]
 ·rw[if_neg hj,if_neg hj]
def cap_bytes{c by_:Nat}(h:E5 c by_):(by_:Int)*(c:Int)<=281474976710656:=by
 have h1:=h.1;have:((by_*c:Nat):Int)<=281474976710656:=by rw[sL];omega
 rwa [GU]at this
def mkZ_rep{w:World}{S:Nat->Prop}(own:List Nat)(d:Nat)(v:Value):RepI w S v (mkZ own d v):=by
 unfold mkZ;split
 ·exact .val v
 ·exact lE (.val v)
def aMakeSlice_ok{own:List Nat}{t:TypeId}{len cap:Operand}(hop:o.op=.makeSlice t len cap)(hd:J3 B.n o=true)(h:CV P own o X K t len cap):∃fx,K fx/\Eff P B o fx.rd X fx.wr:=by
 unfold CV at h;split at h
 ·rename_i d et a3 d5;have c7:=bX d5;split at h
  ·rename_i l c k z by_ hl hc hk hz d7;obtain⟨a5,h⟩:=h.ok;simp only[M7]at a5;have e0:=bK a5.1.1;obtain⟨i,zv,hi,b8,b5,a9,d3⟩:=tK a5.1.2 hk d7
   have c8:zv.cells.toList=z:=by
    unfold zeroOf at hz;simp only[hi,b8,L5,D4]at hz;exact hz
   have d9:∀u∈z,u.oneCell'=true:=λu hu=>O0.1 a5.2 u hu;have a2:z.length=k:=by rw[<- c8];simpa using d3
   obtain⟨⟨h0,d8,b0⟩,h⟩:=h.out;have d6:(c.toNat:Int)=c:=Int.toNat_of_nonneg (by omega);have b2:l.toNat<=c.toNat:=by omega
   have e7:c.toNat<=17592186044416:=b0.2
   have E9:∀X' a w Y,SatR B X' a w Y->(∀y∈opd len++opd cap,X' y=X y)->(execOp a.eval o).run P w=.ok (.value (.slice (some ⟨w.heap.size,0,none⟩) l.toNat c.toNat)) (w.alloc (.cells (madeCells zv.cells (c.toNat*k)) et)):=λX' a w Y hs hag=>by
    have h1:=F7 hs len;rw[E8 (I4 hag)]at h1;have h2:=F7 hs cap;rw[E8 (J6 hag)]at h2;have hb:=cap_bytes b0;rw[<- a9,d6]at hb;have hr:=run_make (P:=P) w t et i zv c7 hi b8 .i64 .i64 l c h0 d8 hb (by omega);rw[b5]at hr;simp[execOp,hop,T5 hl h1,T5 hc h2,hr]
   have a7:∀w:World,(w.alloc (.cells (madeCells zv.cells (c.toNat*k)) et)).ownsRow 0 et k (.slice (some ⟨w.heap.size,0,none⟩) l.toNat c.toNat) l.toNat (List.replicate l.toNat z).flatten:=λw=>by
    refine⟨?_,.inr ⟨w.heap.size,c.toNat,_,rfl,F8 _,heap_alloc_new w _,b2,by unfold maxLen;omega,size_madeCells _ _,?_⟩⟩
    ·rw[U5 (k:=k) (λx hx=>by rw[fN hx];exact a2),dG]
    ·rw[<- c8,<- d3];exact made_take zv.cells _ _ b2 (by omega)
   have a6:∀u∈(List.replicate l.toNat z).flatten,u.oneCell'=true:=λu hu=>by
    obtain⟨x,hx,d2⟩:=nO.1 hu;rw[fN hx]at d2;exact d9 u d2
   have m:∀(X':St) (w:World) (Y:Ly),mJ X' w (w.alloc (.cells (madeCells zv.cells (c.toNat*k)) et)) Y none (.slice (some ⟨w.heap.size,0,none⟩) l.toNat c.toNat) none:=λX' w Y =>
    ⟨World.grownBy_alloc w _ none,(λb e=>by cases e),λb e=>.inr (by simp only[G3,D4]at e;omega)⟩
   split at h
   ·split at h
    ·rename_i e' e8;split at h
     ·rename_i k' e9;obtain⟨a4,h⟩:=h.ok;simp only[M7]at a4;have b9:k=1:=by simpa using a4.1.1
      have d1:=bK a4.2
      have b4:z=[.slice none 0 0]:=by
       have:=a4.1.2;split at this
       ·rfl
       ·cases this
      have h:=h.out;refine⟨_,h,λX' hag a w ⟨Y,hs⟩ K' Q hK=>?_⟩;unfold Oper.wp;rw[E9 X' a w Y hs (I4 hag),Oper.upon_value,a3];have hg:X'.gn d=X.gn d:=V1 (J6 hag (.gen d) (by simp));have c0:X'.ig d=X.ig d:=qD (J6 hag (.ign d) (by simp));obtain⟨e1,e2,e3,e4,e5⟩:=mkK_eqs X' X d (.grid et e' k' (List.replicate l.toNat [IV.sl []]) none)
      let v:Value:=.slice (some ⟨w.heap.size,0,none⟩) l.toNat c.toNat
      let X2:=app X' (X4 X d (.grid et e' k' (List.replicate l.toNat [IV.sl []]) none))
      let Y2:Ly:=setK Y X2 d v (List.replicate l.toNat (.slice none 0 0)) (.grid et e' k' (List.replicate l.toNat [IV.sl []]) none)
      have c6:fpv v (List.replicate l.toNat (.slice none 0 0))=[w.heap.size]:=by
       unfold fpv;simp only[List.filterMap_cons,v,G3];congr 1;exact List.filterMap_eq_nil_iff.2 λx hx=>by rw[fN hx];rfl
      have c9:∀b,Owns X2 Y2 d b->b=w.heap.size:=λb hb=>by
       unfold Owns at hb;rw[e1,if_pos rfl]at hb;simp only[Y2,setK,if_pos]at hb;have hb:b∈fpv v (List.replicate l.toNat (.slice none 0 0)):=hb;rw[c6]at hb;simpa using hb
      have a8:=World.grownBy_alloc w (.cells (madeCells zv.cells (c.toNat*k)) et) none
      obtain⟨b6,_,_⟩:=hs.step (X':=X2) (Y':=Y2) (w':=w.alloc (.cells (madeCells zv.cells (c.toNat*k)) et)) (λo=>o=d) e4
       (λo hd=>⟨by show X2.kd o=_;rw[e1,if_neg hd],by show X2.gn o=_;rw[e2,if_neg hd],λi=>e5 o i,by simp[Y2,setK,hd],by simp[Y2,setK,hd],by show X2.ig o=_;rw[e3,if_neg (λe=>hd e.1)];exact(hs.igs o).symm⟩)
       (λo hd=>by
        subst hd
        refine⟨⟨by rw[e2,if_pos rfl,hg];omega,λe=>by rw[e2,if_pos rfl,hg]at e;omega⟩,?_,λe=>?_⟩
        ·show _<=X2.ig o
         rw[e3,hs.igs,c0,if_pos ⟨rfl,rfl⟩];omega
        ·have e:X2.ig o=Y.ig o:=e
         rw[e3,hs.igs,c0,if_pos ⟨rfl,rfl⟩]at e;omega)
       (λo=>rfl) ⟨a8.os,a8.tape,a8.output,a8.size,λb hb _=>a8.block b hb (by simp)⟩ (λo b hd ho=>by subst hd;rw[c9 b ho];exact .inl (H4 _)) (λo p b hd hp _ _=>hd.trans hp.symm) λhI hA o hd=>by
        subst hd;rw[e1,if_pos rfl];show fS _ _ (Y2 o) (Y2.inn o) _ _ _ _ _;simp only[Y2,setK,if_pos];refine⟨by show(fpv v (List.replicate l.toNat (.slice none 0 0))).Nodup;rw[c6];simp,by simp[innK],(List.replicate l.toNat z).flatten,by simp;omega,?_,a6,λi u hu=>.inr ⟨?_,[],?_,?_⟩⟩
        ·have:=a7 w;rw[b9]at this;rw[dG];rw[b9];exact this
        ·have hu:(List.replicate l.toNat (.slice none 0 0))[i]?=some u:=hu;rw[pH,b4];rw[CJ]at hu;split at hu
         ·rename_i b3;injection hu with hu
          subst hu;simp[b3,Nat.mod_one]
         ·cases hu
        ·have hu:(List.replicate l.toNat (Value.slice none 0 0))[i]?=some u:=hu;rw[CJ]at hu ⊢;split at hu
         ·rename_i b3;rw[if_pos b3]
         ·cases hu
        ·have hu:(List.replicate l.toNat (Value.slice none 0 0))[i]?=some u:=hu;rw[CJ]at hu;split at hu
         ·injection hu with hu
          subst hu;exact⟨[],d1,by simp,by simp,World.ownsRow_nil _ _ _ _,rfl,by simp,by simp⟩
         ·cases hu
      refine hK _ _ ⟨Y2,?_⟩;rw[O8];refine b6.put (d:=some d) (λt e=>by injection e with e;subst e;exact aJ hd a3) (.osl _ _ _ rfl ?_ λ_=>?_)
      ·show _<=X2.gn d;rw[e2,if_pos rfl];exact H4 _
      ·simp[Y2,setK,v]
     ·exact h.elim
    ·exact h.elim
   ·split at h
    ·have h:=h.out;refine⟨_,h,λX' hag a w ⟨Y,hs⟩ K' Q hK=>?_⟩;unfold Oper.wp;rw[E9 X' a w Y hs hag,Oper.upon_value,a3];have d0:Below w.heap.size w (w.alloc (.cells (madeCells zv.cells (c.toNat*k)) et)):=(Below.refl _ _).alloc (H4 _) _;obtain⟨e6,hI⟩:=hs.world d0;refine hK _ _ ⟨Y,?_⟩;show SatR B (app X' [(.tmp d,.av (.im (.sl (List.replicate l.toNat (z.map λv=>nz1 (.val v))))))]) _ _ _;refine e6.put (d:=some d) (λt e=>by injection e with e;subst e;exact aJ hd a3) (.im _ _ ?_);refine .sl w.heap.size 0 c.toNat k l.toNat _ (List.replicate l.toNat z).flatten (by rw[dG]) (λx hx=>by rw[fN hx,E1,a2]) b2 (by omega) ⟨.inr (.inl hs.bel.size),by simp,λp d4=>?_,λhz=>?_⟩ ?_ a6 (λi u hu=>?_) λi u x hu hx=>?_
     ·have:=(hs.own p _ d4).2;omega
     ·have:=(hs.res _ hz).1.2;omega
     ·rw[U5 (k:=k) (λx hx=>by rw[fN hx];exact a2),U5 (k:=k) (λx hx=>by rw[fN hx,E1,a2])];simp
     ·have:=(a7 w).cells (g:=w.heap.size) rfl i u hu;rw[addr_add,J9]at this;rw[J9];exact this
     ·rw[pH]at hu hx;rw[E1]at hx;split at hu
      ·rename_i b7;rw[if_pos b7,K5,hu]at hx;injection hx with hx
       subst hx;exact lE (.val u)
      ·cases hu
    ·have h:=h.out;refine⟨_,h,λX' hag a w ⟨Y,hs⟩ K' Q hK=>?_⟩;unfold Oper.wp;rw[E9 X' a w Y hs (I4 hag),Oper.upon_value,a3];refine hK _ _ ⟨setY Y d (.slice (some ⟨w.heap.size,0,none⟩) l.toNat c.toNat),?_⟩;have hg:X'.gn d=X.gn d:=V1 (J6 hag (.gen d) (by simp))
     have b6:=hs.new (d:=d) (k:=.row et k (List.replicate l.toNat (z.map λv=>mkZ own d v))) (cs:=[]) (m X' w Y) rfl λhI _=>by
      refine⟨(List.replicate l.toNat z).flatten,e0,λx hx=>by rw[fN hx,E1,a2],by rw[dG];omega,?_,?_,a6,λi u x hu hx=>?_⟩
      ·simp only[setY,if_pos,dG];exact a7 w
      ·rw[U5 (k:=k) (λx hx=>by rw[fN hx];exact a2),U5 (k:=k) (λx hx=>by rw[fN hx,E1,a2])];simp
      ·rw[pH]at hu hx;rw[E1]at hx;split at hu
       ·rename_i b7;rw[if_pos b7,K5,hu]at hx;injection hx with hx
        subst hx;exact mkZ_rep own d u
       ·cases hu
     have:=mQ (X:=X) (X':=X') (k:=.row et k (List.replicate l.toNat (z.map λv=>mkZ own d v))) (cs:=[]) (v:=.osl d (X.gn d+1)) hg;simp only[P8,S5]at this;show SatR B (app X' (M9 X d (.row et k (List.replicate l.toNat (z.map λv=>mkZ own d v)))++[(.tmp d,.av (.osl d (X.gn d+1)))])) _ _ _;rw[this,<- hg];exact uT b6 rfl (aJ hd a3)
  ·exact h.elim
 ·exact h.elim
def aMakeMap_ok{t:TypeId}{r:Option Operand}(hop:o.op=.makeMap t r)(hd:J3 B.n o=true)(h:aMakeMap o X K t r):∃fx,K fx/\Eff P B o fx.rd X fx.wr:=by
 unfold aMakeMap at h;split at h
 ·rename_i d a2;refine⟨_,h,λX' hag a w ⟨Y,hs⟩ K' Q hK=>?_⟩;have hg:X'.gn d=X.gn d:=V1 (hag (.gen d) (by simp))
  have run:(execOp a.eval o).run P w=.ok (.value (.map (some w.heap.size))) (w.alloc (.map #[] 0)):=by
   simp[execOp,hop,Instr.makeMap]
  unfold Oper.wp;rw[run,Oper.upon_value,a2]
  have m:mJ X' w (w.alloc (.map #[] 0)) Y none (.map (some w.heap.size)) none :=
   ⟨World.grownBy_alloc w _ none,(λb e=>by cases e),λb e=>.inr (by simp only[G3,D4]at e;omega)⟩
  refine hK _ _ ⟨setY Y d (.map (some w.heap.size)),?_⟩;have a3:=hs.new (d:=d) (k:=.map []) (cs:=[]) m rfl λhI _=>⟨w.heap.size,0,#[],by simp[setY],heap_alloc_new w _,rfl,MapSt.nil 0⟩;have:=mQ (X:=X) (X':=X') (k:=.map []) (cs:=[]) (v:=.osl d (X.gn d+1)) hg;simp only[P8,S5]at this;rw[this,<- hg];exact uT a3 rfl (aJ hd a2)
 ·exact h.elim
def asVal_inv{w:World}{S:Nat->Prop}{Y:Ly}{E:Nat->Nat}{v:Value}{x:AV}{u:Value}(e:asVal x=some u)(h:RepA w S Y E v x):v=u:=by
 unfold asVal at e;split at e
 ·injection e with e
  subst e;have h:=h.im_inv;cases h;rfl
 ·cases e
def mapTy_spec{t k e:TypeId}(h:mapTy P t=some (k,e)):P.underlying t=some (.map k e):=by
 unfold mapTy at h;split at h
 ·rename_i k' e' hu;simp only[D4,G0]at h;rw[hu,h.1,h.2]
 ·cases h
def keyD_spec{kt:TypeId}{D:TypeDesc}(h:keyD P kt=some D):P.underlying kt=some D/\((∃k,D=.int k)\/D=.string\/D=.bool):=by
 unfold keyD at h;split at h
 ·rename_i k hu;injection h with h;subst h;exact⟨hu,.inl ⟨k,rfl⟩⟩
 ·rename_i hu;injection h with h;subst h;exact⟨hu,.inr (.inl rfl)⟩
 ·rename_i hu;injection h with h;subst h;exact⟨hu,.inr (.inr rfl)⟩
 ·cases h
def CM{kt:TypeId}{D:TypeDesc}(h:keyD P kt=some D)(em:Bool)(v:Value)(w:World):(Instr.checkKey em 10000 kt v).run P w=.ok () w:=by
 obtain⟨hu,hD⟩:=keyD_spec h;unfold Instr.checkKey;rw[Sem.run_bind,run_underlying hu];simp only[Result.andThen_ok];rcases hD with⟨k,rfl⟩|rfl|rfl<;>rfl
def findNow_eq(D:TypeDesc)(k:Value):∀(es:List MapEntry) (i:Nat),(Instr.findNow D k es i).map (·.map (·.2))=findV D k (es.map λe=>(e.key,e.val))
 |[],i=>rfl
 |e::es,i=>by
  unfold Instr.findNow;rw[L0];unfold findV;simp only;cases Instr.sameNow D k e.key with
  |none=>rfl
  |some b=>cases b with
   |true=>rfl
   |false=>exact findNow_eq D k es (i+1)
def find_run{kt:TypeId}{D:TypeDesc}(h:keyD P kt=some D){k:Value}{es:List MapEntry}{r:Option (Nat×Value)}(hf:Instr.findNow D k es 0=some r)(w:World):(Instr.findKey kt k es).run P w=.ok r w:=by
 unfold Instr.findKey;rw[Sem.run_bind,run_underlying (keyD_spec h).1];simp only[Result.andThen_ok,hf,Sem.run_pure]
def aLookup_ok{t:TypeId}{x i:Operand}{ok:Bool}(hop:o.op=.lookup t x i ok)(hd:J3 B.n o=true)(h:aLookup P o X K t x i ok):∃fx,K fx/\Eff P B o fx.rd X fx.wr:=by
 unfold aLookup at h;split at h
 ·rename_i kt et b g kv a8 hx hi;have a5:=mapTy_spec a8;split at h
  ·rename_i l D z b5 a6 hz;obtain⟨hg,r,hr,h⟩:=h.out;have h:=h.out
   have a4:∀X',(∀y∈opd x++opd i++[.gen b,.knd b],X' y=X y)->∀a w,Sat B X' a w->(execOp a.eval o).run P w=.ok (.value (if ok=true then .tuple #[r.getD z,.bool r.isSome] else r.getD z)) w:=λX' hag a w ⟨Y,hs⟩=>by
    obtain⟨ha,hg',b4,_⟩:=Z7 hag;have h1:=F7 hs x;have h2:=F7 hs i;rw[E8 (I4 ha),hx]at h1;rw[E8 (J6 ha)]at h2;have a9:=asVal_inv hi h2;have ho:=hs.obs b;rw[b4.trans b5]at ho;obtain⟨q,b7,es,e1,e2,e3,b8⟩:=ho
    have b6:a.eval x=.map (some q):=by
     generalize a.eval x=v at h1;cases h1 with
     |osl _ _ _ _ _ hh=>rw[hh (hg'.trans hg),e1]
    have a2:=findNow_eq D kv es.toList 0;rw[e3,hr]at a2
    obtain⟨r0,a7,a3⟩:∃r0,Instr.findNow D kv es.toList 0=some r0/\r0.map (·.2)=r:=by
     cases hc:Instr.findNow D kv es.toList 0 with
     |none=>rw[hc]at a2;cases a2
     |some r0=>rw[hc]at a2;simp only[L5,D4]at a2;exact⟨r0,rfl,a2⟩
    have b2:∀w,(zeroValue et).run P w=.ok z w:=λw=>by
     unfold zeroV at hz;split at hz
     ·rename_i it b3;simp[zeroValue,typeInfo,b3,hz]
     ·cases hz
    have b0:=MapKept.run_getObj_map (P:=P) e2;simp only[execOp,hop,b6,a9,Instr.lookup,Sem.run_bind,run_underlying a5,Result.andThen_ok,b0,Sem.run_pure,CM a6,find_run a6 a7];cases r0 with
    |none =>
     simp only[sY]at a3;subst a3;cases ok<;>simp[b2]
    |some p =>
     simp only[L5]at a3;subst a3;cases ok<;>simp
   split at h
   ·have h:=h.out;refine⟨_,h,Eff.pure hd λX' hag a w Y hs=>⟨_,a4 X' hag a w ⟨Y,hs⟩,?_⟩⟩;simp only[if_true]
    exact .tup [r.getD z,.bool r.isSome] _ rfl λj u y hu hy=>by
     match j with
     |0=>simp at hu hy;rw[<- hu,<- hy];exact S8 _
     |1=>simp at hu hy;rw[<- hu,<- hy];exact vB_rep _
     |j+2=>simp at hu
   ·refine⟨_,h,Eff.pure hd λX' hag a w Y hs=>⟨_,a4 X' hag a w ⟨Y,hs⟩,?_⟩⟩;simp only[nT,if_false];exact S8 _
  ·exact h.elim
 ·exact h.elim
def setV_eq(D:TypeDesc)(hD:(∃k,D=.int k)\/D=.string\/D=.bool)(k v:Value):∀(es:List MapEntry) (i:Nat) (l:List (Value×Value)),setV D k v (es.map λe=>(e.key,e.val))=some l ->
  (Instr.findNow D k es i=some none/\l=(es.map λe=>(e.key,e.val))++[(k,v)])\/∃j e,Instr.findNow D k es i=some (some (i+j,e.val))/\es[j]?=some e/\Instr.sameBits 10000 e.key k=true/\l=(es.set j { e with key:=k,val:=v }).map λe=>(e.key,e.val)
 |[],i,l,h=>by
  simp only[mD,setV,D4]at h;exact .inl ⟨rfl,by rw[<- h];rfl⟩
 |e::es,i,l,h=>by
  rw[L0]at h;unfold setV at h;unfold Instr.findNow;simp only at h;cases hs:Instr.sameNow D k e.key with
  |none=>rw[hs]at h;cases h
  |some b =>
   rw[hs]at h;cases b with
   |true =>
    simp only[D4]at h;refine .inr ⟨0,e,rfl,rfl,?_,by rw[<- h];rfl⟩;unfold Instr.sameNow at hs;split at hs
    ·rename_i k1 a k2 b hk;split at hs
     ·rename_i he;simp only[D4]at hs;rw[hk];have hab:a=b:=by simpa using hs
      subst he hab;simp[Instr.sameBits]
     ·cases hs
    ·rename_i a b hk;simp only[D4]at hs;rw[hk,ba_eq hs];exact ba_rfl _
    ·rename_i a b hk;simp only[D4]at hs;have hab:a=b:=by simpa using hs
     rw[hk,hab];simp[Instr.sameBits]
    ·cases hs
   |false =>
    cases hr:setV D k v (es.map λe=>(e.key,e.val)) with
    |none=>simp only[hr]at h;cases h
    |some l' =>
     simp only[hr,L5,D4]at h;rcases setV_eq D hD k v es (i+1) l' hr with⟨h1,h2⟩|⟨j,e',h1,h2,h3,h4⟩
     ·exact .inl ⟨h1,by rw[<- h,h2];rfl⟩
     ·exact .inr ⟨j+1,e',by rw[h1,U7,cP 1 j],by simpa using h2,h3,by rw[<- h,h4];rfl⟩
def aMapUpdate_ok{t:TypeId}{x i y:Operand}(hop:o.op=.mapUpdate t x i y)(hd:J3 B.n o=true)(h:CX P o X K t x i y):∃fx,K fx/\Eff P B o fx.rd X fx.wr:=by
 unfold CX at h;split at h
 ·rename_i kt et b g kv v b9 hx hi hy;have a6:=mapTy_spec b9;split at h
  ·rename_i l D a9 a5;obtain⟨hg,l',b6,h⟩:=h.out;refine⟨_,h,λX' hag a w ⟨Y,hs⟩ K' Q hK=>?_⟩;obtain⟨ha,hg',a8,_⟩:=Z7 hag;have h1:=F7 hs x;have h2:=F7 hs i;have h3:=F7 hs y;rw[E8 (I4 (I4 ha)),hx]at h1;rw[E8 (J6 (I4 ha))]at h2;rw[E8 (J6 ha)]at h3;have b3:=asVal_inv hi h2;have hv:=asVal_inv hy h3;have ho:=hs.obs b;rw[a8.trans a9]at ho;obtain⟨q,a3,es,e1,e2,e3,b2⟩:=ho
   have b8:a.eval x=.map (some q):=by
    generalize a.eval x=u at h1;cases h1 with
    |osl _ _ _ _ _ hh=>rw[hh (hg'.trans hg),e1]
   rw[<- e3]at b6;have b5:=MapKept.run_getObj_map (P:=P) e2;have a7:live X' b:=by unfold live;rw[a8.trans a9];exact λz=>by cases z
   have c7:G3 (Y b)=some q:=by rw[e1];rfl
   have fin:∀(a4:Array MapEntry) (a2:Nat),(a4.toList.map λe=>(e.key,e.val))=l'->MapSt a4 a2->(execOp a.eval o).run P w=.ok .skip (setBlock w q (.map a4 a2))->o.wp P a w K' Q:=λa4 a2 c0 b7 b4=>by
    unfold Oper.wp;rw[b4,Oper.upon_skip];refine hK _ _ ⟨Y,?_⟩
    have c6:=hs.turn (b:=b) (q:=q) (w':=setBlock w q (.map a4 a2)) (k':=.map l') a7 c7 ⟨rfl,rfl,rfl,by simp[setBlock],λi _ hi=>heap_setBlock_other e2 _ (λe=>hi (by rw[e]))⟩ (λc hc=>by unfold Owns;rw[a8.trans a9];exact hc) λhI =>
     ⟨q,a2,a4,e1,heap_setBlock_same e2 _,c0,b7⟩
    rw[V2];exact c6.put (gW hd) (S8 _)
   rcases setV_eq D (keyD_spec a5).2 kv v es.toList 0 l' b6 with⟨f1,f2⟩|⟨j,e,f1,f2,f3,f4⟩
   ·refine fin (es.push { key:=kv,val:=v,born:=a3 }) (a3+1) (by rw[f2];simp) (b2.push _ _) ?_;simp only[execOp,hop,b8,b3,hv,Instr.mapUpdate,Sem.run_bind,run_underlying a6,Result.andThen_ok,b5,Sem.run_pure,CM a5,find_run a5 f1,MapKept.run_setObj_map _ e2];rfl
   ·have hj:es[j]?=some e:=by rw[<- T7];exact f2
    have b0:j<es.size:=(mH.1 hj).1;refine fin (es.modify j λe=>{ e with key:=kv,val:=v }) a3 ?_ (b2.modify _ _ λ_=>rfl) ?_
    ·rw[f4];congr 1;apply nP;intro n;rw[T7,BV,GY];by_cases hn:j=n
     ·subst hn;rw[if_pos rfl,if_pos rfl,if_pos (by simpa using b0),hj];rfl
     ·rw[if_neg hn,if_neg hn,T7]
    ·rw[J9]at f1;simp only[execOp,hop,b8,b3,hv,Instr.mapUpdate,Sem.run_bind,run_underlying a6,Result.andThen_ok,b5,Sem.run_pure,CM a5,find_run a5 f1,MapKept.run_setObj_map _ e2,hj,Instr.keyThatStays,L5,Q3,f3,if_true];rfl
  ·exact h.elim
 ·exact h.elim
def aDelete_ok{c:Call}{t t':TypeId}{x i:Operand}(hop:o.op=.call c)(hc:c.callee=.builtin .delete)(ha:c.args.toList=[x,i])(ht:c.argTypes.toList=[t,t'])(hd:J3 B.n o=true)(h:aDelete P o X K t x i):∃fx,K fx/\Eff P B o fx.rd X fx.wr:=False.elim h
end
end
section
section
variable {P:Program}{B:Base}{o:Oper}{X:St}{K:Fx->Prop}
def yS{a:Act}{w:World}{Y:Ly}(hs:SatR B X a w Y){y:Operand}{n:Int}{k:IntKind}(hy:Sym.asInt (evA X y)=some (k,n)){m:Nat}{c:BoundsCode}(h0:0<=n)(hm:n<=m):(Instr.sliceBound (a.eval y) m c).run P w=.ok n.toNat w:=by
 have h3:0<=n/\n<=m:=⟨h0,hm⟩;simp only[T5 hy (F7 hs y),Instr.sliceBound,asIntOf,Sem.run_bind,Sem.run_pure,Result.andThen_ok,if_pos h3]
def xY{a:Act}{w:World}{Y:Ly}(hs:SatR B X a w Y){b k:Nat}{t:TypeId}{es:List (List IV)}(hk:X.kd b=.row t k es)(hn:0<es.length) :
  ∃(q cap:Nat) (cur:Array Value) (us:List Value),Y b=.slice (some ⟨q,0,none⟩) es.length cap/\w.heap[q]?=some (.cells cur t (0,0))/\es.length<=cap/\cap<=maxLen/\cur.size=cap*k/\cur.toList.take (es.length*k)=us/\0<k/\(∀x∈es,x.length=k)/\es.length<=17592186044416/\us.length=es.flatten.length /\
   (∀u∈us,u.oneCell'=true)/\∀(i:Nat) u x,us[i]?=some u->es.flatten[i]?=some x->RepI w (Imm B X Y w) u x:=by
 have ho:=hs.obs b;rw[hk]at ho;obtain⟨us,h1,h2,h3,h4,h5,h6,h7⟩:=ho;rcases h4.2 with⟨_,h0⟩|⟨q,cap,cur,e1,_,e3,e4,e5,e6,e7⟩
 ·omega
 ·exact⟨q,cap,cur,us,e1,e3,e4,e5,e6,e7,h1,h2,h3,h5,h6,h7⟩
def aSliceV_ok{t:TypeId}{x lo:Operand}{b g:Nat}(hop:o.op=.slice t x (some lo) none none)(hx:evA X x=.osl b g)(hd:J3 B.n o=true)(h:aSliceV P o X K t x b g lo):∃fx,K fx/\Eff P B o fx.rd X fx.wr:=by
 unfold aSliceV at h;split at h
 ·rename_i et kk l b3 k es a9 b0 a8;have hu:=bX a9;split at h
  ·rename_i k' b2;obtain⟨a3,h'⟩:=h.ok;clear h;have a3:=S2 a3;subst a3;obtain⟨⟨hg,h0,hl,hn⟩,h⟩:=h'.out;refine⟨_,h,Eff.pure hd λX' hag a w Y hs=>?_⟩;obtain⟨a6,hg',a7,_⟩:=Z7 hag;have h1:=F7 hs x;rw[E8 (I4 a6),hx]at h1;have a5:Sym.asInt (evA X' lo)=some (kk,l):=by rw[E8 (J6 a6)];exact b0
   obtain⟨q,a4,cur,us,e1,e2,e3,_⟩:=xY hs (a7.trans a8) hn;have hb:=λc=>yS (P:=P) (w:=w) hs a5 (m:=es.length) (c:=c) h0 (by omega);have hz:=bH b2 w;generalize hv:a.eval x=v at h1;cases h1 with
   |osl _ _ _ a2 hgg hh =>
    rw[hh (hg'.trans hg),e1]at hv;refine⟨.slice (if a4=l.toNat then some ⟨q,0,none⟩ else some ⟨q,l.toNat*k,none⟩) (es.length-l.toNat) (a4-l.toNat),?_,.osv _ b g l.toNat k (by rfl) hgg λ_=>⟨q,_,a4,e1,hl,rfl⟩⟩;simp only[execOp,hop,hv,Instr.sliceAt,Instr.slice,Sem.run_bind,Sem.run_pure,Result.andThen_ok,run_underlying hu,sY,L5,hz];unfold Instr.sliceBounds;simp[hb,addr_add,hz]
  ·exact h.elim
 ·exact h.elim
def aSlice3_ok{t:TypeId}{x:Operand}{lo hi:Option Operand}{mx:Operand}(hop:o.op=.slice t x lo hi (some mx))(hd:J3 B.n o=true)(h:aSlice3 P o X K t x lo hi mx):∃fx,K fx/\Eff P B o fx.rd X fx.wr:=by
 unfold aSlice3 at h;split at h
 ·rename_i hi et a9;have hu:=bX a9;split at h
  ·rename_i k es k1 h9 k2 hh hk hx b3 b0;obtain⟨⟨h0,a7,rfl,a5⟩,h⟩:=h.out;have h:=h.out;refine⟨_,h,Eff.pure hd λX' hag a w Y hs=>?_⟩;have h1:=F7 hs x;rw[E8 (I4 (I4 hag))]at h1;have a8:Sym.asInt (evA X' hi)=some (k1,hh):=by rw[E8 (J6 (I4 hag))];exact b3
   have a6:Sym.asInt (evA X' mx)=some (k2,hh):=by rw[E8 (J6 hag)];exact b0
   have hz:=bH hk w
   have run:∀A n cp,a.eval x=.slice A n cp->n=es.length->n<=cp->(execOp a.eval o).run P w=.ok (.value (.slice (if hh.toNat=0 then A else A.map (·.add (0*k))) (hh.toNat-0) (hh.toNat-0))) w:=λA n cp hv hn b5=>by
    have b1:=λc=>yS (P:=P) (w:=w) hs a6 (m:=cp) (c:=c) h0 (by omega);have b2:=λc=>yS (P:=P) (w:=w) hs a8 (m:=hh.toNat) (c:=c) h0 (by omega);simp only[execOp,hop,hv,Instr.sliceAt,Instr.slice,Sem.run_bind,Sem.run_pure,Result.andThen_ok,run_underlying hu,sY,L5,hz];unfold Instr.sliceBounds;simp[b1,b2,hz]
   have emp:∀A,es=[]->RepA w (Imm B X' Y w) Y X'.gn (.slice (if hh.toNat=0 then A else A.map (·.add (0*k))) (hh.toNat-0) (hh.toNat-0)) (.full (es.take hh.toNat)):=λA e=>by
    have e0:hh.toNat=0:=by rw[e]at a7;simp at a7;omega
    rw[e0,e,if_pos rfl,List.take_nil];exact .full _ _ _ (.emp _ _)
   cases hxx:evA X x with
   |im y =>
    rw[hxx]at h1 hx;have hx:nz y=.sl es:=hx;have h1:RepI w (Imm B X' Y w) (a.eval x) (.sl es):=hx ▸ nz_rep h1.im_inv;generalize hv:a.eval x=v at h1;cases h1 with
    |emp A c =>
     exact⟨_,run _ _ _ hv rfl (F8 _),emp _ rfl⟩
    |sl b q c k' n _ us hn hkk hc hs' hS hl hone hu' hr =>
     refine⟨_,run _ _ _ hv hn.symm hc,?_⟩;rcases gR hh.toNat with e0|e0
     ·rw[e0,if_pos rfl,GQ];exact .full _ _ _ (.emp _ _)
     ·rw[if_neg (by omega)];simp only[L5,pU,addr_add,W7,sN];have a4:(es.take hh.toNat).length=hh.toNat:=by rw[H6];omega
      have a3:(es.take hh.toNat).flatten=es.flatten.take (hh.toNat*k):=tV a5;refine .full _ _ _ (.sl b q _ k _ _ (us.take (hh.toNat*k)) a4 (λe he=>a5 e (Q1 he)) (H4 _) (by omega) hS (by rw[a3,H6,H6,hl]) (λu a2=>hone u (Q1 a2)) (λi u a2=>?_) λi u y a2 hy=>?_)
      ·rw[R3]at a2;split at a2
       ·exact hu' i u a2
       ·cases a2
      ·rw[a3,R3]at hy;rw[R3]at a2;split at a2
       ·rename_i b4;rw[if_pos b4]at hy;exact hr i u y a2 hy
       ·cases a2
   |_=>rw[hxx]at hx;cases hx
  ·exact h.elim
 ·exact h.elim
def aLenV_ok{c:Call}{t:TypeId}{ts:List TypeId}{x:Operand}{b g k m:Nat}(hop:o.op=.call c)(hc:c.callee=.builtin .len)(ha:c.args.toList=[x])(ht:c.argTypes.toList=t::ts){e:TypeId}(he:V9 P t=some e)(hx:evA X x=.osv b g k m)(hd:J3 B.n o=true)(h:aLenV o X K x b g k):∃fx,K fx/\Eff P B o fx.rd X fx.wr:=by
 have a7:c.argTypes[0]?=some t:=by rw[<- T7,ht];rfl
 have a4:∀a:Act,(c.args.map a.eval)[0]?=some (a.eval x):=λa=>by rw[<- T7,kW,ha];rfl
 have hu:=bX he
 have run:∀(a:Act) w A n cp,a.eval x=.slice A n cp->(execOp a.eval o).run P w=.ok (.value (.int .i64 n)) w:=λa w A n cp hv=>by
  simp only[execOp,hop,resolve,hc,invoke,builtin,Builtin.len_,a7,a4,Sem.run_bind,Sem.run_pure,Result.andThen_ok,run_underlying hu,hv,goInt]
 unfold aLenV at h;split at h
 ·rename_i t' kk es a6;obtain⟨hg,h⟩:=h.out;have h:=h.out;refine⟨_,h,Eff.pure hd λX' hag a w Y hs=>?_⟩;obtain⟨a3,hg',a5,_⟩:=Z7 hag;have h1:=F7 hs x;rw[E8 a3,hx]at h1;obtain⟨A,cp,hY⟩:=row_handle hs (a5.trans a6);generalize hv:a.eval x=v at h1;cases h1 with
  |osv _ _ _ _ _ a2 hgg hh =>
   obtain⟨q,n,c',e1,e2,e3⟩:=hh (hg'.trans hg);rw[hY]at e1;injection e1 with _ e1 _
   subst e1;rw[e3]at hv;exact⟨_,run a w _ _ _ hv,S8 _⟩
 ·exact h.elim
def aIndexV_ok{t:TypeId}{x i:Operand}{b g k m:Nat}(hop:o.op=.indexAddr t x i)(hx:evA X x=.osv b g k m)(hd:J3 B.n o=true)(h:aIndexV P o X K t x i b g k m):∃fx,K fx/\Eff P B o fx.rd X fx.wr:=by
 unfold aIndexV at h;split at h
 ·rename_i kk n et t' k' es hi a6 a8;have hu:=bX a6;split at h
  ·rename_i m' hm;obtain⟨a3,h'⟩:=h.ok;clear h;have a3:=S2 a3;subst a3;obtain⟨⟨h0,hg,b0⟩,h⟩:=h'.out;have h:=h.out;refine⟨_,h,Eff.pure hd λX' hag a w Y hs=>?_⟩;obtain⟨a4,hg',a7,_⟩:=Z7 hag;have h1:=F7 hs x;have h2:=F7 hs i;rw[E8 (I4 a4),hx]at h1;rw[E8 (J6 a4)]at h2;have hn:=T5 hi h2;obtain⟨q,a5,cur,us,e1,e2,e3,_⟩:=xY hs (a7.trans a8) (by omega);generalize hv:a.eval x=v at h1;cases h1 with
   |osv _ _ _ _ _ a2 hgg hh =>
    obtain⟨q',n',c',f1,f2,f3⟩:=hh (hg'.trans hg);have a9:=f1;rw[e1]at f1;injection f1 with f1 f4 f5
    injection f1 with f1
    injection f1 with f1
    subst f1 f4 f5;rw[f3,if_neg (by omega)]at hv;have hz:=bH hm w;have h3:0<=n/\n<(es.length-k:Nat):=⟨h0,by omega⟩;refine⟨.pointer (some ⟨q,(k+n.toNat)*m,none⟩),?_,.elt _ b g m (k+n.toNat) 0 rfl hgg λ_=>⟨q,0,_,a5,e1,by rw[W7,J9]⟩⟩;simp only[execOp,hop,hv,hn,Instr.indexAt,asIntOf,Sem.run_bind,Sem.run_pure,Result.andThen_ok,run_underlying hu,if_pos h3,hz,addr_add];rw[Nat.add_mul]
  ·exact h.elim
 ·exact h.elim
def aSliceT_ok{t:TypeId}{x hi:Operand}{b g:Nat}(hop:o.op=.slice t x none (some hi) none)(hx:evA X x=.osl b g)(hd:J3 B.n o=true)(h:aSliceT P o X K t x b g hi):∃fx,K fx/\Eff P B o fx.rd X fx.wr:=by
 unfold aSliceT at h;split at h
 ·rename_i et kk l a3 k es d b8 c6 b6 a5;have hu:=bX b8;split at h
  ·rename_i k' b9;obtain⟨b0,h'⟩:=h.ok;clear h;have b0:=S2 b0;subst b0;obtain⟨⟨hg,h0,hl,hn⟩,h⟩:=h'.out;have h:=h.out;refine⟨_,h,λX' hag a w ⟨Y,hs⟩ K' Q hK=>?_⟩;obtain⟨b5,hg',b3,d0⟩:=Z7 hag;have h1:=F7 hs x;rw[E8 (I4 b5),hx]at h1;have b7:Sym.asInt (evA X' hi)=some (kk,l):=by rw[E8 (J6 b5)];exact c6
   obtain⟨q,cap,cur,us,e1,e2,e3,e4,e5,e6,e7,e8,e9,a2,a6,a7⟩:=xY hs (b3.trans b6) hn;have hb:=λc=>yS (P:=P) (w:=w) hs b7 (m:=cap) (c:=c) h0 (by omega);have hz:=bH b9 w
   have hv:a.eval x=.slice (some ⟨q,0,none⟩) es.length cap:=by
    generalize a.eval x=v at h1;cases h1 with
    |osl _ _ _ a8 hgg hh=>rw[hh (hg'.trans hg),e1]
   have run:(execOp a.eval o).run P w=.ok (.value (.slice (some ⟨q,0,none⟩) l.toNat cap)) w:=by
    simp only[execOp,hop,hv,Instr.sliceAt,Instr.slice,Sem.run_bind,Sem.run_pure,Result.andThen_ok,run_underlying hu,sY,L5,hz];unfold Instr.sliceBounds;have:¬cap=0:=by omega
    simp[hb,addr_add,hz,this]
   unfold Oper.wp;rw[run,Oper.upon_value,a5];refine hK _ _ ⟨setY Y b (.slice (some ⟨q,0,none⟩) l.toNat cap),?_⟩;have a4:Owns X' Y b q:=.root (tE (b3.trans b6)) (by rw[e1];rfl);have m:mJ X' w w Y (some b) (.slice (some ⟨q,0,none⟩) l.toNat cap) (some q):=⟨World.grownBy.refl _ _,λc hc=>by injection hc with hc;subst hc;exact⟨b,rfl,a4⟩,λc hc=>.inl (by injection hc with hc;rw[<- hc])⟩;have a9:(es.take l.toNat).length=l.toNat:=by rw[H6];omega
   have b4:(es.take l.toNat).flatten=es.flatten.take (l.toNat*k):=tV e8;have c9:=U5 e8;have b2:l.toNat*k<=es.length*k:=bD _ hl
   have c0:=hs.new (d:=b) (k:=.row a3 k (es.take l.toNat)) (cs:=[]) m rfl λhI _=>by
    refine⟨us.take (l.toNat*k),e7,λy hy=>e8 y (Q1 hy),by rw[a9];omega,?_,by rw[b4,H6,H6,a2],λu hu=>a6 u (Q1 hu),λi u y hu hy=>?_⟩
    ·rw[a9];refine⟨by rw[H6];omega,.inr ⟨q,cap,cur,by simp[setY],F8 _,e2,by omega,e4,e5,?_⟩⟩;rw[<- e6,lA,mF b2]
    ·rw[b4,R3]at hy;rw[R3]at hu;split at hu
     ·rename_i c8;rw[if_pos c8]at hy;exact hI _ _ (a7 i u y hu hy)
     ·cases hu
   have c7:app X' ((.knd b,.kd .dead)::(M9 X b (.row a3 k (es.take l.toNat))++[(.tmp d,.av (.osl b (X.gn b+1)))]))=app (R5 X' (some b) b (.row a3 k (es.take l.toNat)) []) [(.tmp d,.av (.osl b (X'.gn b+1)))]:=by
    rw[V2,O8];unfold R5 M9;rw[hg'];rfl
   show SatR B (app X' ((.knd b,.kd .dead)::(M9 X b (.row a3 k (es.take l.toNat))++[(.tmp d,.av (.osl b (X.gn b+1)))]))) _ _ _;rw[c7];exact zq27 c0 rfl (aJ hd a5)
  ·exact h.elim
 ·exact h.elim
def aSliceQ_ok{t:TypeId}{x lo:Operand}{b g:Nat}(hop:o.op=.slice t x (some lo) none none)(hx:evA X x=.osl b g)(hd:J3 B.n o=true)(h:aSliceQ P o X K t x b g lo):∃fx,K fx/\Eff P B o fx.rd X fx.wr:=False.elim h
def aClear_ok{c:Call}{t:TypeId}{ts:List TypeId}{x:Operand}(hop:o.op=.call c)(hc:c.callee=.builtin .clear)(ha:c.args.toList=[x])(ht:c.argTypes.toList=t::ts)(hd:J3 B.n o=true)(h:aClear P o X K t x):∃fx,K fx/\Eff P B o fx.rd X fx.wr:=by
 have b9:c.argTypes[0]?=some t:=by rw[<- T7,ht];rfl
 have c8:∀a:Act,(c.args.map a.eval)[0]?=some (a.eval x):=λa=>by rw[<- T7,kW,ha];rfl
 unfold aClear at h;split at h
 ·rename_i et b g k m d0 hx;have hu:=bX d0;split at h
  ·rename_i b2 k' es m' z d3 d9 hz;obtain⟨b3,h'⟩:=h.ok;clear h;simp only[M7]at b3;obtain⟨⟨⟨⟨c1,c2⟩,c3⟩,c4⟩,c5⟩:=b3;have c1:=S2 c1;have c2:=S2 c2;have c4:=S2 c4;subst c1 c2;have c3:=bK c3;obtain⟨⟨hg,d8⟩,h⟩:=h'.out;have h:=h.out;refine⟨_,h,λX' hag a w ⟨Y,hs⟩ K' Q hK=>?_⟩;obtain⟨d7,hg',d4,_⟩:=Z7 hag;have h1:=F7 hs x;rw[E8 d7,hx]at h1;have a4:=d4.trans d3;by_cases hn:k=es.length
   ·-- nothing to clear
    have e0:es.take k++List.replicate (es.length-k) (z.map λv=>nz1 (.val v))=es:=by rw[hn];simp
    obtain⟨A,cp,hY⟩:=row_handle hs a4
    have run:(execOp a.eval o).run P w=.ok (.value (.tuple #[])) w:=by
     generalize hv:a.eval x=v at h1;cases h1 with
     |osv _ _ _ _ _ a6 hgg hh =>
      obtain⟨q,n,c',f1,f2,f3⟩:=hh (hg'.trans hg);rw[hY]at f1;injection f1 with _ f1 _
      subst f1;have:es.length-k=0:=by omega
      rw[f3,this]at hv;generalize (if c'=k then some (⟨q,0,none⟩:Addr) else some ⟨q,k*k',none⟩)=AA at hv;simp only[execOp,hop,resolve,hc,invoke,builtin,Builtin.clear_,b9,c8,Sem.run_bind,Sem.run_pure,Result.andThen_ok,run_underlying hu,hv];cases AA<;>simp
    unfold Oper.wp;rw[run,Oper.upon_value];refine hK _ _ ⟨Y,?_⟩;rw[e0]
    have b5:SatR B (upd X' (.knd b) (.kd (.row b2 k' es))) a w Y:=(hs.step (λ_=>False) (λt=>dO X' b t _) (λo _=>⟨by
      rw[W0]
      by_cases e:o=b
      ·rw[if_pos e,e,a4]
      ·rw[if_neg e],aT X' b o _,λi=>fU X' b o i _,rfl,rfl,rfl⟩) (λ_ h=>h.elim) (λo=>by rw[fT];exact hs.igs o) (Belo.refl _ _ _) (λ_ _ h=>h.elim) (λ_ _ _ h=>h.elim) (λ_ _ _ h=>h.elim)).1
    rw[V2];exact b5.put (λt e=>gW hd t e) (.im _ _ (.any _))
   ·obtain⟨q,b6,cur,us,e1,e2,e3,e4,e5,e6,e7,e8,e9,a2,a7,a8⟩:=xY hs a4 (by omega)
    obtain⟨zv,d6,c7⟩:∃zv:Value,(∀w,(zeroValue et).run P w=.ok zv w)/\zv.cells.toList=z:=by
     unfold zeroOf at hz;split at hz
     ·rename_i i hi;cases hz0:i.zero with
      |none=>rw[hz0]at hz;cases hz
      |some zz =>
       rw[hz0]at hz;simp only[L5,D4]at hz;exact⟨zz,λw=>by simp[zeroValue,typeInfo,hi,hz0],hz⟩
     ·cases hz
    have f6:zv.cells.size=k':=by rw[<- c4,<- c7];simp
    have b7:(Builtin.zeroCells zv.cells (es.length-k)).toList=(List.replicate (es.length-k) z).flatten:=by
     have:=made_take zv.cells (es.length-k) (es.length-k) (H4 _) (by omega);rw[X6 (by simp[madeCells])]at this;rw[<- c7];exact this
    have a3:((List.replicate (es.length-k) z).flatten).length=(es.length-k)*k':=by
     rw[U5 (k:=k') (λx hx=>by rw[fN hx];exact c4),dG]
    have a5:∀u∈(List.replicate (es.length-k) z).flatten,u.oneCell'=true:=λu hu=>by
     obtain⟨y,hy,hu⟩:=nO.1 hu;rw[fN hy]at hu;exact O0.1 c5 u hu
    have c0:k*k'+(es.length-k)*k'=es.length*k':=by rw[<- Nat.add_mul];congr 1;omega
    have d5:es.length*k'<=b6*k':=bD _ e3;have b0:=run_storeCells_at (P:=P) q (k*k') b2 ((List.replicate (es.length-k) z).flatten) 0 cur w e2 (by omega) a5;simp only[W7]at b0
    have run:(execOp a.eval o).run P w=.ok (.value (.tuple #[])) (w.setRow q (splice cur.toList (k*k') ((List.replicate (es.length-k) z).flatten)).toArray):=by
     generalize hv:a.eval x=v at h1;cases h1 with
     |osv _ _ _ _ _ a6 hgg hh =>
      obtain⟨q',n',c',f1,f2,f3⟩:=hh (hg'.trans hg);rw[e1]at f1;injection f1 with f1 f4 f5
      injection f1 with f1
      injection f1 with f1
      subst f1 f4 f5;obtain⟨p,hp⟩:∃p,es.length-k=p+1:=⟨es.length-k-1,by omega⟩;rw[f3,if_neg (by omega)]at hv;rw[hp]at hv b0 b7 ⊢;simp only[execOp,hop,resolve,hc,invoke,builtin,Builtin.clear_,b9,c8,Sem.run_bind,Sem.run_pure,Result.andThen_ok,run_underlying hu,hv,d6,b7,b0];rfl
    unfold Oper.wp;rw[run,Oper.upon_value];refine hK _ _ ⟨Y,?_⟩;have b8:us.length=es.length*k':=by rw[a2,U5 e8]
    have c9:(es.take k).length=k:=by rw[H6];omega
    have b4:(es.take k++List.replicate (es.length-k) (z.map λv=>nz1 (.val v))).flatten=es.flatten.take (k*k')++(List.replicate (es.length-k) (z.map λv=>nz1 (.val v))).flatten:=by
     rw[nU,tV e8]
    have d1:((List.replicate (es.length-k) (z.map λv=>nz1 (.val v))).flatten).length=(es.length-k)*k':=by
     rw[U5 (k:=k') (λx hx=>by rw[fN hx];simpa using c4),dG]
    have b5:=hs.turn (w':=w.setRow q (splice cur.toList (k*k') ((List.replicate (es.length-k) z).flatten)).toArray) (k':=.row b2 k' (es.take k++List.replicate (es.length-k) (z.map λv=>nz1 (.val v)))) (tE a4) (q:=q) (by rw[e1];rfl)
     ⟨rfl,rfl,rfl,by simp,λk _ hk=>setRow_other w q k _ (λe=>hk (by rw[e]))⟩ (λc hc=>by unfold Owns;rw[a4];exact hc) λhI=>by
      refine⟨us.take (k*k')++(List.replicate (es.length-k) z).flatten,e7,λy hy=>?_,by rw[D7,c9,dG];omega,?_,?_,λu hu=>?_,λn u y hu hy=>?_⟩
      ·rcases K0.1 hy with hy|hy
       ·exact e8 y (Q1 hy)
       ·rw[fN hy];simpa using c4
      ·have d2:(es.take k++List.replicate (es.length-k) (z.map λv=>nz1 (.val v))).length=es.length:=by rw[D7,c9,dG];omega
       rw[d2];refine⟨by rw[D7,H6,a3,b8];omega,.inr ⟨q,b6,_,e1,F8 _,setRow_heap w q cur _ b2 _ e2,e3,e4,?_,?_⟩⟩
       ·rw[kX,gL _ _ _ (by rw[a3];simp;omega)];simpa using e5
       ·rw[BQ,zN _ _ _ _ (by rw[a3];omega) (by simp;omega),e6];unfold splice;rw[a3,c0,CH (by omega),S5]
      ·rw[b4,D7,D7,H6,H6,a3,d1,a2]
      ·rcases K0.1 hu with hu|hu
       ·exact a7 u (Q1 hu)
       ·exact a5 u hu
      ·rw[b4,T8,H6,<- a2,mF (by omega)]at hy;rw[T8,H6,mF (by omega)]at hu;split at hu
       ·rename_i a9;rw[if_pos a9,R3,if_pos a9]at hy;rw[R3,if_pos a9]at hu;exact hI _ _ (a8 n u y hu hy)
       ·rename_i a9;rw[if_neg a9,pH]at hy;rw[pH]at hu;split at hu
        ·rename_i c6;rw[E1,if_pos c6,K5,hu]at hy;simp only[L5,D4]at hy;rw[<- hy];exact lE (.val _)
        ·cases hu
    rw[V2];exact b5.put (λt e=>gW hd t e) (.im _ _ (.any _))
  ·exact h.elim
 ·exact h.elim
def zC(w:World)(dT sT ty elem:TypeId)(g o dLen dCap:Nat)(a:Addr)(sLen sCap:Nat)(cur:Array Value)(t:TypeId)(cs:List Value)(k:Nat)
  (hu:P.underlying dT=some (.slice elem)) (hs:(P.info? elem).map (·.size)=some k)
  (hg:w.heap[g]?=some (.cells cur t (0,0))) (hn:cs.length=Nat.min sLen dLen*k)
  (hsrc:∀j v,cs[j]?=some v->w.cell? (a.add j)=some v) (hfit:o+cs.length<=cur.size) (h1:∀v∈cs,v.oneCell'=true) :
  (Builtin.copy_ #[dT,sT] ty #[.slice (some ⟨g,o,none⟩) dLen dCap,.slice (some a) sLen sCap]).run P w =
   .ok (goInt (Nat.min sLen dLen)) (w.setRow g (cur.toList.take o++cs++cur.toList.drop (o+cs.length)).toArray):=by
 have hl:=run_loadCells_list (P:=P) w a cs hsrc;have a2:=run_storeCells_at P g o t cs 0 cur w hg (by simpa using hfit) h1;cases hq:P.info? elem with
 |none=>simp[hq]at hs
 |some i =>
  have hi:i.size=k:=by simpa[hq]using hs
  rw[hn]at hl;simp[Builtin.copy_,run_underlying hu,Builtin.lenOf,Builtin.firstCells,sizeOf,typeInfo,hq,hi,hl,a2]
def aCopy_ok{c:Call}{t t':TypeId}{x y:Operand}(hop:o.op=.call c)(hc:c.callee=.builtin .copy)(ha:c.args.toList=[x,y])(ht:c.argTypes.toList=[t,t'])(hd:J3 B.n o=true)(h:aCopy P o X K t x y):∃fx,K fx/\Eff P B o fx.rd X fx.wr:=False.elim h
end
end
section
variable {t:TypeId}{w:World}{a:Act}{e:TypeId}{c:Call}
section
variable {P:Program}{B:Base}{o:Oper}{X:St}{K:Fx->Prop}
def fpv_apart{v:Value}{inn:List Value}(h:(fpv v inn).Nodup){i q:Nat}{u:Value}(hu:inn[i]?=some u)(hq:G3 u=some q):G3 v≠some q/\∀j u',j≠i->inn[j]?=some u'->G3 u'≠some q:=by
 unfold fpv List.Nodup at h;rw[MI]at h;rw[dF]at h;obtain⟨h1,h2⟩:=h;obtain⟨hi,rfl⟩:=G4.1 hu;refine⟨λe=>h1 _ (H9 hi) q e q hq rfl,λj u' hj a3 e=>?_⟩;obtain⟨a2,rfl⟩:=G4.1 a3;have h3:=V8.1 h2;rcases L8 j i with a4|a5
 ·exact h3 j i a2 hi a4 q e q hq rfl
 ·exact h3 i j hi a2 (by omega) q hq q e rfl
def rG{Y:Ly}(hs:SatR B X a w Y){b k:Nat}{e e':TypeId}{gs:List (List IV)}(hk:X.kd b=.grid e e' k gs none) :
  ∃us:List Value,(fpv (Y b) (Y.inn b)).Nodup/\(Y.inn b).length=gs.length/\gs.length<=17592186044416/\w.ownsRow 0 e 1 (Y b) gs.length us/\(∀u∈us,u.oneCell'=true)/\us.length=gs.length /\
   ∀(i:Nat) u,(Y.inn b)[i]?=some u->us[i]?=some u/\∃es,gs[i]?=some [.sl es]/\Z6 w (Imm B X Y w) u e' k es:=by
 have ho:=hs.obs b;rw[hk]at ho;obtain⟨h0,h1,us,h2,h3,h4,h5⟩:=ho;refine⟨us,h0,h1,h2,h3,h4,by rw[h3.1,mB],λi u hu=>?_⟩;rcases h5 i u hu with⟨h6,_⟩|h6
 ·cases h6
 ·exact h6
def grid_readH{Y:Ly}(hs:SatR B X a w Y){b k:Nat}{e e':TypeId}{gs:List (List IV)}{hole:Option Nat}(hk:X.kd b=.grid e e' k gs hole) :
  ∃us:List Value,(fpv (Y b) (Y.inn b)).Nodup/\(Y.inn b).length=gs.length/\gs.length<=17592186044416/\w.ownsRow 0 e 1 (Y b) gs.length us/\(∀u∈us,u.oneCell'=true)/\us.length=gs.length /\
   ∀(i:Nat) u,(Y.inn b)[i]?=some u->(hole=some i/\u=undef)\/(us[i]?=some u/\∃es,gs[i]?=some [.sl es]/\Z6 w (Imm B X Y w) u e' k es):=by
 have ho:=hs.obs b;rw[hk]at ho;obtain⟨h0,h1,us,h2,h3,h4,h5⟩:=ho;exact⟨us,h0,h1,h2,h3,h4,by rw[h3.1,mB],h5⟩
def inn_at{Y:Ly}{b n i:Nat}(h:(Y.inn b).length=n)(hi:i<n):∃u,(Y.inn b)[i]?=some u:=⟨_,L4 (by omega)⟩
def Z6.form{S:Nat->Prop}{v:Value}{k:Nat}{es:List (List IV)}(h:Z6 w S v e k es)(hn:0<es.length) :
  ∃(q cap:Nat) (cur:Array Value) (us:List Value),v=.slice (some ⟨q,0,none⟩) es.length cap/\w.heap[q]?=some (.cells cur e (0,0))/\es.length<=cap/\cap<=maxLen/\cur.size=cap*k/\cur.toList.take (es.length*k)=us/\0<k/\(∀x∈es,x.length=k)/\es.length<=17592186044416/\us.length=es.flatten.length /\
   (∀u∈us,u.oneCell'=true)/\(∀(i:Nat) u x,us[i]?=some u->es.flatten[i]?=some x->RepI w S u x)/\w.ownsRow 0 e k v es.length us:=by
 obtain⟨us,h1,h2,h3,h4,h5,h6,h7⟩:=h;rcases h4.2 with⟨_,h0⟩|⟨q,cap,cur,e1,_,e3,e4,e5,e6,e7⟩
 ·omega
 ·exact⟨q,cap,cur,us,e1,e3,e4,e5,e6,e7,h1,h2,h3,h5,h6,h7,h4⟩
def row_cell{k n q cap:Nat}{v:Value}{us:List Value}(h:w.ownsRow 0 e k v n us)(hv:v=.slice (some ⟨q,0,none⟩) n cap){p:Nat}{u:Value}(hu:us[p]?=some u):w.cell? ⟨q,p,none⟩=some u:=by
 have:=h.cells (g:=q) (by rw[hv];rfl) p u hu
 rwa [addr_add,J9]at this
def aIndexG_ok{x i:Operand}{b g:Nat}(hop:o.op=.indexAddr t x i)(hx:evA X x=.osl b g)(hd:J3 B.n o=true)(h:aIndexG P o X K t x i b g):∃fx,K fx/\Eff P B o fx.rd X fx.wr:=by
 unfold aIndexG at h;split at h
 ·rename_i kk n et e e' k' gs hole hi a8 a7;have hu:=bX a8;split at h
  ·rename_i m hm;obtain⟨a4,h'⟩:=h.ok;clear h;have a4:=S2 a4;subst a4;obtain⟨⟨h0,hg,b2⟩,h⟩:=h'.out;refine⟨_,h,Eff.pure hd λX' hag a w Y hs=>?_⟩;obtain⟨a6,hg',b0,_⟩:=Z7 hag;have h1:=F7 hs x;have h2:=F7 hs i;rw[E8 (I4 a6),hx]at h1;rw[E8 (J6 a6)]at h2;have hn:=T5 hi h2;obtain⟨us,_,_,_,a5,_⟩:=grid_readH hs (b0.trans a7);obtain⟨q,a9,a3⟩:=World.ownsRow.form a5 (by omega);generalize hv:a.eval x=v at h1;cases h1 with
   |osl _ _ _ a2 hgg hh =>
    rw[hh (hg'.trans hg),a3.1]at hv;have hz:=bH hm w;have h3:0<=n/\n<gs.length:=⟨h0,by omega⟩;refine⟨.pointer (some ⟨q,n.toNat*1,none⟩),?_,.elt _ b g 1 n.toNat 0 rfl hgg λ_=>⟨q,0,_,a9,a3.1,by rw[W7,J9]⟩⟩;simp only[execOp,hop,hv,hn,Instr.indexAt,asIntOf,Sem.run_bind,Sem.run_pure,Result.andThen_ok,run_underlying hu,if_pos h3,hz,addr_add,J9]
  ·exact h.elim
 ·exact h.elim
def xT{X':St}{l:List Loc}{b:Nat}(h:∀x∈l++[.ign b,.knd b],X' x=X x):(∀x∈l,X' x=X x)/\X'.ig b=X.ig b/\X'.kd b=X.kd b :=
 ⟨I4 h,qD (J6 h _ (by simp)),tA (J6 h _ (by simp))⟩
def aIndexS_ok{x i:Operand}{b g j:Nat}(hop:o.op=.indexAddr t x i)(hx:evA X x=.sub b g j)(hd:J3 B.n o=true)(h:aIndexS P o X K t x i b g j):∃fx,K fx/\Eff P B o fx.rd X fx.wr:=by
 unfold aIndexS at h;split at h
 ·rename_i kk n et e e' k gs hi b0 b5;have hu:=bX b0;split at h
  ·rename_i m hm;obtain⟨a5,h'⟩:=h.ok;clear h;have a5:=S2 a5;subst a5;obtain⟨es,⟨h0,hg,b3,b8⟩,h⟩:=h';refine⟨_,h,Eff.pure hd λX' hag a w Y hs=>?_⟩;obtain⟨a7,hg',b4⟩:=xT hag;have h1:=F7 hs x;have h2:=F7 hs i;rw[E8 (I4 a7),hx]at h1;rw[E8 (J6 a7)]at h2;have hn:=T5 hi h2;obtain⟨us,_,_,_,_,_,_,a9⟩:=rG hs (b4.trans b5);generalize hv:a.eval x=v at h1;cases h1 with
   |sub _ _ _ _ a2 hgg hh =>
    have b2:Y.ig b=g:=by rw[hs.igs,hg',hg]
    have a4:=hh b2;obtain⟨_,b6,a3,a6⟩:=a9 j v a4;rw[b3]at a3;injection a3 with a3
    injection a3 with a3
    injection a3 with a3
    subst a3;obtain⟨q,a8,cur,b7,e1,_⟩:=a6.form (by omega);have hz:=bH hm w;have h3:0<=n/\n<es.length:=⟨h0,by omega⟩;refine⟨.pointer (some ⟨q,n.toNat*m,none⟩),?_,.elt2 _ b g j m n.toNat 0 rfl hgg λ_=>⟨q,_,a8,by rw[a4,e1],by rw[W7]⟩⟩;rw[e1]at hv;simp only[execOp,hop,hv,hn,Instr.indexAt,asIntOf,Sem.run_bind,Sem.run_pure,Result.andThen_ok,run_underlying hu,if_pos h3,hz,addr_add,J9]
  ·exact h.elim
 ·exact h.elim
def aLoadG_ok{p:Operand}{b g k i j:Nat}(hop:o.op=.load t p)(hp:evA X p=.elt b g k i j)(hd:J3 B.n o=true)(h:aLoadG P o X K t p b g k i j):∃fx,K fx/\Eff P B o fx.rd X fx.wr:=by
 have run:∀(a:Act) w v,(Instr.loadAt t (a.eval p)).run P w=.ok v w->(execOp a.eval o).run P w=.ok (.value v) w:=λa w v hv=>by simp[execOp,hop,hv]
 unfold aLoadG at h;split at h
 ·rename_i e e' k' gs a7 b8;obtain⟨a3,h'⟩:=h.ok;clear h;rw[M7]at a3;have b2:=S2 a3.1;have b4:=S2 a3.2;subst b2 b4;obtain⟨⟨hg,c0⟩,h⟩:=h'.out;refine⟨_,h,Eff.pure hd λX' hag a w Y hs=>?_⟩;have a8:∀x∈opd p++(.gen b::.knd b::[.ign b]),X' x=X x:=λx hx=>hag x (by simpa using hx);obtain⟨b6,hg',b7,b9⟩:=Z7 a8;have b3:X'.ig b=X.ig b:=qD (b9 (.ign b) (by simp));have h1:=F7 hs p;rw[E8 b6,hp]at h1;obtain⟨us,_,b5,_,a5,a6,_,b0⟩:=rG hs (b7.trans b8);obtain⟨u,hu⟩:=inn_at b5 c0;obtain⟨a9,_⟩:=b0 i u hu;generalize hv:a.eval p=v at h1;cases h1 with
  |elt _ _ _ _ _ _ a2 hgg hh =>
   obtain⟨q,z,n,c,e1,e2⟩:=hh (hg'.trans hg);obtain⟨q',c6,a4⟩:=World.ownsRow.form a5 (by omega);rw[a4.1]at e1;injection e1 with e1 _ _
   injection e1 with e1
   injection e1 with e1 e3
   subst e1 e3;rw[e2,mB,W7,J9]at hv;refine⟨u,run a w u (by rw[hv];exact qP a7 (row_cell a5 a4.1 a9)),.sub _ b _ i (a6 u (H8 a9)) ?_ λ_=>hu⟩;rw[hs.igs,b3];exact H4 _
 ·exact h.elim
def aLoadS_ok{p:Operand}{b g i k j c:Nat}(hop:o.op=.load t p)(hp:evA X p=.elt2 b g i k j c)(hd:J3 B.n o=true)(h:aLoadS P o X K t p b g i k j c):∃fx,K fx/\Eff P B o fx.rd X fx.wr:=by
 have run:∀(a:Act) w v,(Instr.loadAt t (a.eval p)).run P w=.ok v w->(execOp a.eval o).run P w=.ok (.value v) w:=λa w v hv=>by simp[execOp,hop,hv]
 unfold aLoadS at h;split at h
 ·rename_i e e' k' gs a4 c0;obtain⟨a5,h'⟩:=h.ok;clear h;have b5:=S2 a5;subst b5;obtain⟨es,el,x,⟨hg,b8,he,hx⟩,h⟩:=h';refine⟨_,h,Eff.pure hd λX' hag a w Y hs=>?_⟩;obtain⟨b7,hg',b9⟩:=xT hag;have h1:=F7 hs p;rw[E8 b7,hp]at h1;obtain⟨us,_,_,_,_,_,_,b2⟩:=rG hs (b9.trans c0);generalize hv:a.eval p=v at h1;cases h1 with
  |elt2 _ _ _ _ _ _ _ a2 hgg hh =>
   have b6:Y.ig b=g:=by rw[hs.igs,hg',hg]
   obtain⟨q,n,cp,a6,e2⟩:=hh b6;obtain⟨_,d2,a3,a9⟩:=b2 i _ a6;rw[b8]at a3;injection a3 with a3
   injection a3 with a3
   injection a3 with a3
   subst a3;have c8:=(G4.1 he).1;obtain⟨q',c9,cur,c6,e1,_,_,_,_,_,d0,a7,_,b4,d1,c7,a8⟩:=a9.form (by omega);have b0:=e1;injection e1 with e1 _ _
   injection e1 with e1
   injection e1 with e1
   subst e1;have b3:c<k':=by rw[<- a7 el (H8 he)];exact(G4.1 hx).1
   have hf:=flat_get a7 he b3;rw[hx]at hf;obtain⟨u,hu⟩:∃u,c6[j*k'+c]?=some u:=⟨_,L4 (by rw[b4];exact(G4.1 hf).1)⟩;exact⟨u,run a w u (by rw[hv,e2];exact qP a4 (row_cell a8 b0 hu)),.im _ _ (c7 _ u x hu hf)⟩
 ·exact h.elim
def aLenG_ok{ts:List TypeId}{x:Operand}{b g:Nat}(hop:o.op=.call c)(hc:c.callee=.builtin .len)(ha:c.args.toList=[x])(ht:c.argTypes.toList=t::ts)(he:V9 P t=some e)(hx:evA X x=.osl b g)(hd:J3 B.n o=true)(h:aLenG o X K x b g):∃fx,K fx/\Eff P B o fx.rd X fx.wr:=by
 have a6:c.argTypes[0]?=some t:=by rw[<- T7,ht];rfl
 have a8:∀a:Act,(c.args.map a.eval)[0]?=some (a.eval x):=λa=>by rw[<- T7,kW,ha];rfl
 have hu:=bX he
 have run:∀(a:Act) w A n cp,a.eval x=.slice A n cp->(execOp a.eval o).run P w=.ok (.value (.int .i64 n)) w:=λa w A n cp hv=>by
  simp only[execOp,hop,resolve,hc,invoke,builtin,Builtin.len_,a6,a8,Sem.run_bind,Sem.run_pure,Result.andThen_ok,run_underlying hu,hv,goInt]
 unfold aLenG at h;split at h
 ·rename_i e1 e2 k gs a4;obtain⟨hg,h⟩:=h.out;have h:=h.out;refine⟨_,h,Eff.pure hd λX' hag a w Y hs=>?_⟩;obtain⟨a7,hg',a9,_⟩:=Z7 hag;have h1:=F7 hs x;rw[E8 a7,hx]at h1;obtain⟨us,_,_,_,a3,_⟩:=rG hs (a9.trans a4)
  obtain⟨A,cp,hY⟩:∃A c,Y b=.slice A gs.length c:=by
   rcases a3.2 with⟨e,h0⟩|⟨g,a5,cur,e,_⟩
   ·exact⟨none,0,by rw[e,h0]⟩
   ·exact⟨_,a5,e⟩
  generalize hv:a.eval x=v at h1;cases h1 with
  |osl _ _ _ a2 hgg hh =>
   rw[hh (hg'.trans hg),hY]at hv;exact⟨_,run a w _ _ _ hv,S8 _⟩
 ·exact h.elim
def aLenS_ok{ts:List TypeId}{x:Operand}{b g i:Nat}(hop:o.op=.call c)(hc:c.callee=.builtin .len)(ha:c.args.toList=[x])(ht:c.argTypes.toList=t::ts)(he:V9 P t=some e)(hx:evA X x=.sub b g i)(hd:J3 B.n o=true)(h:aLenS o X K x b g i):∃fx,K fx/\Eff P B o fx.rd X fx.wr:=by
 have b5:c.argTypes[0]?=some t:=by rw[<- T7,ht];rfl
 have b0:∀a:Act,(c.args.map a.eval)[0]?=some (a.eval x):=λa=>by rw[<- T7,kW,ha];rfl
 have hu:=bX he
 have run:∀(a:Act) w A n cp,a.eval x=.slice A n cp->(execOp a.eval o).run P w=.ok (.value (.int .i64 n)) w:=λa w A n cp hv=>by
  simp only[execOp,hop,resolve,hc,invoke,builtin,Builtin.len_,b5,b0,Sem.run_bind,Sem.run_pure,Result.andThen_ok,run_underlying hu,hv,goInt]
 unfold aLenS at h;split at h
 ·rename_i e1 e2 k gs b4;obtain⟨es,⟨hg,b3⟩,h⟩:=h;have h:=h.out;refine⟨_,h,Eff.pure hd λX' hag a w Y hs=>?_⟩;obtain⟨a9,hg',b2⟩:=xT hag;have h1:=F7 hs x;rw[E8 a9,hx]at h1;obtain⟨us,_,_,_,_,_,_,a7⟩:=rG hs (b2.trans b4);generalize hv:a.eval x=v at h1;cases h1 with
  |sub _ _ _ _ a2 hgg hh =>
   have a8:Y.ig b=g:=by rw[hs.igs,hg',hg]
   obtain⟨_,b6,a3,a5⟩:=a7 i v (hh a8);rw[b3]at a3;injection a3 with a3
   injection a3 with a3
   injection a3 with a3
   subst a3;obtain⟨b7,_,_,_,a4,_⟩:=a5
   obtain⟨A,cp,hY⟩:∃A c,v=.slice A es.length c:=by
    rcases a4.2 with⟨e,h0⟩|⟨g,a6,cur,e,_⟩
    ·exact⟨none,0,by rw[e,h0]⟩
    ·exact⟨_,a6,e⟩
   rw[hY]at hv;exact⟨_,run a w _ _ _ hv,S8 _⟩
 ·exact h.elim
def SatR.turnA{w w':World}{Y:Ly}(h:SatR B X a w Y){b q:Nat}{k':Kd}(hq:Owns X Y b q)(hg:w.grownBy w' (some q))(hk':∀c,c∈fpk (Y b) (Y.inn b) k'->Owns X Y b c)
  (hob:(∀v x,RepI w (Imm B X Y w) v x->RepI w' (Imm B (upd X (.knd b) (.kd k')) Y w') v x)->aR B (upd X (.knd b) (.kd k')) Y w' b k'):SatR B (upd X (.knd b) (.kd k')) a w' Y:=by
 refine(h.step (λo=>o=b) (λt=>dO X b t _) (λo hd=>⟨by rw[W0,if_neg hd],aT X b o _,λi=>fU X b o i _,rfl,rfl,rfl⟩) (λo _=>⟨⟨by rw[aT];exact H4 _,λ_=>rfl⟩,H4 _,λ_=>rfl⟩)
  (λo=>by rw[fT];exact h.igs o) ⟨hg.os,hg.tape,hg.output,hg.size,λc hc hn=>hg.block c hc λe=>?_⟩ (λo c hd ho=>?_) (λo p c hd hp _ _=>hd.trans hp.symm) λhI hA o hd=>?_).1
 ·injection e with e
  subst e;exact hn ⟨b,rfl,hq⟩
 ·subst hd;unfold Owns at ho;rw[W0,if_pos rfl]at ho;exact .inr ⟨o,rfl,hk' c ho⟩
 ·subst hd;rw[W0,if_pos rfl];exact hob hI
def aStoreS_ok{p x:Operand}{b g i k j c:Nat}(hop:o.op=.store t p x)(hp:evA X p=.elt2 b g i k j c)(hd:J3 B.n o=true)(h:aStoreS P o X K t p x b g i k j c):∃fx,K fx/\Eff P B o fx.rd X fx.wr:=by
 unfold aStoreS at h;split at h
 ·rename_i m cs e e' k' gs hm d5 b9;split at h
  ·rename_i xs h8;obtain⟨a9,h'⟩:=h.ok;clear h;simp only[M7]at a9;obtain⟨⟨⟨c1,c2⟩,c3⟩,c4⟩:=a9;have e7:cs.length=m:=by simpa using c1
   have i4:=bK c2;have i6:=iG c3;have f8:k'=k:=by simpa using c4
   subst f8;obtain⟨es,el,⟨hg,e9,a7⟩,h⟩:=h';have h:=h.out;refine⟨_,h,λX' hag a w ⟨Y,hs⟩ K' Q hK=>?_⟩;obtain⟨e5,hg',b8⟩:=xT hag;have h1:=F7 hs p;have h2:=F7 hs x;rw[E8 (I4 e5),hp]at h1;rw[E8 (J6 e5)]at h2;have hr:=oO d5 h2;have b2:=oX d5 h2;have d6:=fzL_ok hs (bs':=[]) (by simp) hr (qL h8 λl hl=>by simp[frd]at hl) (by simp);obtain⟨us,e4,d3,b6,d7,c0,h9,d2⟩:=rG hs (b8.trans b9);have g5:Y.ig b=g:=by rw[hs.igs,hg',hg]
   obtain⟨q,cap,u0,a3,f4,a8⟩:∃q cap u0,(Y.inn b)[i]?=some u0/\a.eval p=.pointer (some ⟨q,j*k'+c,none⟩)/\∃n,u0=.slice (some ⟨q,0,none⟩) n cap:=by
    generalize a.eval p=v at h1;cases h1 with
    |elt2 _ _ _ _ _ _ _ a2 hgg hh =>
     obtain⟨q,n,cp,a3,e2⟩:=hh g5;exact⟨q,cp,_,a3,e2,n,rfl⟩
   obtain⟨i3,i5,a4,d8⟩:=d2 i u0 a3;rw[e9]at a4;injection a4 with a4
   injection a4 with a4
   injection a4 with a4
   subst a4;have g9:=(G4.1 a7).1;obtain⟨q',b3,cur,d4,e1,e3,c7,d9,d0,f3,f5,a5,c8,b5,e6,g7,e8⟩:=d8.form (by omega);obtain⟨n,a8⟩:=a8
   have f7:q'=q:=by
    rw[a8]at e1;injection e1 with e1 _ _
    injection e1 with e1
    injection e1 with e1
    exact e1.symm
   subst f7;have b7:(a.eval x).cells.toList.length=m:=by rw[hr.1,e7]
   have g6:xs.length=m:=by rw[<- d6.1,b7]
   have d1:(j+1)*k'<=es.length*k':=bD _ g9;have g8:es.length*k'<=b3*k':=bD _ c7;rw[Nat.add_mul,BJ]at d1;have a6:=run_storeCells_at (P:=P) q' (j*k'+c) e' (a.eval x).cells.toList 0 cur w e3 (by omega) b2;simp only[W7]at a6;have hz:=bH hm w;have f6:(a.eval x).cells.size=m:=by rw[<- b7];simp
   have run:(execOp a.eval o).run P w=.ok .skip (w.setRow q' (splice cur.toList (j*k'+c) (a.eval x).cells.toList).toArray):=by
    simp only[execOp,hop,Instr.storeAt,f4,Instr.sureAddr,storeVar,Sem.run_bind,Sem.run_pure,Result.andThen_ok,hz,f6];rw[if_neg (by simp),a6];rfl
   unfold Oper.wp;rw[run,Oper.upon_skip];refine hK _ _ ⟨Y,?_⟩;have b4:d4.length=es.length*k':=by rw[b5,U5 a5]
   have c9:el.length=k':=a5 el (H8 a7);have b0:G3 u0=some q':=by rw[a8];rfl
   obtain⟨g4,h7⟩:=fpv_apart e4 a3 b0;have e0:∀r,r≠q'->(w.setRow q' (splice cur.toList (j*k'+c) (a.eval x).cells.toList).toArray).heap[r]?=w.heap[r]?:=λr hr=>setRow_other w q' r _ hr
   have f9:=hs.turnA (w':=w.setRow q' (splice cur.toList (j*k'+c) (a.eval x).cells.toList).toArray) (b:=b) (q:=q') (k':=.grid e e' k' (gs.set i [.sl (es.set j (splice el c xs))]) none)
    (by unfold Owns;rw[b8.trans b9];exact fpk_inn a3 b0)
    ⟨rfl,rfl,rfl,by simp,λk _ hk=>setRow_other w q' k _ (λe=>hk (by rw[e]))⟩ (λr hr=>by unfold Owns;rw[b8.trans b9];exact hr) λhI=>by
     refine⟨e4,by rw[eB];exact d3,us,by rw[eB];exact b6,?_,c0,λi' u hu=>.inr ?_⟩
     ·rw[eB];exact vK d7 λr hr=>e0 r λe=>g4 (by rw[<- e];exact hr)
     ·obtain⟨g1,h6,g2,g3⟩:=d2 i' u hu;refine⟨g1,?_⟩;by_cases c6:i'=i
      ·subst c6;rw[a3]at hu;injection hu with hu
       subst hu;refine⟨es.set j (splice el c xs),by rw[pY (by rw[<- d3];exact(G4.1 a3).1)],splice d4 (j*k'+c) (a.eval x).cells.toList,f5,λy hy=>?_,by rw[eB];exact c8,?_,?_,λu hu=>?_,λn u y hu hy=>?_⟩
       ·rcases sZ hy with hy|hy
        ·exact a5 y hy
        ·rw[hy,gL _ _ _ (by omega),c9]
       ·rw[eB];refine⟨by rw[gL _ _ _ (by omega),b4],.inr ⟨q',b3,_,e1,F8 _,setRow_heap w q' cur _ e' _ e3,c7,d9,?_,?_⟩⟩
        ·rw[kX,gL _ _ _ (by simp;omega)];simpa using d0
        ·rw[BQ,zN _ _ _ _ (by omega) (by simp;omega),f3]
       ·rw[tB a5 a7 (by omega),gL _ _ _ (by omega),gL _ _ _ (by omega),b5]
       ·unfold splice at hu;rcases K0.1 hu with hu|hu
        ·rcases K0.1 hu with hu|hu
         ·exact e6 u (Q1 hu)
         ·exact b2 u hu
        ·exact e6 u (V7 hu)
       ·rw[tB a5 a7 (by omega)]at hy;rcases zq43 b5 (by rw[b7,g6]) (by omega) hu hy with⟨n',h3,h4⟩|⟨n',h3,h4⟩
        ·exact hI _ _ (g7 n' u y h3 h4)
        ·exact hI _ _ (d6.2 n' u y h3 h4)
      ·exact⟨h6,by rw[qA (λe=>c6 e.symm)];exact g2,g3.mono (λr hr=>e0 r λe=>h7 i' u c6 hu (by rw[<- e];exact hr)) hI⟩
   rw[V2];exact f9.put (gW hd) (S8 _)
  ·exact h.elim
 ·exact h.elim
def fpv_set{v x:Value}{inn:List Value}{i:Nat}(h:(fpv v inn).Nodup)(hx:∀q,G3 x=some q->q∉fpv v inn):(fpv v (inn.set i x)).Nodup:=by
 have hm:∀u q,u=v\/u∈inn->G3 u=some q->q∈fpv v inn:=λu q hu hq=>kZ.2 ⟨u,by rcases hu with rfl|hu<;>simp[*],hq⟩
 unfold fpv List.Nodup at h ⊢;rw[MI,dF]at h ⊢;obtain⟨h1,h2⟩:=h;refine⟨λa' a3 c hc c' a2 e=>?_,?_⟩
 ·rcases sZ a3 with h3|h3
  ·exact h1 a' h3 c hc c' a2 e
  ·subst h3 e;exact hx c a2 (hm v c (.inl rfl) hc)
 ·rw[V8]at h2 ⊢;intro j k hj hk a4 c hc c' a2 e;rw[eB]at hj hk;rw[List.getElem_set]at hc a2;subst e;split at hc
  ·split at a2
   ·omega
   ·exact hx c hc (hm _ c (.inr (H9 hk)) a2)
  ·split at a2
   ·exact hx c a2 (hm _ c (.inr (H9 hj)) hc)
   ·exact h2 j k hj hk a4 c hc c a2 rfl
def splice_one{V:Type}{l:List V}{i:Nat}(h:i<l.length)(v:V):splice l i [v]=l.set i v:=by
 rw[List.set_eq_take_append_cons_drop,if_pos h];unfold splice;simp
def aStoreG_ok{p x:Operand}{b g k i j:Nat}(hop:o.op=.store t p x)(hp:evA X p=.elt b g k i j)(hd:J3 B.n o=true)(h:aStoreG P o X K t p x b g k i j):∃fx,K fx/\Eff P B o fx.rd X fx.wr:=by
 unfold aStoreG at h;split at h
 ·rename_i m r gr e e' k' gs hole hm hx a8;split at h
  ·rename_i e2 k2 es d9;obtain⟨a9,h'⟩:=h.ok;clear h;simp only[M7]at a9;obtain⟨⟨⟨⟨⟨c1,c2⟩,c3⟩,c4⟩,c5⟩,c6⟩:=a9;have c1:=S2 c1;have c2:=S2 c2;have c3:=S2 c3;have c4:=S2 c4;have c5:=S2 c5;have a4:r≠b:=λe=>by rw[e]at c6;simp at c6
   subst c1 c2 c3 c4 c5;obtain⟨⟨hg,e7,g9,d0⟩,h⟩:=h'.out;have h:=h.out;refine⟨_,h,λX' hag a w ⟨Y,hs⟩ K' Q hK=>?_⟩;have e0:∀x_1∈(opd p++opd x)++(.gen b::.knd b::[.ign b,.gen r,.knd r]),X' x_1=X x_1:=λy hy=>hag y (by simpa using hy);obtain⟨d8,hg',a7,c7⟩:=Z7 e0;have g4:X'.ig b=X.ig b:=qD (c7 (.ign b) (by simp));have d4:X'.gn r=X.gn r:=V1 (c7 (.gen r) (by simp));have b0:X'.kd r=X.kd r:=tA (c7 (.knd r) (by simp));have h1:=F7 hs p;have h2:=F7 hs x;rw[E8 (I4 d8),hp]at h1;rw[E8 (J6 d8),hx]at h2;obtain⟨us,d6,g5,b4,d2,b9,c9,f9⟩:=grid_readH hs (a7.trans a8);have b5:=hs.obs r;rw[b0.trans d9]at b5;have d3:Z6 w (Imm B X' Y w) (Y r) e2 k2 es:=b5;obtain⟨h6,_,_,_,r4,_⟩:=b5;have a2:(Y r).oneCell'=true:=row_one r4;have f4:(Y r).cells=#[Y r]:=by revert a2;cases Y r<;>simp[Value.oneCell',Value.cells]
   rcases d2.2 with⟨_,hn⟩|⟨q,e4,cur,e1,_,e3,e5,d5,b2,c8⟩
   ·omega
   have e9:a.eval p=.pointer (some ⟨q,i,none⟩):=by
    generalize a.eval p=v at h1;cases h1 with
    |elt _ _ _ _ _ _ _ _ hh =>
     obtain⟨b',z,n,c,f1,f2⟩:=hh (hg'.trans hg);rw[e1]at f1;injection f1 with f1
     injection f1 with f1
     injection f1 with f1 f3
     rw[f2,f1,<- f3,mB,W7,J9]
   have f8:a.eval x=Y r:=by
    generalize a.eval x=v at h2;cases h2 with
    |osl _ _ _ _ _ hh=>exact hh (d4.trans e7)
   rw[mB]at b2 c8;have a5:=run_storeCells_at (P:=P) q i e [Y r] 0 cur w e3 (by simp;omega) (by simpa using a2);simp only[W7]at a5;have hz:=bH hm w
   have run:(execOp a.eval o).run P w=.ok .skip (w.setRow q (splice cur.toList i [Y r]).toArray):=by
    simp only[execOp,hop,Instr.storeAt,e9,f8,Instr.sureAddr,storeVar,Sem.run_bind,Sem.run_pure,Result.andThen_ok,hz,f4];rw[if_neg (by simp),a5];rfl
   unfold Oper.wp;rw[run,Oper.upon_skip]
   let Y2:Ly:=⟨Y.root,λo=>if o=b then(Y.inn b).set i (Y r) else Y.inn o,λo=>if o=b then Y.ig b+1 else Y.ig o⟩
   let U:St:=app X' [(.knd r,.kd .dead),(.ign b,.n (X.ig b+1)),(.knd b,.kd (.grid e e2 k2 (gs.set i [.sl es]) none))]
   have a3:∀o,U.kd o=if o=b then .grid e e2 k2 (gs.set i [.sl es]) none else if o=r then .dead else X'.kd o:=λo=>by
    show(app X' _).kd o=_;simp only[V2,iA];rw[W0,kd_ign,W0]
   have d7:∀o,U.gn o=X'.gn o:=λo=>by
    show(app X' _).gn o=_;simp only[V2,iA];rw[aT,gn_ign,aT]
   have g7:∀o,U.ig o=if o=b then X.ig b+1 else X'.ig o:=λo=>by
    show(app X' _).ig o=_;simp only[V2,iA];rw[fT,ig_ign,fT]
   have f7:∀t,U.av t=X'.av t:=λt=>by
    show(app X' _).av t=_;simp only[V2,iA];rw[dO,av_ign,dO]
   have g8:∀o i,U.ce o i=X'.ce o i:=λo i=>by
    show(app X' _).ce o i=_;simp only[V2,iA];rw[fU,ce_ign,fU]
   have b3:Owns X' Y b q:=.root (by unfold live;rw[a7.trans a8];exact λz=>by cases z) (by rw[e1];rfl);have b7:live X' r:=tE (b0.trans d9);have e6:∀c,G3 (Y r)=some c->c≠q:=λc hc e=>a4 (hs.dis r b c (.root b7 hc) (e ▸ b3));have b8:∀c,c≠q->(w.setRow q (splice cur.toList i [Y r]).toArray).heap[c]?=w.heap[c]?:=λc hc=>setRow_other w q c _ hc;have d1:∀(j:Nat) u,(Y.inn b)[j]?=some u->∀c,G3 u=some c->c≠q:=λj u hu c hc e=>(fpv_apart d6 hu hc).1 (by rw[e1,e];rfl)
   obtain⟨f6,_⟩:=hs.step (X':=U) (Y':=Y2) (w':=w.setRow q (splice cur.toList i [Y r]).toArray) (λo=>o=b\/o=r) f7
    (λo ho=>⟨by rw[a3,if_neg (λe=>ho (.inl e)),if_neg (λe=>ho (.inr e))],d7 o,g8 o,rfl,by simp only[Y2];rw[if_neg (λe=>ho (.inl e))],by simp only[Y2];rw[if_neg (λe=>ho (.inl e))]⟩)
    (λo ho=>by
     refine⟨⟨by rw[d7];exact H4 _,λ_=>rfl⟩,?_,λe=>?_⟩
     ·show Y.ig o<=(if o=b then Y.ig b+1 else Y.ig o)
      split
      ·rename_i e;rw[e];omega
      ·exact H4 _
     ·have e:(if o=b then Y.ig b+1 else Y.ig o)=Y.ig o:=e
      show(if o=b then(Y.inn b).set i (Y r) else Y.inn o)=_
      split at e
      ·rename_i e2;rw[e2]at e;omega
      ·rename_i e2;rw[if_neg e2])
    (λo=>by
     show(if o=b then Y.ig b+1 else Y.ig o)=_
     rw[g7]
     split
     ·rw[hs.igs,g4]
     ·exact hs.igs o)
    ⟨rfl,rfl,rfl,by simp,λc hc hn=>b8 c λe=>hn ⟨b,.inl rfl,e ▸ b3⟩⟩
    (λo c ho hc=>by
     rcases ho with rfl|rfl
     ·unfold Owns at hc
      rw[a3,if_pos rfl]at hc
      have hc:c∈fpv (Y o) (if o=o then(Y.inn o).set i (Y r) else Y.inn o):=hc
      rw[if_pos rfl]at hc
      obtain⟨u,hu,c0⟩:=kZ.1 hc
      rcases I2.1 hu with rfl|hu
      ·exact .inr ⟨o,.inl rfl,.root b3.lv c0⟩
      ·rcases sZ hu with hu|rfl
       ·obtain⟨n,hn⟩:=qB hu
        exact .inr ⟨o,.inl rfl,by unfold Owns;rw[a7.trans a8];exact fpk_inn hn c0⟩
       ·exact .inr ⟨r,.inr rfl,.root b7 c0⟩
     ·exact absurd (by rw[a3,if_neg a4,if_pos rfl]) hc.lv)
    (λo p c ho hp f5 e8=>by
     rcases ho with rfl|rfl
     ·rcases hp with rfl|rfl
      ·rfl
      ·exact absurd (by rw[a3,if_neg a4,if_pos rfl]) e8.lv
     ·exact absurd (by rw[a3,if_neg a4,if_pos rfl]) f5.lv)
    λhI _ o ho=>by
     by_cases b6:o=b
     ·subst b6;rw[a3,if_pos rfl];show fS _ _ (Y o) (if o=o then(Y.inn o).set i (Y r) else Y.inn o) _ _ _ _ _;rw[if_pos rfl];refine⟨fpv_set d6 λc hc hm=>?_,by rw[eB,eB];exact g5,us.set i (Y r),by rw[eB];exact b4,?_,λu hu=>?_,λi' u hu=>.inr ?_⟩
      ·exact a4 (hs.dis r o c (.root b7 hc) (by unfold Owns;rw[a7.trans a8];exact hm))
      ·rw[eB];refine⟨by rw[eB,c9,mB],.inr ⟨q,e4,_,e1,F8 _,setRow_heap w q cur _ e _ e3,e5,d5,?_,?_⟩⟩
       ·rw[kX,gL _ _ _ (by simp;omega),mB];simpa using b2
       ·rw[BQ,mB,zN _ _ _ _ (by simp;omega) (by simp;omega),c8,splice_one (by omega)]
      ·rcases sZ hu with hu|rfl
       ·exact b9 u hu
       ·exact a2
      ·by_cases a6:i'=i
       ·subst a6;rw[pY (by omega)]at hu;injection hu with hu
        subst hu;exact⟨pY (by omega),es,pY (by omega),d3.mono (λc hc=>b8 c (e6 c hc)) hI⟩
       ·rw[qA (λe=>a6 e.symm)]at hu
        obtain⟨g1,g6,g2,g3⟩:=(f9 i' u hu).resolve_left λhh=>by
         rw[hh.1]at d0;exact a6 d0
        exact⟨by rw[qA (λe=>a6 e.symm)];exact g1,g6,by rw[qA (λe=>a6 e.symm)];exact g2,g3.mono (λc hc=>b8 c (d1 i' u hu c hc)) hI⟩
     ·rw[a3,if_neg b6,if_pos (ho.resolve_left b6)];trivial
   refine hK _ _ ⟨Y2,?_⟩;show SatR B (app X' ([(.knd r,.kd .dead),(.ign b,.n (X.ig b+1)),(.knd b,.kd (.grid e e2 k2 (gs.set i [.sl es]) none))]++wrT o.dst (.im (.val undef)))) _ _ _;rw[O8];exact f6.put (gW hd) (S8 _)
  ·exact h.elim
 ·exact h.elim
def aAppendS_ok{x y:Operand}{b g i:Nat}(hop:o.op=.call c)(hc:c.callee=.builtin .append)(hargs:c.args=#[x,y])(hts:c.argTypes=#[t,t])(hx:evA X x=.sub b g i)(hd:J3 B.n o=true)(h:aAppendS P o X K t x y b g i):∃fx,K fx/\Eff P B o fx.rd X fx.wr:=False.elim h
def aAppendT_ok{x y:Operand}{b g i b2 g2 j:Nat}(hop:o.op=.call c)(hc:c.callee=.builtin .append)(hargs:c.args=#[x,y])(hts:c.argTypes=#[t,t])(hx:evA X x=.sub b g i)(hy0:evA X y=.sub b2 g2 j)(hd:J3 B.n o=true)(h:aAppendT P o X K t x y b g i b2 g2 j):∃fx,K fx/\Eff P B o fx.rd X fx.wr:=False.elim h
def aMoves_ok{own:List Nat}{x:Operand}(hop:o.op=.move x\/o.op=.assign x)(hd:J3 B.n o=true)(h:aMoves own o X K x):∃fx,K fx/\Eff P B o fx.rd X fx.wr:=by
 have a3:=aMove_ok (P:=P) (B:=B) (X:=X) hop hd;unfold aMoves at h;split at h
 ·rename_i d a2;split at h
  ·split at h
   ·rename_i y bs a8;obtain⟨a5,h⟩:=h.out;refine⟨_,h,λX' hag a w ⟨Y,hs⟩ K' Q hK=>?_⟩;have a4:O3 X X' bs:=J6 hag
    have a7:∀p∈bs,X'.gn p.1=p.2:=λp hp=>by
     rw[<- a5 p hp];exact V1 (a4 (.gen p.1) (by unfold frd;exact L6.2 ⟨p,hp,by simp⟩))
    have h1:=F7 hs x;have hf:=fz_ok hs (bs':=bs) a7 h1 (by rw[E8 (I4 hag)];exact qE a8 a4) λ_ h=>h;obtain⟨a6,_⟩:=hs.kills bs;have run:(execOp a.eval o).run P w=.ok (.value (a.eval x)) w:=by rcases hop with e|e<;>simp[execOp,e]
    unfold Oper.wp;rw[run,Oper.upon_value,a2];refine hK _ _ ⟨Y,?_⟩;show SatR B (app X' (fwr bs++[(.tmp d,.av (.im y))])) _ _ _;rw[O8];exact a6.put (d:=some d) (λt e=>by injection e with e;subst e;exact aJ hd a2) (.im _ _ hf)
   ·exact h.elim
  ·exact⟨_,h,by rw[a2]at a3;exact a3⟩
 ·rename_i a2;exact⟨_,h,by rw[a2]at a3;exact a3⟩
def IM{a:Act}{Y:Ly}{S:Nat->Prop}{E:Nat->Nat}{d:Nat}{us vs:List Value}:∀(fs:List Field) (i:Nat) (xs ys:List AV) (r:Bool),fs.length=xs.length->intFs P i fs=true->eqCs xs ys=some r ->
  (∀(j:Nat) x,xs[j]?=some x->∃u,us[i+j]?=some u/\RepA w S Y E u x)->(∀(j:Nat) x,ys[j]?=some x->∃u,vs[i+j]?=some u/\RepA w S Y E u x)->(Op.eqFields (d+1) us.toArray vs.toArray fs).run P w=.ok r w
 |[],i,xs,ys,r,hl,_,he,_,_=>by
  have hx:xs=[]:=S9 hl.symm;subst hx;cases ys with
  |nil =>
   simp only[eqCs,D4]at he;subst he;simp[Op.eqFields]
  |cons y ys=>simp[eqCs]at he
 |f::fs,i,[],ys,r,hl,_,_,_,_=>by simp at hl
 |f::fs,i,x::xs,[],r,_,_,he,_,_=>by simp[eqCs]at he
 |f::fs,i,x::xs,y::ys,r,hl,hF,he,hx,hy=>by
  simp only[eqCs]at he;split at he
  ·rename_i k n k' m r' ex ey er;split at he
   ·rename_i hk;have hk:=of_decide_eq_true hk;subst hk;injection he with he
    subst he;simp only[intFs,intF,M7,decide_eq_true_eq]at hF;obtain⟨⟨⟨hname,hoff⟩,hty⟩,hF⟩:=hF;have hoff:=S2 hoff
    obtain⟨k0,hu⟩:∃k0,P.underlying f.type=some (.int k0):=by
     split at hty
     ·exact⟨_,by assumption⟩
     ·cases hty
    have hp:P.plainKey f.type=true:=by unfold Program.plainKey;rw[hu]
    obtain⟨u,a2,a4⟩:=hx 0 x rfl;obtain⟨v,a3,a5⟩:=hy 0 y rfl;rw[W7]at a2 a3;have e1:=T5 ex a4;have e2:=T5 ey a5;subst e1 e2;have p1:=run_part_plain (P:=P) w hp (xs:=us.toArray) (off:=f.offset) (v:=.int k n) (by rw[hoff];simpa using a2);have p2:=run_part_plain (P:=P) w hp (xs:=vs.toArray) (off:=f.offset) (v:=.int k m) (by rw[hoff];simpa using a3);have p3:=run_equalIn_int (P:=P) w d f.type k k0 n m hu
    have ih:=IM (a:=a) (d:=d) fs (i+1) xs ys r' (by simpa using hl) hF er (λj z hz=>by
     have:=hx (j+1) z (by simpa using hz)
     rwa [show i+(j+1)=i+1+j by omega]at this) (λj z hz=>by
     have:=hy (j+1) z (by simpa using hz)
     rwa [show i+(j+1)=i+1+j by omega]at this)
    simp only[Op.eqFields,if_pos hname,Sem.run_bind,p1,p2,p3,Result.andThen_ok];by_cases h:n=m
    ·subst h;simp[ih]
    ·have:(n==m)=false:=by simpa using h
     simp[this,h]
   ·cases he
  ·cases he
def aBinS_ok{op:BinOp}{t z:TypeId}{x y:Operand}(hop:o.op=.binOp op t x y z)(hd:J3 B.n o=true)(h:aBinS P o X K op t x y):∃fx,K fx/\Eff P B o fx.rd X fx.wr:=by
 unfold aBinS at h;split at h
 ·rename_i xs ys hx hy;split at h
  ·rename_i r hr;obtain⟨hT,h⟩:=h.out
   obtain⟨fs,hu,a5,hF,a7,a6⟩:∃fs,P.underlying t=some (.struct fs)/\fs.toList.length=xs.length/\intFs P 0 fs.toList=true/\P.stoodInHeld t=false/\P.eqGuardType P.depth t=false:=by
    unfold eqT at hT;split at hT
    ·rename_i fs hu;simp only[M7,sU]at hT;exact⟨fs,hu,S2 hT.1.1.1,hT.1.1.2,hT.1.2,hT.2⟩
    ·cases hT
   have a4:P.fieldsOf t=fs:=by unfold Program.fieldsOf;rw[hu]
   have a3:∀X' (a:Act) w Y,SatR B X' a w Y->(∀l∈opd x++opd y,X' l=X l)->∃us vs:List Value,a.eval x=.agg us.toArray/\a.eval y=.agg vs.toArray/\(Op.equalIn 10000 t (.agg us.toArray) (.agg vs.toArray)).run P w=.ok r w:=λX' a w Y hs hag=>by
    have g1:=F7 hs x;have g2:=F7 hs y;rw[E8 (I4 hag)]at g1;rw[E8 (J6 hag)]at g2;obtain⟨us,e1,r1,_⟩:=CO hx g1;obtain⟨vs,e2,r2,_⟩:=CO hy g2;refine⟨us,vs,e1,e2,?_⟩;rw[run_equalIn_agg w 9999 t _ _ (by rw[a4];exact hu) a7,a4]
    have get:∀{us:List Value} {xs:List AV},Reps w (Imm B X' Y w) Y X'.gn us xs->∀(j:Nat) x,xs[j]?=some x->∃u,us[0+j]?=some u/\RepA w (Imm B X' Y w) Y X'.gn u x:=λ{us xs} hr j x hx=>by
     have hj:=(G4.1 hx).1;rw[<- hr.1]at hj;exact⟨us[j],by rw[J9];exact L4 hj,hr.2 j _ x (L4 hj) hx⟩
    exact IM (a:=a) (d:=9998) fs.toList 0 xs ys r a5 hF hr (get r1) (get r2)
   split at h
   ·have h:=h.out;refine⟨_,h,Eff.pure hd λX' hag a w Y hs=>⟨.bool r,?_,S8 _⟩⟩;obtain⟨us,vs,e1,e2,a2⟩:=a3 X' a w Y hs hag;simp only[execOp,hop,e1,e2,Sem.run_bind,run_eqGuard_agg w _ t x y _ _ a6,Result.andThen_ok,run_eql_struct,a2,Sem.run_pure]
   ·have h:=h.out;refine⟨_,h,Eff.pure hd λX' hag a w Y hs=>⟨.bool (!r),?_,S8 _⟩⟩;obtain⟨us,vs,e1,e2,a2⟩:=a3 X' a w Y hs hag;simp only[execOp,hop,e1,e2,Sem.run_bind,run_eqGuard_agg w _ t x y _ _ a6,Result.andThen_ok,run_neq_struct,a2,Sem.run_pure]
   ·exact h.elim
  ·exact h.elim
 ·exact h.elim
end
end
section
section
variable {P:Program}{B:Base}{o:Oper}{X:St}{K:Fx->Prop}
def IR{X':St}{a:Act}{w:World}{Y:Ly}(h:SatR B X' a w Y){bs':E7}(hgk:∀p∈bs',X'.gn p.1=p.2):∀{l:List (Nat×Operand)} {i:Nat} {vs:List IV} {bs:E7},partsAt X i l=some (vs,bs)->(∀y∈opdL (l.map (·.2)),X' y=X y)->O3 X X' bs->(∀b∈bs,b∈bs') ->
  (l.map λp=>(p.1,a.eval p.2))=(((l.map λp=>a.eval p.2).zipIdx i).map λx=>(x.2,x.1))/\W9 w (Imm B (app X' (fwr bs')) Y w) (l.map λp=>a.eval p.2) vs
 |[],i,vs,bs,e,_,_,_=>by
  simp only[partsAt,D4,G0]at e;rw[<- e.1];exact⟨rfl,rfl,λi u x hu=>by simp at hu⟩
 |(j,x)::l,i,vs,bs,e,hag,hsame,hs=>by
  simp only[partsAt]at e;split at e
  ·rename_i hij;subst hij;split at e
   ·rename_i v b1 vs1 bs1 h1 h2;simp only[D4,G0]at e;obtain⟨rfl,rfl⟩:=e;have hx:evA X' x=evA X x:=E8 λy hy=>hag y (by simp only[L0,opdL,P1];exact M1 _ hy);have r1:=fz_ok h hgk (F7 h x) (x:=v) (bs:=b1) (by rw[hx];exact qE h1 hsame.left) λb hb=>hs b (M1 _ hb);obtain⟨r2,r3⟩:=IR h hgk h2 (λy hy=>hag y (by simp only[L0,opdL,P1];exact M2 _ hy)) hsame.right λb hb=>hs b (M2 _ hb);refine⟨by rw[L0,r2];rfl,by simpa using r3.1,λn u y hu hy=>?_⟩;cases n with
    |zero=>simp at hu hy;rw[<- hu,<- hy];exact r1
    |succ n=>exact r3.2 n u y (by simpa using hu) (by simpa using hy)
   ·cases e
  ·cases e
def cellsI_rep{w:World}{S:Nat->Prop}{v:Value}{x:IV}(h:RepI w S v x)(h0:0<(X3 x).length):W9 w S v.cells.toList (X3 x)/\∀u∈v.cells.toList,u.oneCell'=true:=by
 have one:v.oneCell'=true->X3 x=[x]->W9 w S v.cells.toList (X3 x)/\∀u∈v.cells.toList,u.oneCell'=true:=λh1 hx=>by
  have:v.cells=#[v]:=by revert h1;cases v<;>simp[Value.oneCell',Value.cells]
  rw[this,hx];refine⟨⟨rfl,λi u y hu hy=>?_⟩,λu hu=>by simp at hu;rw[hu];exact h1⟩;cases i with
  |zero=>simp at hu hy;rw[<- hu,<- hy];exact h
  |succ i=>simp at hu
 have h':=h;cases h' with
 |val _ =>
  simp only[X3]at h0;split at h0
  ·rename_i h1;exact one h1 (by simp only[X3];rw[if_pos h1])
  ·simp at h0
 |any _=>simp[X3]at h0
 |ex _ h1=>exact one h1 rfl
 |emp _ _=>exact one rfl rfl
 |sl _ _ _ _ _ _ _ _ _ _ _ _ _ _ _ _=>exact one rfl rfl
 |agg us cs hl h1 hr=>exact⟨⟨by simpa[Value.cells,X3]using hl,λi u y hu hy=>hr i u y (by simpa[Value.cells]using hu) hy⟩,λu hu=>h1 u (by simpa[Value.cells]using hu)⟩
 |ref _ _ _ _ _ _ _ _ _=>exact one rfl rfl
 |fn _ _ _ _ _=>exact one rfl rfl
 |nsl _ _ _ _ _=>exact one rfl rfl
def flat_reps{w:World}{S:Nat->Prop}{k:Nat}(hk0:0<k):∀{us:List Value} {vs:List IV},W9 w S us vs->(∀v∈vs,(X3 v).length=k) ->
  (∀u∈us,u.cells.size=k)/\W9 w S (us.flatMap λu=>u.cells.toList) (vs.map X3).flatten/\∀u∈us.flatMap λu=>u.cells.toList,u.oneCell'=true
 |[],[],_,_=>⟨by simp,⟨rfl,by simp⟩,by simp⟩
 |u::us,v::vs,h,hk=>by
  obtain⟨r1,r2⟩:=cellsI_rep (h.2 0 u v rfl rfl) (by rw[hk v (by simp)];exact hk0);obtain⟨r3,r4,r5⟩:=flat_reps hk0 (us:=us) (vs:=vs) ⟨by simpa using h.1,λi u x hu hx=>h.2 (i+1) u x (by simpa using hu) (by simpa using hx)⟩ λv hv=>hk v (by simp[hv]);have hl:u.cells.toList.length=k:=by rw[r1.1,hk v (by simp)]
  refine⟨λx hx=>?_,⟨by simp only[P1,L0,V6,D7,r1.1,r4.1],λi x y hx hy=>?_⟩,λx hx=>?_⟩
  ·rcases I2.1 hx with rfl|hx
   ·simpa using hl
   ·exact r3 x hx
  ·rw[P1,T8]at hx;rw[L0,V6,T8]at hy;rw[r1.1]at hx;split at hx
   ·rename_i a2;rw[if_pos a2]at hy;exact r1.2 i x y hx hy
   ·rename_i a2;rw[if_neg a2]at hy;exact r4.2 _ x y hx hy
  ·rw[P1]at hx;rcases K0.1 hx with hx|hx
   ·exact r2 x hx
   ·exact r5 x hx
 |[],_::_,h,_=>by have:=h.1;simp at this
 |_::_,[],h,_=>by have:=h.1;simp at this
def buildSlice_run{t et len k:Nat}{w:World}{parts:Array (Nat×Value)}{us:List Value}(hu:P.underlying t=some (.slice et))(hk:szOf P et=some k)(hz:nM P et k=true)(hb:∃b,byteOf P et=some b)(hk0:0<k)(hsm:len*k<=65536)(hl:us.length=len)(hp:parts.toList=(us.zipIdx 0).map λx=>(x.2,x.1))(hus:∀u∈us,u.cells.size=k) :
  (Instr.buildSlice t len parts).run P w=.ok (.slice (some ⟨w.heap.size,0,none⟩) len len) (w.alloc (.cells (us.flatMap λu=>u.cells.toList).toArray et)):=by
 obtain⟨b,hb⟩:=hb;obtain⟨i,z,hi,a5,a4,_,a6⟩:=tK hz hk hb
 have a2:∀cells:Array Value,cells.size=len*k->Instr.fill (λj=>some (j*k,k)) cells parts.toList=some (us.flatMap λu=>u.cells.toList).toArray:=λcells hc=>by
  rw[hp];exact Great.fill_whole hk0 us cells hus (by rw[hl,hc])
 by_cases h0:len*k=0
 ·have hf:=a2 ((Array.range (len*k)).map ((#[]:Array Value)[·%(#[]:Array Value).size]!)) (by simp);have a3:¬len*k > 2^24:=by omega
  simp[Instr.buildSlice,run_underlying hu,bH hk,a3,h0,newRow];simp[h0]at hf;rw[hf];simp
 ·have:=run_buildSlice (P:=P) w t et len parts (us.flatMap λu=>u.cells.toList).toArray i z hu hi a5 (by rw[a4];omega) (by rw[a4];exact h0) (by rw[a4];exact a2 _ (by simp));exact this
def aBuildSlice_ok{own:List Nat}{t:TypeId}{len:Nat}{parts:Array (Nat×Operand)}(hop:o.op=.buildSlice t len parts)(hd:J3 B.n o=true)(hbyt:∀et,V9 P t=some et->∃b,byteOf P et=some b)(h:zT P own o X K t len parts):∃fx,K fx/\Eff P B o fx.rd X fx.wr:=by
 unfold zT at h;split at h
 ·rename_i d et a2 b7;have b9:=bX b7;split at h
  ·rename_i k vs bs hk b2;obtain⟨b3,h⟩:=h.ok;simp only[M7]at b3;obtain⟨⟨⟨⟨c1,c2⟩,c3⟩,c4⟩,c5⟩:=b3;have a6:vs.length=len:=by simpa using c1
   have c6:=iG c2;have b0:=bK c3;have b5:∀v∈vs,(X3 v).length=k:=λv hv=>by simpa using O0.1 c5 v hv
   obtain⟨b8,h⟩:=h.out
   have E9:∀X' a w Y,SatR B X' a w Y->(∀y∈opdL (parts.toList.map (·.2)),X' y=X y)->O3 X X' bs->∃us:List Value,(execOp a.eval o).run P w=.ok (.value (.slice (some ⟨w.heap.size,0,none⟩) len len)) (w.alloc (.cells us.toArray et)) /\
     us.length=len*k/\W9 w (Imm B (app X' (fwr bs)) Y w) us (vs.map X3).flatten/\(∀u∈us,u.oneCell'=true):=λX' a w Y hs hag1 hsame=>by
    have c7:∀p∈bs,X'.gn p.1=p.2:=λp hp=>by
     rw[<- b8 p hp];exact V1 (hsame (.gen p.1) (by unfold frd;exact L6.2 ⟨p,hp,by simp⟩))
    obtain⟨r1,r2⟩:=IR hs c7 b2 hag1 hsame (λ_ h=>h);obtain⟨r3,r4,r5⟩:=flat_reps b0 r2 b5;have c0:=buildSlice_run (P:=P) (w:=w) (parts:=parts.map λp=>(p.1,a.eval p.2)) b9 hk c4 (hbyt et b7) b0 c6 (by rw[r2.1,a6]) (by rw[kW];exact r1) r3;refine⟨_,?_,?_,r4,r5⟩
    ·simp only[execOp,hop,Sem.run_bind,c0,Result.andThen_ok,Sem.run_pure]
    ·rw[r4.1,U5 (k:=k) (λx hx=>by obtain⟨v,hv,rfl⟩:=D8.1 hx;exact b5 v hv),E1,a6]
   have a5:∀x∈vs.map X3,x.length=k:=λx hx=>by obtain⟨v,hv,rfl⟩:=D8.1 hx;exact b5 v hv
   have c9:len<=65536:=S1 (Nat.le_mul_of_pos_right len b0) c6;split at h
   ·refine⟨_,h,λX' hag a w ⟨Y,hs⟩ K' Q hK=>?_⟩;obtain⟨us,run,a7,a4,a9⟩:=E9 X' a w Y hs (I4 (I4 hag)) (J6 (I4 hag));obtain⟨a3,_⟩:=hs.kills bs;unfold Oper.wp;rw[run,Oper.upon_value,a2];refine hK _ _ ⟨setY Y d (.slice (some ⟨w.heap.size,0,none⟩) len len),?_⟩
    have hg:(app X' (fwr bs)).gn d=X.gn d:=by
     rw[mL];exact V1 (J6 hag (.gen d) (by simp))
    have m:mJ (app X' (fwr bs)) w (w.alloc (.cells us.toArray et)) Y none (.slice (some ⟨w.heap.size,0,none⟩) len len) none :=
     ⟨World.grownBy_alloc w _ none,(λb e=>by cases e),λb e=>.inr (by simp only[G3,D4]at e;omega)⟩
    have c8:=a3.new (d:=d) (k:=.row et k (vs.map X3)) (cs:=[]) m rfl λhI _=>by
     refine⟨us,b0,a5,by rw[E1,a6];omega,?_,a4.1,a9,λi u x hu hx=>hI _ _ (a4.2 i u x hu hx)⟩;simp only[setY,if_pos,E1,a6];exact⟨a7,.inr ⟨w.heap.size,len,us.toArray,rfl,F8 _,heap_alloc_new w _,H4 _,by unfold maxLen;omega,by simpa using a7,by rw[<- a7];simp⟩⟩
    show SatR B (app X' (fwr bs++(M9 X d (.row et k (vs.map X3))++[(.tmp d,.av (.osl d (X.gn d+1)))]))) _ _ _;rw[O8];have:=mQ (X:=X) (X':=app X' (fwr bs)) (k:=.row et k (vs.map X3)) (cs:=[]) (v:=.osl d (X.gn d+1)) hg;simp only[P8,S5]at this;rw[this,<- hg];exact uT c8 rfl (aJ hd a2)
   ·split at h
    ·refine⟨_,h,λX' hag a w ⟨Y,hs⟩ K' Q hK=>?_⟩;obtain⟨us,run,a7,a4,a9⟩:=E9 X' a w Y hs (I4 hag) (J6 hag);obtain⟨a3,_⟩:=hs.kills bs;unfold Oper.wp;rw[run,Oper.upon_value,a2];have a8:Below w.heap.size w (w.alloc (.cells us.toArray et)):=(Below.refl _ _).alloc (H4 _) _;obtain⟨b6,hI⟩:=a3.world a8;refine hK _ _ ⟨Y,?_⟩;show SatR B (app X' (fwr bs++[(.tmp d,.av (.im (.nsl (vs.map X3))))])) _ _ _;rw[O8];refine b6.put (d:=some d) (λt e=>by injection e with e;subst e;exact aJ hd a2) (.im _ _ ?_);refine .nsl _ _ _ _ (.sl w.heap.size 0 len k len _ us (by rw[E1,a6]) a5 (H4 _) (by omega) ⟨.inr (.inl hs.bel.size),by simp,λp b4=>?_,λhz=>?_⟩ a4.1 a9 (λi u hu=>?_) λi u x hu hx=>hI _ _ (a4.2 i u x hu hx))
     ·have:=(a3.own p _ b4).2;omega
     ·have:=(a3.res _ hz).1.2;omega
     ·rw[J9];unfold World.cell?;simp only[heap_alloc_new];simpa using hu
    ·refine⟨_,h,λX' hag a w ⟨Y,hs⟩ K' Q hK=>?_⟩;obtain⟨us,run,a7,a4,a9⟩:=E9 X' a w Y hs (I4 hag) (J6 hag);obtain⟨a3,_⟩:=hs.kills bs;unfold Oper.wp;rw[run,Oper.upon_value,a2];have a8:Below w.heap.size w (w.alloc (.cells us.toArray et)):=(Below.refl _ _).alloc (H4 _) _;obtain⟨b6,hI⟩:=a3.world a8;refine hK _ _ ⟨Y,?_⟩;show SatR B (app X' (fwr bs++[(.tmp d,.av (.im (.sl (vs.map X3))))])) _ _ _;rw[O8];refine b6.put (d:=some d) (λt e=>by injection e with e;subst e;exact aJ hd a2) (.im _ _ ?_);refine .sl w.heap.size 0 len k len _ us (by rw[E1,a6]) a5 (H4 _) (by omega) ⟨.inr (.inl hs.bel.size),by simp,λp b4=>?_,λhz=>?_⟩ a4.1 a9 (λi u hu=>?_) λi u x hu hx=>hI _ _ (a4.2 i u x hu hx)
     ·have:=(a3.own p _ b4).2;omega
     ·have:=(a3.res _ hz).1.2;omega
     ·rw[J9];unfold World.cell?;simp only[heap_alloc_new];simpa using hu
  ·exact h.elim
 ·exact h.elim
end
end
section
section
variable {P:Program}{B:Base}{o:Oper}{X:St}{K:Fx->Prop}
def aAppendG_ok{c:Call}{t:TypeId}{x y:Operand}{b2 gc:Nat}(hop:o.op=.call c)(hc:c.callee=.builtin .append)(hargs:c.args=#[x,y])(hts:c.argTypes=#[t,t])(hy:evA X y=.osl b2 gc)(hd:J3 B.n o=true)(h:aAppendG P o X K t x y b2 gc):∃fx,K fx/\Eff P B o fx.rd X fx.wr:=False.elim h
end
end
section
open Go.RowKit Go.ChangeMaps
section
variable {P:Program}{B:Base}{o:Oper}{X:St}{K:Fx->Prop}
def xV{t e:TypeId}{n:Nat}(h:arrOf P t=some (n,e)):P.underlying t=some (.array n e):=by
 unfold arrOf at h;split at h
 ·rename_i n' e' hu;simp only[D4,G0]at h;rw[hu,h.1,h.2]
 ·cases h
def intArr_spec{t:TypeId}{n:Nat}(h:intArr P t=some n):∃e,P.underlying t=some (.array n e)/\P.underlying e=some (.int .i64)/\szOf P e=some 1:=by
 unfold intArr at h;split at h
 ·rename_i n' e he;split at h
  ·rename_i h1 h2;injection h with h
   subst h;exact⟨e,xV he,h1,h2⟩
  ·cases h
 ·cases h
def flat_sing{V G:Type}(f:V->G):∀cs:List V,(cs.map λv=>[f v]).flatten=cs.map f
 |[]=>rfl
 |c::cs=>by rw[L0,V6,flat_sing f cs];rfl
def aAllocA_ok{t:TypeId}(hop:o.op=.alloc t)(hd:J3 B.n o=true)(h:aAllocA P o X K t):∃fx,K fx/\Eff P B o fx.rd X fx.wr:=by
 unfold aAllocA at h;split at h
 ·rename_i d cs a4 hz;obtain⟨a2,h⟩:=h.ok;simp only[M7]at a2;have a5:=a2.1.1;have b0:=bK a2.1.2;have a9:=iG a2.2;have h:=h.out;refine⟨_,h,λX' hag a w ⟨Y,hs⟩ K' Q hK=>?_⟩;have hg:X'.gn d=X.gn d:=V1 (hag (.gen d) (by simp))
  obtain⟨z,a7,a6⟩:∃z:Value,(∀w,(zeroValue t).run P w=.ok z w)/\z.cells.toList=cs:=by
   unfold zeroOf at hz;split at hz
   ·rename_i i hi;cases hz0:i.zero with
    |none=>rw[hz0]at hz;cases hz
    |some z =>
     rw[hz0]at hz;simp only[L5,D4]at hz;exact⟨z,λw=>by simp[zeroValue,typeInfo,hi,hz0],hz⟩
   ·cases hz
  have run:(execOp a.eval o).run P w=.ok (.value (.pointer (some ⟨w.heap.size,0,none⟩))) (w.alloc (.cells cs.toArray t)):=by
   rw[<- a6];simp[execOp,hop,Instr.alloc,a7,newVar,newRow]
  unfold Oper.wp;rw[run,Oper.upon_value,a4]
  let hv:Value:=.slice (some ⟨w.heap.size,0,none⟩) cs.length cs.length
  refine hK _ _ ⟨setY Y d hv,?_⟩
  have m:mJ X' w (w.alloc (.cells cs.toArray t)) Y none hv none :=
   ⟨World.grownBy_alloc w _ none,(λb e=>by cases e),λb e=>.inr (by simp only[hv,G3,D4]at e;omega)⟩
  have a3:(cs.map λv=>[nz1 (IV.val v)]).flatten=cs.map λv=>nz1 (.val v):=flat_sing (λv=>nz1 (IV.val v)) cs
  have a8:=hs.new (d:=d) (k:=.row t 1 (cs.map λv=>[nz1 (.val v)])) (cs:=[]) m rfl λhI _=>by
   refine⟨cs,by omega,λx hx=>by obtain⟨u,_,rfl⟩:=D8.1 hx;rfl,by rw[E1];omega,?_,by rw[a3];simp,λu hu=>O0.1 a5 u hu,λi u x hu hx=>?_⟩
   ·simp only[setY,if_pos,E1];refine⟨by simp,.inr ⟨w.heap.size,cs.length,cs.toArray,rfl,F8 _,heap_alloc_new w _,H4 _,by unfold maxLen;omega,by simp,by simp⟩⟩
   ·rw[a3,K5,hu]at hx;injection hx with hx
    subst hx;exact lE (.val u)
  have:=mQ (X:=X) (X':=X') (k:=.row t 1 (cs.map λv=>[nz1 (.val v)])) (cs:=[]) (v:=.elt d (X.gn d+1) 1 0 0) hg;simp only[P8,S5]at this;show SatR B (app X' (M9 X d (.row t 1 (cs.map λv=>[nz1 (.val v)]))++[(.tmp d,.av (.elt d (X.gn d+1) 1 0 0))])) _ _ _;rw[this,<- hg];exact a8.put (d:=some d) (λt e=>by injection e with e;subst e;exact aJ hd a4) (.elt _ _ _ _ _ _ rfl (by rw[oH,if_pos rfl];omega) λ_=>⟨w.heap.size,0,cs.length,cs.length,by simp[setY,hv],by simp⟩)
 ·exact h.elim
def aAllocs_ok{t:TypeId}(hop:o.op=.alloc t)(hd:J3 B.n o=true)(h:aAllocs P o X K t):∃fx,K fx/\Eff P B o fx.rd X fx.wr:=by
 unfold aAllocs at h;split at h
 ·split at h
  ·exact aAlloc_ok hop hd h
  ·exact aAllocA_ok hop hd h
 ·exact aAlloc_ok hop hd h
def aIndexA_ok{t et:TypeId}{n:Nat}{x i:Operand}(hop:o.op=.indexAddr t x i)(ht:arrOf P t=some (n,et))(hd:J3 B.n o=true)(h:aIndexA P o X K n et x i):∃fx,K fx/\Eff P B o fx.rd X fx.wr:=by
 have hu:=xV ht;unfold aIndexA at h;split at h
 ·rename_i kk j m hi hm
  have run:∀(a:Act) w q p,a.eval x=.pointer (some ⟨q,p,none⟩)->a.eval i=.int kk j->0<=j->j<n->(execOp a.eval o).run P w=.ok (.value (.pointer (some ⟨q,p+j.toNat*m,none⟩))) w:=λa w q p hv hn h0 a3=>by
   have hz:=bH hm w;have h3:0<=j/\j<(n:Int):=⟨h0,a3⟩;simp only[execOp,hop,hv,hn,Instr.indexAt,asIntOf,Instr.sureAddr,Sem.run_bind,Sem.run_pure,Result.andThen_ok,run_underlying hu,if_pos h3,hz,addr_add]
  split at h
  ·rename_i b g k p q hx
   have a5:∀(X':St),(∀y∈opd x++opd i++[Loc.gen b],X' y=X y)->∀a w Y,SatR B X' a w Y->X.gn b=g->∃v,a.eval x=v/\RepA w (Imm B X' Y w) Y X'.gn v (.elt b g k p q)/\a.eval i=.int kk j/\X'.gn b=g:=λX' hag a w Y hs hg=>by
    have h1:=F7 hs x;have h2:=F7 hs i;rw[E8 (I4 (I4 hag)),hx]at h1;rw[E8 (J6 (I4 hag))]at h2;exact⟨_,rfl,h1,T5 hi h2,(V1 (J6 hag (.gen b) (by simp))).trans hg⟩
   split at h
   ·rename_i hc;simp only[M7,Nat.beq_eq]at hc;obtain⟨⟨⟨rfl,rfl⟩,rfl⟩,rfl⟩:=hc;obtain⟨⟨h0,a3,hg⟩,h⟩:=h.out;refine⟨_,h,Eff.pure hd λX' hag a w Y hs=>?_⟩;obtain⟨v,hv,h1,h2,hg'⟩:=a5 X' hag a w Y hs hg;cases h1 with
    |elt _ _ _ _ _ _ a2 hgg hh =>
     obtain⟨q0,z0,n0,c0,e1,e2⟩:=hh hg';subst e2;have a4:=run a w q0 (z0+(0*1+0)) hv h2 h0 a3;exact⟨_,a4,.elt _ b g 1 j.toNat 0 rfl hgg λ_=>⟨q0,z0,n0,c0,e1,by simp⟩⟩
   ·obtain⟨⟨h0,a3,hg⟩,h⟩:=h.out;refine⟨_,h,Eff.pure hd λX' hag a w Y hs=>?_⟩;obtain⟨v,hv,h1,h2,hg'⟩:=a5 X' hag a w Y hs hg;cases h1 with
    |elt _ _ _ _ _ _ a2 hgg hh =>
     obtain⟨q0,z0,n0,c0,e1,e2⟩:=hh hg';subst e2;have a4:=run a w q0 _ hv h2 h0 a3;exact⟨_,a4,.elt _ b g k p (q+j.toNat*m) rfl hgg λ_=>⟨q0,z0,n0,c0,e1,by rw[U7,U7]⟩⟩
  ·rename_i cs hx;obtain⟨⟨h0,a3⟩,h⟩:=h.out;refine⟨_,h,Eff.pure hd λX' hag a w Y hs=>?_⟩;have h1:=F7 hs x;have h2:=F7 hs i;rw[E8 (I4 hag),hx]at h1;rw[E8 (J6 hag)]at h2;have hn:=T5 hi h2;have h1:=h1.im_inv;generalize hv:a.eval x=v at h1;cases h1 with
   |ref b q us _ hS hl a2 hu' hr =>
    refine⟨_,run a w b q hv hn h0 a3,.im _ _ (.ref b (q+j.toNat*m) (us.drop (j.toNat*m)) (cs.drop (j.toNat*m)) hS (by simp[hl]) (λu a6=>a2 u (V7 a6)) (λp u hj=>?_) λp u y hj hy=>?_)⟩
    ·rw[W6]at hj;have:=hu' _ u hj
     rwa [<- U7]at this
    ·rw[W6]at hj hy;exact hr _ u y hj hy
  ·rename_i b g p hx;obtain⟨⟨h0,a3,hg⟩,h⟩:=h.out;refine⟨_,h,Eff.pure hd λX' hag a w Y hs=>?_⟩;have h1:=F7 hs x;have h2:=F7 hs i;rw[E8 (I4 (I4 hag)),hx]at h1;rw[E8 (J6 (I4 hag))]at h2;have hn:=T5 hi h2;have hg':=(V1 (J6 hag (.gen b) (by simp))).trans hg;generalize hv:a.eval x=v at h1;cases h1 with
   |own _ _ _ _ a2 hgg hh =>
    obtain⟨q,e1,e2⟩:=hh hg';exact⟨_,run a w q p (hv.trans e2) hn h0 a3,.own _ b g (p+j.toNat*m) rfl hgg λ_=>⟨q,e1,rfl⟩⟩
  ·exact h.elim
 ·exact h.elim
def flat_ones{V:Type}:∀{es:List (List V)},(∀x∈es,x.length=1)->es.flatten.length=es.length
 |[],_=>rfl
 |x::es,h=>by
  rw[V6,D7,flat_ones λy hy=>h y (by simp[hy]),h x (by simp),H7];omega
def aLoadA_ok{t:TypeId}{p:Operand}{b g k i j:Nat}(hop:o.op=.load t p)(hp:evA X p=.elt b g k i j)(hw:wholeA P t k=true)(hd:J3 B.n o=true)(h:aLoadA P o X K t p b g k i j):∃fx,K fx/\Eff P B o fx.rd X fx.wr:=by
 have a3:fO P t=some true:=by
  unfold wholeA at hw;split at hw
  ·rename_i n hn;obtain⟨e,hu,_⟩:=intArr_spec hn;unfold fO;rw[hu];rfl
  ·cases hw
 unfold aLoadA at h;split at h
 ·rename_i t' k' es m a9 hm;obtain⟨hc,h⟩:=h.ok;simp only[M7,Nat.beq_eq]at hc;obtain⟨⟨⟨rfl,rfl⟩,rfl⟩,rfl⟩:=hc;obtain⟨⟨hg,a4⟩,h⟩:=h.out;have h:=h.out;refine⟨_,h,Eff.pure hd λX' hag a w Y hs=>?_⟩;obtain⟨a7,hg',a8,_⟩:=Z7 hag;have h1:=F7 hs p;rw[E8 a7,hp]at h1;have ho:=hs.obs b;rw[a8.trans a9]at ho;obtain⟨us,h2,h3,h4,h5,h6,h7,h8⟩:=ho;generalize hv:a.eval p=v at h1;cases h1 with
  |elt _ _ _ _ _ _ a2 hgg hh =>
   obtain⟨q,z,n,c,e1,e2⟩:=hh (hg'.trans hg)
   have a6:z=0:=by
    rcases h5.2 with⟨f,_⟩|⟨_,_,_,f,_⟩
    ·rw[f]at e1;cases e1
    ·rw[f]at e1;injection e1 with e1 _ _
     injection e1 with e1
     injection e1 with _ e1
     exact e1.symm
   subst a6;rw[J9]at e2;subst e2;have a5:us.length=m:=by rw[h6,flat_ones h3,a4]
   refine⟨.agg us.toArray,?_,.im _ _ (.agg us _ h6 h7 h8)⟩
   have:=tT (P:=P) (t:=t) (us:=us) a3 (by rw[a5];exact hm) (b:=q) (q:=0*1+0) (w:=w) (λp u hu=>by
    have:=h5.cells (g:=q) (by rw[e1];rfl) p u hu
    rw[addr_add,J9]at this
    simpa using this)
   have hr:(Instr.loadAt t (a.eval p)).run P w=.ok (.agg us.toArray) w:=by rw[hv];exact this
   simp[execOp,hop,hr]
 ·exact h.elim
def aLenM_ok{c:Call}{t kt et:TypeId}{ts:List TypeId}{x:Operand}{b g:Nat}{l:List (Value×Value)}(hop:o.op=.call c)(hc:c.callee=.builtin .len)(ha:c.args.toList=[x])(ht:c.argTypes.toList=t::ts)(hm:mapTy P t=some (kt,et))(hx:evA X x=.osl b g)(hkd:X.kd b=.map l)(hd:J3 B.n o=true)(h:aLenM o X K x b g l):∃fx,K fx/\Eff P B o fx.rd X fx.wr:=False.elim h
def aLookupA_ok{n:Nat}{t:TypeId}{x i:Operand}{ok:Bool}(hop:o.op=.lookup t x i ok)(hka:keyArr P t=some n)(hd:J3 B.n o=true)(h:aLookupA P o X K n t x i ok):∃fx,K fx/\Eff P B o fx.rd X fx.wr:=False.elim h
def aMapUpdateA_ok{n:Nat}{t:TypeId}{x i y:Operand}(hop:o.op=.mapUpdate t x i y)(hka:keyArr P t=some n)(hd:J3 B.n o=true)(h:zq26 P o X K n t x i y):∃fx,K fx/\Eff P B o fx.rd X fx.wr:=False.elim h
end
end
section
section
variable {P:Program}{B:Base}{o:Oper}{X:St}{K:Fx->Prop}
def EE{V:Type}{p:V->Prop}:∀(ds cs:List V) (i:Nat),(∀x∈cs,p x)->(∀x∈ds,p x)->∀x∈eP cs i ds,p x
 |[],cs,i,h,_=>h
 |d::ds,cs,i,h,k=>by
  rw[eP];refine EE ds _ _ (λx hx=>?_) λx hx=>k x (by simp[hx]);rcases sZ hx with h1|h1
  ·exact h x h1
  ·rw[h1];exact k d (by simp)
def ET(off:Nat):∀(vs:List Value) (j:Nat) (cells:Array Value),((vs.zipIdx j).foldl (λcs (p:Value×Nat)=>cs.setIfInBounds (off+p.2) p.1) cells).toList=eP cells.toList (off+j) vs
 |[],j,cells=>rfl
 |v::vs,j,cells=>by
  rw[List.zipIdx_cons,wV,ET off vs,eP,Array.toList_setIfInBounds,U7]
def EO{w:World}{S:Nat->Prop}{Y:Ly}{E:Nat->Nat}:∀{vs:List Value} {ds:List AV} {us:List Value} {cs:List AV} (i:Nat),Reps w S Y E us cs->Reps w S Y E vs ds->Reps w S Y E (eP us i vs) (eP cs i ds)
 |[],[],us,cs,i,h,_=>h
 |v::vs,d::ds,us,cs,i,h,k=>by
  rw[eP,eP];refine EO (i+1) ⟨by simpa using h.1,λj u x hu hx=>?_⟩ ⟨by simpa using k.1,λj u x hu hx=>k.2 (j+1) u x (by simpa using hu) (by simpa using hx)⟩;rw[GY]at hu hx;by_cases e:i=j
  ·rw[if_pos e]at hu hx;split at hu
   ·rename_i h1;rw[if_pos (by rw[<- h.1];exact h1)]at hx;injection hu with hu
    injection hx with hx
    rw[<- hu,<- hx];exact k.2 0 v d rfl rfl
   ·cases hu
  ·rw[if_neg e]at hu hx;exact h.2 j u x hu hx
 |[],_::_,_,_,_,_,h=>by have:=h.1;simp at this
 |_::_,[],_,_,_,_,h=>by have:=h.1;simp at this
def plc_get{t:TypeId}{ps:E7}(h:plcOf P t=some ps){i off ft m:Nat}(hf:fldOf P t i=some (off,ft))(hm:szOf P ft=some m):ps.toArray[i]?=some (off,m):=by
 obtain⟨fs,x,hu,hx,ho,ht⟩:=fld_spec hf;unfold plcOf at h;rw[hu]at h;simp only at h
 have key:∀(l:List Field) (ps:E7),l.mapM (λf=>(P.info? f.type).map λi=>(f.offset,i.size))=some ps->∀(i:Nat) x,l[i]?=some x->∀m,szOf P x.type=some m->ps[i]?=some (x.offset,m):=by
  intro l
  induction l with
  |nil=>intro ps _ i x hx;simp at hx
  |cons f l ih =>
   intro ps hp i x hx m hm;simp only[List.mapM_cons,Option.bind_eq_bind,Option.pure_def]at hp;cases hi:P.info? f.type with
   |none=>simp[hi]at hp
   |some ii =>
    cases hr:l.mapM (λf=>(P.info? f.type).map λi=>(f.offset,i.size)) with
    |none=>simp[hi,hr]at hp
    |some rest =>
     simp[hi,hr]at hp;subst hp;cases i with
     |zero =>
      simp at hx;subst hx;unfold szOf at hm;rw[hi]at hm;simp at hm;simp[hm]
     |succ i=>simpa using ih rest hr i x (by simpa using hx) m hm
 have:=key fs.toList ps h i x (by rw[T7];exact hx) m (by rw[ht];exact hm);rw[<- ho];simpa using this
def zq51{t:TypeId}{ps:E7}(hps:plcOf P t=some ps){X':St}{a:Act}{w:World}{Y:Ly}(h:SatR B X' a w Y):∀{l:List (Nat×Operand)} {cs cs':List AV} {cells:Array Value},buildA P t X l cs=some cs'->(∀y∈opdL (l.map (·.2)),X' y=X y) ->
  Reps w (Imm B X' Y w) Y X'.gn cells.toList cs->(∀u∈cells.toList,u.oneCell'=true)->∃cells',Instr.fill (ps.toArray[·]?) cells (l.map λp=>(p.1,a.eval p.2))=some cells'/\Reps w (Imm B X' Y w) Y X'.gn cells'.toList cs'/\∀u∈cells'.toList,u.oneCell'=true
 |[],cs,cs',cells,e,_,hr,h1=>by
  simp only[buildA,D4]at e;subst e;exact⟨cells,rfl,hr,h1⟩
 |(i,x)::l,cs,cs',cells,e,hag,hr,h1=>by
  simp only[buildA]at e;split at e
  ·rename_i off ft vs hf hc;split at e
   ·rename_i m hm;split at e
    ·rename_i hchk;rw[M7]at hchk;have hml:m=vs.length:=by simpa using hchk.1
     have a5:=iG hchk.2;have hx:=F7 h x;rw[E8 λy hy=>hag y (by simp only[L0,opdL,P1];exact M1 _ hy)]at hx;have r1:=oO hc hx;have r2:=oX hc hx;have a6:(a.eval x).cells.size=m:=by rw[hml,<- r1.1];simp
     have a2:=ET off (a.eval x).cells.toList 0 cells;rw[W7]at a2;generalize a3:((a.eval x).cells.zipIdx.foldl (λcs (p:Value×Nat)=>cs.setIfInBounds (off+p.2) p.1) cells)=cells1
     have a4:cells1.toList=eP cells.toList off (a.eval x).cells.toList:=by
      rw[<- a2,<- a3,<- Array.foldl_toList,Array.toList_zipIdx]
     obtain⟨cells',q1,q2,q3⟩:=zq51 hps h (l:=l) (cells:=cells1) e (λy hy=>hag y (by simp only[L0,opdL,P1];exact M2 _ hy)) (by rw[a4];exact EO off hr r1) (by rw[a4];exact EE _ _ _ h1 r2);refine⟨cells',?_,q2,q3⟩;rw[<- q1,<- a3]
     have hg:¬((a.eval x).cells.size≠m\/off+(a.eval x).cells.size > cells.size):=by
      have:=hr.1;simp at this;omega
     simp only[L0,Instr.fill,plc_get hps hf hm];rw[if_neg (by simpa using hg)]
    ·cases e
   ·cases e
  ·cases e
def aBuild_ok{t:TypeId}{parts:Array (Nat×Operand)}(hop:o.op=.build t parts)(hd:J3 B.n o=true)(h:aBuild P o X K t parts):∃fx,K fx/\Eff P B o fx.rd X fx.wr:=by
 unfold aBuild at h;split at h
 ·rename_i z hz;split at h
  ·rename_i cs a8;obtain⟨a2,h⟩:=h.ok;rw[M7]at a2;refine⟨_,h,Eff.pure hd λX' hag a w Y hs=>?_⟩;obtain⟨ps,a3⟩:=ML.1 a2.1
   obtain⟨it,zv,a6,a4,a5⟩:∃it zv,P.info? t=some it/\it.zero=some zv/\zv.cells.toList=z:=by
    unfold zeroOf at hz;split at hz
    ·rename_i i hi;cases a4:i.zero with
     |none=>rw[a4]at hz;cases hz
     |some zv =>
      rw[a4]at hz;simp only[L5,D4]at hz;exact⟨i,zv,hi,a4,hz⟩
    ·cases hz
   obtain⟨fs,hu,a7⟩:∃fs,P.underlying t=some (.struct fs)/\fs.toList.mapM (λf=>(P.info? f.type).map λi=>(f.offset,i.size))=some ps:=by
    unfold plcOf at a3;split at a3
    ·rename_i fs hu;exact⟨fs,hu,a3⟩
    ·cases a3
   obtain⟨cells',q1,q2,q3⟩:=zq51 a3 hs (cells:=zv.cells) a8 hag (by rw[a5];exact⟨by simp,λi u y hu hy=>by
    simp only[K5,hu,L5,D4]at hy
    rw[<- hy]
    exact .im _ _ (.val _)⟩) (by rw[a5];exact λu hu=>O0.1 a2.2 u hu)
   refine⟨.agg cells',?_,by simpa using tJ q2 q3⟩
   have hb:P.built t (parts.map λ(i,x)=>(i,a.eval x)).toList=some cells':=by
    unfold Program.built;simp only[a6,hu,a4,a7,kW];exact q1
   simp only[execOp,hop,Sem.run_bind,run_build w t _ cells' hb,Result.andThen_ok,Sem.run_pure]
  ·exact h.elim
 ·exact h.elim
def IB{pl:Nat->Option (Nat×Nat)}{X':St}{a:Act}{w:World}{Y:Ly}(h:SatR B X' a w Y):∀{l:List (Nat×Operand)} {cs cs':List AV} {cells:Array Value},buildG pl X l cs=some cs'->(∀y∈opdL (l.map (·.2)),X' y=X y) ->
  Reps w (Imm B X' Y w) Y X'.gn cells.toList cs->(∀u∈cells.toList,u.oneCell'=true)->∃cells',Instr.fill pl cells (l.map λp=>(p.1,a.eval p.2))=some cells'/\Reps w (Imm B X' Y w) Y X'.gn cells'.toList cs'/\∀u∈cells'.toList,u.oneCell'=true
 |[],cs,cs',cells,e,_,hr,h1=>by
  simp only[buildG,D4]at e;subst e;exact⟨cells,rfl,hr,h1⟩
 |(i,x)::l,cs,cs',cells,e,hag,hr,h1=>by
  simp only[buildG]at e;split at e
  ·rename_i off m vs hf hc;split at e
   ·rename_i hchk;rw[M7]at hchk;have hml:m=vs.length:=by simpa using hchk.1
    have a5:=iG hchk.2;have hx:=F7 h x;rw[E8 λy hy=>hag y (by simp only[L0,opdL,P1];exact M1 _ hy)]at hx;have r1:=oO hc hx;have r2:=oX hc hx;have a6:(a.eval x).cells.size=m:=by rw[hml,<- r1.1];simp
    have a2:=ET off (a.eval x).cells.toList 0 cells;rw[W7]at a2;generalize a3:((a.eval x).cells.zipIdx.foldl (λcs (p:Value×Nat)=>cs.setIfInBounds (off+p.2) p.1) cells)=cells1
    have a4:cells1.toList=eP cells.toList off (a.eval x).cells.toList:=by
     rw[<- a2,<- a3,<- Array.foldl_toList,Array.toList_zipIdx]
    obtain⟨cells',q1,q2,q3⟩:=IB h (l:=l) (cells:=cells1) e (λy hy=>hag y (by simp only[L0,opdL,P1];exact M2 _ hy)) (by rw[a4];exact EO off hr r1) (by rw[a4];exact EE _ _ _ h1 r2);refine⟨cells',?_,q2,q3⟩;rw[<- q1,<- a3]
    have hg:¬((a.eval x).cells.size≠m\/off+(a.eval x).cells.size > cells.size):=by
     have:=hr.1;simp at this;omega
    simp only[L0,Instr.fill,hf];rw[if_neg (by simpa using hg)]
   ·cases e
  ·cases e
def aBuildR_ok{t et:TypeId}{n:Nat}{parts:Array (Nat×Operand)}(hop:o.op=.build t parts)(ht:arrOf P t=some (n,et))(hd:J3 B.n o=true)(h:aBuildR P o X K t et parts):∃fx,K fx/\Eff P B o fx.rd X fx.wr:=by
 unfold aBuildR at h;split at h
 ·rename_i z m hz hm;split at h
  ·rename_i cs a6;obtain⟨a3,h⟩:=h.ok;refine⟨_,h,Eff.pure hd λX' hag a w Y hs=>?_⟩
   obtain⟨it,zv,a5,a2,a4⟩:∃it zv,P.info? t=some it/\it.zero=some zv/\zv.cells.toList=z:=by
    unfold zeroOf at hz;split at hz
    ·rename_i i hi;cases a2:i.zero with
     |none=>rw[a2]at hz;cases hz
     |some zv =>
      rw[a2]at hz;simp only[L5,D4]at hz;exact⟨i,zv,hi,a2,hz⟩
    ·cases hz
   obtain⟨ie,a7,a8⟩:∃ie,P.info? et=some ie/\ie.size=m:=by
    unfold szOf at hm;cases hi:P.info? et with
    |none=>rw[hi]at hm;cases hm
    |some i =>
     rw[hi]at hm;simp only[L5,D4]at hm;exact⟨i,rfl,hm⟩
   obtain⟨cells',q1,q2,q3⟩:=IB hs (cells:=zv.cells) a6 hag (by rw[a4];exact⟨by simp,λi u y hu hy=>by
    simp only[K5,hu,L5,D4]at hy
    rw[<- hy]
    exact .im _ _ (.val _)⟩) (by rw[a4];exact λu hu=>O0.1 a3 u hu)
   refine⟨.agg cells',?_,by simpa using tJ q2 q3⟩
   have hb:P.built t (parts.map λ(i,x)=>(i,a.eval x)).toList=some cells':=by
    unfold Program.built;simp only[a5,xV ht,a2,a7,a8,kW];exact q1
   simp only[execOp,hop,Sem.run_bind,run_build w t _ cells' hb,Result.andThen_ok,Sem.run_pure]
  ·exact h.elim
 ·exact h.elim
def aIndexX_ok{t:TypeId}{x i:Operand}(hop:o.op=.index t x i)(hd:J3 B.n o=true)(h:aIndexX P o X K t x i):∃fx,K fx/\Eff P B o fx.rd X fx.wr:=by
 unfold aIndexX at h;split at h
 ·rename_i n et cs k j ht a7 hj;split at h
  ·rename_i m a4 hm;obtain⟨hi,h'⟩:=h.ok;clear h;rw[M7]at hi;have hn:n=2:=by simpa using hi.1
   have a9:=iG hi.2;subst hn;have hu:=xV ht
   have a3:∀(q:Nat),j=(q:Int)->q<2->∀X',(∀l∈opd x++opd i,X' l=X l)->∀a w Y,SatR B X' a w Y->∃u,(execOp a.eval o).run P w=.ok (.value u) w/\RepA w (Imm B X' Y w) Y X'.gn u (aggA ((cs.drop (q*m)).take m)):=λq hq hq2 X' hag a w Y hs=>by
    have h1:=F7 hs x;rw[E8 (I4 hag)]at h1;have h2:=F7 hs i;rw[E8 (J6 hag)]at h2;obtain⟨us,hv,hr,a2⟩:=CO a7 h1;have a6:=T5 hj h2;have ha:=agg_run a4 w;have hz:=bH hm w;refine⟨.agg ((us.drop (q*m)).take m).toArray,?_,tJ ⟨by simp[hr.1],λj u y hj a8=>?_⟩ λu a5=>a2 u (V7 (Q1 a5))⟩
    ·have e1:(0:Int)<=j/\j<2:=by omega
     have e2:j.toNat=q:=by omega
     simp[execOp,hop,hv,a6,Instr.index,asIntOf,run_underlying hu,part,ha,hz,e1,e2]
    ·exact hr.2 _ u y (iY hj).1 (iY a8).1
   have h:=h'.out;by_cases e:j=0
   ·refine⟨_,h.1 (D3 e),Eff.pure hd λX' hag a w Y hs=>?_⟩;have:=a3 0 (by omega) (by omega) X' hag a w Y hs;simpa using this
   ·obtain⟨h1,h⟩:=(h.2 (E2 e)).out;refine⟨_,h,Eff.pure hd λX' hag a w Y hs=>?_⟩;have:=a3 1 (by omega) (by omega) X' hag a w Y hs;simpa using this
  ·exact h.elim
 ·exact h.elim
def bytes_of_size{t:TypeId}{k:Nat}(h:szOf P t=some k):∃b,byteOf P t=some b:=by
 unfold szOf at h;unfold byteOf;cases hi:P.info? t with
 |none=>rw[hi]at h;cases h
 |some i=>exact⟨i.bytes,rfl⟩
def aOp_ok{C:FuncId->List Arg->Rs->Prop}(hC:∀g xs r,C g xs r->SpX P g xs r){own:List Nat}(hd:J3 B.n o=true)(h:aOp P own o X K C):∃fx,K fx/\Eff P B o fx.rd X fx.wr:=by
 unfold aOp at h;split at h
 ·rename_i x a2;exact aMoves_ok (.inl a2) hd h
 ·rename_i x a2;exact aMoves_ok (.inr a2) hd h
 ·rename_i c x y a2;exact aPick_ok a2 hd h
 ·rename_i t p a2;unfold aLoads at h;split at h
  ·rename_i hp;exact aLoadS_ok a2 hp hd h
  ·rename_i hp;split at h
   ·exact aLoadG_ok a2 hp hd h
   ·split at h
    ·rename_i hw;exact aLoadA_ok a2 hp hw hd h
    ·exact aLoad_ok a2 hd h
  ·exact aLoad_ok a2 hd h
 ·rename_i t p x a2;split at h
  ·rename_i hp;split at h
   ·exact aStoreG_ok a2 hp hd h
   ·exact aStoreE_ok a2 hd hp h
  ·rename_i hp;exact aStoreS_ok a2 hp hd h
  ·exact aStore_ok a2 hd h
 ·rename_i t x a2;exact aBox_ok a2 hd h
 ·rename_i t a2;exact aAllocs_ok a2 hd h
 ·rename_i t p f a2;exact aFieldAddr_ok a2 hd h
 ·rename_i t x f a2;exact aField_ok a2 hd h
 ·rename_i t x i a2;unfold aIndexes at h;split at h
  ·rename_i hx;exact aIndexV_ok a2 hx hd h
  ·rename_i hx;exact aIndexS_ok a2 hx hd h
  ·rename_i hx;split at h
   ·exact aIndexG_ok a2 hx hd h
   ·exact JS a2 hd h
  ·split at h
   ·rename_i ht;exact aIndexA_ok a2 ht hd h
   ·exact JS a2 hd h
 ·rename_i t x lo hi mx a2;cases mx with
  |some m=>exact aSlice3_ok a2 hd h
  |none =>
  replace h:aSlices P o X K t x lo hi:=h;unfold aSlices at h;split at h
  ·rename_i hx;split at h
   ·split at h
    ·exact aSliceQ_ok a2 hx hd h
    ·exact aSliceV_ok a2 hx hd h
   ·exact aSliceT_ok a2 hx hd h
   ·exact h.elim
  ·exact aSlice_ok a2 hd h
 ·rename_i t parts a2;unfold aBuilds at h;split at h
  ·rename_i ht;exact aBuildR_ok a2 ht hd h
  ·exact aBuild_ok a2 hd h
 ·rename_i t x i a2;exact aIndexX_ok a2 hd h
 ·rename_i t len parts a2;split at h
  ·rename_i d0 b2;split at h
   ·split at h<;>exact False.elim h
   ·refine aBuildSlice_ok a2 hd (λet b0=>?_) h;unfold zT at h;split at h
    ·rename_i d b4 b3 a6;rw[b0]at a6;injection a6 with a6
     subst a6;split at h
     ·rename_i k vs bs hk _;exact bytes_of_size hk
     ·exact h.elim
    ·exact h.elim
  ·exact h.elim
 ·rename_i x i a2;exact aExtract_ok a2 hd h
 ·rename_i op t x y t' a2;unfold aBins at h;split at h
  ·exact aBinS_ok a2 hd h
  ·split at h
   ·rename_i hp;exact aBinN_ok a2 hp hd h
   ·split at h
    ·rename_i hp;exact aBinZ_ok a2 hp hd h
    ·exact aBin_ok a2 hd h
 ·rename_i op t x a2;exact aUn_ok a2 hd h
 ·rename_i src dst x a2;obtain⟨hm,h⟩:=h.ok;exact aConvert_ok a2 hd (ML.1 hm) h
 ·rename_i fn first a9 a2;exact aMakeFunc_ok a2 hd h
 ·rename_i x a2;exact aNilCheck_ok a2 hd h
 ·rename_i t len b5 a2;exact aMakeSlice_ok a2 hd h
 ·rename_i t r a2;exact aMakeMap_ok a2 hd h
 ·rename_i t x i ok a2;split at h
  ·rename_i a7;exact aLookupA_ok a2 a7 hd h
  ·exact aLookup_ok a2 hd h
 ·rename_i t x i y a2;split at h
  ·rename_i a7;exact aMapUpdateA_ok a2 a7 hd h
  ·exact aMapUpdate_ok a2 hd h
 ·rename_i c a2;unfold aCalls at h;split at h
  ·rename_i b a4;unfold aBuiltin at h;split at h
   ·split at h
    ·rename_i x a3;split at h
     ·rename_i t ts a5;unfold aLens at h;split at h
      ·rename_i hx;split at h
       ·rename_i he;exact aLenV_ok a2 a4 a3 a5 he hx hd h
       ·exact h.elim
      ·rename_i hx;split at h
       ·rename_i he;exact aLenS_ok a2 a4 a3 a5 he hx hd h
       ·exact h.elim
      ·rename_i hx;split at h
       ·split at h
        ·rename_i he;exact aLenG_ok a2 a4 a3 a5 he hx hd h
        ·exact h.elim
       ·split at h
        ·rename_i hm hk;exact aLenM_ok a2 a4 a3 a5 hm hx hk hd h
        ·exact aLen_ok a2 a4 a3 a5 hd h
      ·exact aLen_ok a2 a4 a3 a5 hd h
     ·exact h.elim
    ·exact h.elim
   ·split at h
    ·rename_i x y a3;split at h
     ·rename_i t t' a5;obtain⟨a8,h⟩:=h.ok;have a8:t'=t:=by simpa using a8
      subst a8;split at h
      ·rename_i hx;split at h
       ·rename_i hy;exact aAppendT_ok a2 a4 (by rw[<- nQ (xs:=c.args),a3]) (by rw[<- nQ (xs:=c.argTypes),a5]) hx hy hd h
       ·exact aAppendS_ok a2 a4 (by rw[<- nQ (xs:=c.args),a3]) (by rw[<- nQ (xs:=c.argTypes),a5]) hx hd h
      ·split at h
       ·rename_i hy;exact aAppendG_ok a2 a4 (by rw[<- nQ (xs:=c.args),a3]) (by rw[<- nQ (xs:=c.argTypes),a5]) hy hd h
       ·exact aAppend_ok a2 a4 (by rw[<- nQ (xs:=c.args),a3]) (by rw[<- nQ (xs:=c.argTypes),a5]) hd h
     ·exact h.elim
    ·exact h.elim
   ·split at h
    ·rename_i x y a3;exact aMax_ok a2 a4 a3 hd h
    ·exact h.elim
   ·split at h
    ·rename_i x y a3;exact aMin_ok a2 a4 a3 hd h
    ·rename_i x y z a3;exact aMin3_ok a2 a4 a3 hd h
    ·exact h.elim
   ·split at h
    ·rename_i x t ts a3 a5;exact aClear_ok a2 a4 a3 a5 hd h
    ·exact h.elim
   ·split at h
    ·rename_i x y t t' a3 a5;exact aCopy_ok a2 a4 a3 a5 hd h
    ·exact h.elim
   ·split at h
    ·rename_i x y t t' a3 a5;exact aDelete_ok a2 a4 a3 a5 hd h
    ·exact h.elim
   ·exact h.elim
  ·rename_i f a4;split at h
   ·split at h
    ·exact aCallH_ok hC a2 a4 hd h
    ·split at h
     ·split at h
      ·exact aCallR_ok hC a2 a4 hd h
      ·exact aCallA_ok hC a2 a4 hd h
     ·exact aCall_ok hC a2 a4 hd h
   ·exact h.elim
  ·exact h.elim
 ·exact h.elim
def EffG(P:Program)(B:Base)(ops:Array Oper)(o:Oper)(rd:List Loc)(X:St)(wr:List (Loc×Ct)):Prop :=
 ∀X',(∀l∈rd,X' l=X l)->∀a w,Sat B X' a w->∀(K:Act->World->Prop) (Q:Exit->Act->World->Prop),(∀a' w',Sat B (app X' wr) a' w'->K a' w') ->
  if Region.wanted o (yielded ops a.tmps)=true then o.wp P a w K Q else K (a.put o.dst undef) w
def aGuard_ok{C:FuncId->List Arg->Rs->Prop}(hC:∀g xs r,C g xs r->SpX P g xs r){own:List Nat}{ops:Array Oper}(h:aGuard P C B.n own ops.toList o X K):∃fx,K fx/\EffG P B ops o fx.rd X fx.wr:=by
 unfold aGuard at h;obtain⟨hd,h⟩:=h.ok;split at h
 ·rename_i hg;obtain⟨fx,hk,he⟩:=aOp_ok (B:=B) hC hd h;refine⟨fx,hk,λX' hag a w hs K' Q hK=>?_⟩;have:Region.wanted o (yielded ops a.tmps)=true:=by simp[Region.wanted,hg]
  rw[if_pos this];exact he X' hag a w hs K' Q hK
 ·rename_i j a2 hg;split at h
  ·rename_i t ht;split at h
   ·rename_i b hb
    have hy:∀X' a w,X' (.tmp t)=X (.tmp t)->Sat B X' a w->yielded ops a.tmps j=some b:=λX' a w hag ⟨Y,hs⟩=>by
     have h1:=hs.tms t;have e:X'.av t=X.av t:=by unfold St.av;rw[hag]
     rw[e]at h1;have h2:=rP hb h1;have hj:(ops[j]?).bind (·.dst)=some t:=by rw[<- T7];exact ht
     have a3:a.tmps[t]?=some (.bool b):=by
      rw[CG]at h2;cases hc:a.tmps[t]? with
      |none=>rw[hc]at h2;cases h2
      |some v=>rw[hc]at h2;simp only[Q3]at h2;rw[h2]
     unfold yielded;rw[hj];simp only[N9,a3]
    have hw:∀X' a w,X' (.tmp t)=X (.tmp t)->Sat B X' a w->Region.wanted o (yielded ops a.tmps)=(b==a2):=λX' a w hag hs=>by
     simp only[Region.wanted,hg,hy X' a w hag hs];cases b<;>cases a2<;>rfl
    have h:=h.out;cases hbw:(b==a2) with
    |true =>
     obtain⟨fx,hk,he⟩:=aOp_ok (B:=B) hC hd (h.1 hbw);refine⟨_,hk,λX' hag a w hs K' Q hK=>?_⟩;rw[if_pos (by rw[hw X' a w (hag _ (by simp)) hs];exact hbw)];exact he X' (λl hl=>hag l (by simp[hl])) a w hs K' Q hK
    |false =>
     refine⟨_,h.2 hbw,λX' hag a w hs K' Q hK=>?_⟩;rw[if_neg (by rw[hw X' a w (hag _ (by simp)) hs,hbw];simp)];obtain⟨Y,hs⟩:=hs;exact hK _ _ ⟨Y,hs.put (gW hd) (S8 _)⟩
   ·split at h
    ·rename_i v hv;obtain⟨a4,h⟩:=h.ok
     have hw:∀X' a w,X' (.tmp t)=X (.tmp t)->Sat B X' a w->Region.wanted o (yielded ops a.tmps)=false:=λX' a w hag ⟨Y,hs⟩=>by
      have h1:=hs.tms t;have e:X'.av t=X.av t:=by unfold St.av;rw[hag]
      rw[e,hv]at h1;have h2:=h1.im_inv;have hj:(ops[j]?).bind (·.dst)=some t:=by rw[<- T7];exact ht
      have hy:yielded ops a.tmps j=none:=by
       unfold yielded;rw[hj];simp only[N9];cases hc:a.tmps[t]? with
       |none=>rfl
       |some u =>
        have e2:a.tmps.getD t undef=u:=by rw[CG,hc];rfl
        rw[e2]at h2;obtain rfl:u=v:=by cases h2;rfl
        cases u<;>first|rfl|(cases a4)
      simp only[Region.wanted,hg,hy];rfl
     refine⟨_,h,λX' hag a w hs K' Q hK=>?_⟩;rw[if_neg (by rw[hw X' a w (hag _ (by simp)) hs];simp)];obtain⟨Y,hs⟩:=hs;exact hK _ _ ⟨Y,hs.put (gW hd) (S8 _)⟩
    ·exact h.elim
  ·exact h.elim
end
inductive Runs(P:Program)(B:Base)(ops:Array Oper):List Nat->St->List (Nat×Fx)->St->Prop
 |nil (X:St):Runs P B ops [] X [] X
 |cons (i:Nat) (o:Oper) (l:List Nat) (X X':St) (fx:Fx) (fs:List (Nat×Fx)) (ho:ops[i]?=some o) (he:EffG P B ops o fx.rd X fx.wr) (h:Runs P B ops l (app X fx.wr) fs X'):Runs P B ops (i::l) X ((i,fx)::fs) X'
section
variable {P:Program}{B:Base}{ops:Array Oper}
def aOps_runs{C:FuncId->List Arg->Rs->Prop}(hC:∀g xs r,C g xs r->SpX P g xs r){own:List Nat}:∀(l:List Oper) (k:Nat) (fs0:List Mk) (X:St) (K:List Mk->St->Prop),(∀j,l[j]?=ops[k+j]?) ->
  aOps P C B.n own ops.toList l fs0 X K->∃fs X',Runs P B ops (List.range' k l.length) X fs X'/\K (fs0++fs.map λp=>fxm p.2) X'
 |[],k,fs0,X,K,_,h=>⟨[],X,.nil X,by simpa[aOps]using h⟩
 |o::l,k,fs0,X,K,hl,h=>by
  simp only[aOps]at h;obtain⟨fx,h2,he⟩:=aGuard_ok (B:=B) hC h;rw[frcF_eq]at h2;obtain⟨fs,X',hr,hk⟩:=aOps_runs hC l (k+1) (fs0++[fxm fx]) (app X fx.wr) K (λj=>by have:=hl (j+1);simpa[U7,cP 1 j]using this) h2;have ho:ops[k]?=some o:=by have:=hl 0;simpa using this.symm
  refine⟨(k,fx)::fs,X',?_,by simpa using hk⟩;rw[H7,List.range'_succ];exact .cons k o _ X X' fx fs ho he hr
def wanted_wp{o:Oper}{i:Nat}(ho:ops[i]?=some o){a:Act}{w:World}{K:Act->World->Prop}{Q:Exit->Act->World->Prop}(h:if Region.wanted o (yielded ops a.tmps)=true then o.wp P a w K Q else K (a.put o.dst undef) w):wpOp P ops Q i K a w:=by
 unfold wpOp;simp only[ho];split
 ·rename_i hw;rw[if_pos hw]at h;exact .inl h
 ·rename_i hw;rw[if_neg hw]at h;exact h
def runs_wp{l:List Nat}{X X':St}{fs:List (Nat×Fx)}(h:Runs P B ops l X fs X'):∀{a:Act} {w:World} {Q:Exit->Act->World->Prop},Sat B X a w->(∀a' w',Sat B X' a' w'->Q .normal a' w')->wpOps P ops Q l a w:=by
 induction h with
 |nil X=>intro a w Q hs hQ;exact hQ a w hs
 |cons i o l X X' fx fs ho he hr ih =>
  intro a w Q hs hQ;rw[wpOps_cons];exact wanted_wp ho (he X (λ_ _=>rfl) a w hs _ Q λa' w' a2=>ih a2 hQ)
def lD{X:St}{l:Loc}:∀{wr:List (Loc×Ct)},(∀p∈wr,p.1≠l)->(app X wr) l=X l:=by
 intro wr
 induction wr generalizing X with
 |nil=>intro _;rfl
 |cons p wr ih =>
  intro h;show(app (upd X p.1 p.2) wr) l=X l;rw[ih λq hq=>h q (K3 _ hq)];rw[R8,if_neg (λe=>h p aP e.symm)]
def app_in{l:Loc}:∀{wr:List (Loc×Ct)} {X U:St},(∃p∈wr,p.1=l)->(app X wr) l=(app U wr) l:=by
 intro wr
 induction wr with
 |nil=>intro X U h;obtain⟨p,hp,_⟩:=h;cases hp
 |cons p wr ih =>
  intro X U h;show(app (upd X p.1 p.2) wr) l=(app (upd U p.1 p.2) wr) l;by_cases hw:∃q∈wr,q.1=l
  ·exact ih hw
  ·have hn:∀q∈wr,q.1≠l:=λq hq e=>hw ⟨q,hq,e⟩;rw[lD hn,lD hn];obtain⟨q,hq,e⟩:=h;rcases I2.1 hq with rfl|hq
   ·rw[R8,R8,if_pos e.symm,if_pos e.symm]
   ·exact absurd e (hn q hq)
def app_comm{u v:List (Loc×Ct)}(h:∀p∈u,∀q∈v,p.1≠q.1)(X:St):app (app X u) v=app (app X v) u:=by
 funext l;by_cases hu:∃p∈u,p.1=l
 ·have hv:∀q∈v,q.1≠l:=λq hq e=>by
   obtain⟨p,hp,e'⟩:=hu;exact h p hp q hq (e'.trans e.symm)
  rw[lD hv];exact app_in hu
 ·have hn:∀p∈u,p.1≠l:=λp hp e=>hu ⟨p,hp,e⟩;rw[lD (X:=app X v) hn];by_cases hv:∃q∈v,q.1=l
  ·exact app_in hv
  ·have hm:∀q∈v,q.1≠l:=λq hq e=>hv ⟨q,hq,e⟩;rw[lD hm,lD hm,lD hn]
def bit1_eq(m:Nat)(l:Loc):bit1 m l=Nat.lor m (Nat.pow 2 l.code):=by unfold bit1;rw[p2_eq];rfl
def bit1_old(m:Nat)(l:Loc)(i:Nat)(h:m.testBit i=true):(bit1 m l).testBit i=true:=by
 rw[bit1_eq];show(m ||| 2^l.code).testBit i=true
 rw[BZ,h,Bool.true_or]
def bit1_new(m:Nat)(l:Loc):(bit1 m l).testBit l.code=true:=by
 rw[bit1_eq];show(m ||| 2^l.code).testBit l.code=true
 rw[BZ,Nat.testBit_two_pow_self,BM]
def mskR_old(ls:List Loc):∀(m i:Nat),m.testBit i=true->(mskR ls m).testBit i=true:=by
 induction ls with
 |nil=>intro m i h;exact h
 |cons l r ih=>intro m i h;exact ih _ i (bit1_old m l i h)
def mskR_mem{l:Loc}(ls:List Loc):∀(m:Nat),l∈ls->(mskR ls m).testBit l.code=true:=by
 induction ls with
 |nil=>intro m h;cases h
 |cons l' r ih =>
  intro m h;rcases I2.1 h with rfl|h
  ·exact mskR_old r _ _ (bit1_new m l)
  ·exact ih _ h
def mskW_eq(ps:List (Loc×Ct)):∀m:Nat,mskW ps m=mskR (ps.map (·.1)) m:=by
 induction ps with
 |nil=>intro m;rfl
 |cons p r ih=>intro m;exact ih _
def CQ{a b i:Nat}(h:Nat.land a b=0)(ha:a.testBit i=true)(hb:b.testBit i=true):False:=by
 have:(a &&& b).testBit i=true:=by rw[Nat.testBit_and,ha,hb];rfl
 rw[show a &&& b=0 from h,Nat.zero_testBit]at this;cases this
def indep_spec{f g:Fx}(h:indep f g=true):(∀p∈f.wr,p.1∉g.rd)/\(∀p∈f.wr,∀q∈g.wr,p.1≠q.1)/\∀p∈g.wr,p.1∉f.rd:=by
 unfold indep indepM at h;have h:=S2 h;obtain⟨a2,h3⟩:=Nat.or_eq_zero_iff.1 (show(Nat.lor (Nat.land (fxm f).2 (fxm g).1) (Nat.land (fxm f).2 (fxm g).2)) ||| Nat.land (fxm g).2 (fxm f).1=0 from h);obtain⟨h1,h2⟩:=Nat.or_eq_zero_iff.1 (show Nat.land (fxm f).2 (fxm g).1 ||| Nat.land (fxm f).2 (fxm g).2=0 from a2)
 have wm:∀(f:Fx) p,p∈f.wr->(fxm f).2.testBit p.1.code=true:=λf p hp=>by
  show(mskW f.wr 0).testBit _=true;rw[mskW_eq];exact mskR_mem _ 0 (D8.2 ⟨p,hp,rfl⟩)
 have rm:∀(f:Fx) l,l∈f.rd->(fxm f).1.testBit l.code=true:=λf l hl=>mskR_mem _ 0 hl;exact⟨λp hp hc=>CQ h1 (wm f p hp) (rm g _ hc),λp hp q hq e=>CQ h2 (wm f p hp) (e ▸ wm g q hq),λp hp hc=>CQ h3 (wm g p hp) (rm f _ hc)⟩
def EffG.agree{o:Oper}{X X1:St}{fx:Fx}(h:EffG P B ops o fx.rd X fx.wr)(hag:∀l∈fx.rd,X1 l=X l):EffG P B ops o fx.rd X1 fx.wr :=
 λX' hag' a w hs K Q hK=>h X' (λl hl=>(hag' l hl).trans (hag l hl)) a w hs K Q hK
def runs_front{l:List Nat}{X X':St}{fs:List (Nat×Fx)}(h:Runs P B ops l X fs X'){i:Nat}:∀{pre post:List (Nat×Fx)} {fx:Fx},fs=pre++(i,fx)::post->(∀p∈pre,indep p.2 fx=true) ->
  ∃l',Runs P B ops (i::l') X ((i,fx)::(pre++post)) X':=by
 induction h with
 |nil X=>intro pre post fx e _;simp at e
 |cons j o l X X' fj fs ho he hr ih =>
  intro pre post fx e hp;cases pre with
  |nil =>
   simp only[Y9,List.cons.injEq,G0]at e;obtain⟨⟨rfl,rfl⟩,rfl⟩:=e;exact⟨l,.cons j o l X X' fj fs ho he hr⟩
  |cons p pre =>
   simp only[eD,List.cons.injEq]at e;obtain⟨rfl,e⟩:=e;obtain⟨l',a4⟩:=ih e λq hq=>hp q (K3 _ hq);obtain⟨h1,h2,h3⟩:=indep_spec (hp (j,fj) aP);cases a4 with
   |cons _ oi _ _ _ _ _ hoi hei hr2 =>
    have a2:EffG P B ops oi fx.rd X fx.wr:=hei.agree λl hl=>(lD λp hp e=>h1 p hp (e ▸ hl)).symm;have a3:EffG P B ops o fj.rd (app X fx.wr) fj.wr:=he.agree λl hl=>lD λp hp e=>h3 p hp (e ▸ hl);refine⟨j::l',.cons i oi _ X X' fx _ hoi a2 (.cons j o _ _ X' fj _ ho a3 ?_)⟩;rw[<- app_comm h2];exact hr2
end
end
section
def befStep_spec{acc:List Nat}{o:Oper}{j:Nat}(h:(nY acc o).testBit j=true):∃e∈o.after.toList,Region.binds .any e=true/\(j=e.on\/(acc.getD e.on 0).testBit j=true):=by
 unfold nY at h
 have key:∀(l:List Edge) (s:Nat),(l.foldl (λs e=>if Region.binds .any e=true then s ||| 2^e.on ||| acc.getD e.on 0 else s) s).testBit j=true ->
   s.testBit j=true\/∃e∈l,Region.binds .any e=true/\(j=e.on\/(acc.getD e.on 0).testBit j=true):=by
  intro l
  induction l with
  |nil=>intro s h;exact .inl h
  |cons e l ih =>
   intro s h;rw[wV]at h;rcases ih _ h with h1|⟨e',he',h2⟩
   ·by_cases hb:Region.binds .any e=true
    ·rw[if_pos hb,BZ,BZ,pV,pV]at h1;rcases h1 with (h1|h1)|h1
     ·exact .inl h1
     ·rw[Nat.testBit_two_pow]at h1;exact .inr ⟨e,by simp,hb,.inl (of_decide_eq_true h1).symm⟩
     ·exact .inr ⟨e,by simp,hb,.inr h1⟩
    ·rw[if_neg hb]at h1;exact .inl h1
   ·exact .inr ⟨e',by simp[he'],h2⟩
 rcases key _ 0 h with h1|h1
 ·simp at h1
 ·exact h1
def befs_spec(ops:List Oper):∀(i:Nat) (o:Oper),ops[i]?=some o->∀j,((befs ops).getD i 0).testBit j=true->∃e∈o.after.toList,Region.binds .any e=true/\(j=e.on\/((befs ops).getD e.on 0).testBit j=true):=by
 have key:∀(rest pre:List Oper) (acc:List Nat),acc.length=pre.length->(∀(i:Nat) (o:Oper),pre[i]?=some o->∀j,(acc.getD i 0).testBit j=true->∃e∈o.after.toList,Region.binds .any e=true/\(j=e.on\/(acc.getD e.on 0).testBit j=true)) ->
   (∀(i:Nat) (o:Oper),(pre++rest)[i]?=some o->∀j,((rest.foldl (λacc o=>acc++[nY acc o]) acc).getD i 0).testBit j=true->∃e∈o.after.toList,Region.binds .any e=true/\(j=e.on\/((rest.foldl (λacc o=>acc++[nY acc o]) acc).getD e.on 0).testBit j=true)):=by
  intro rest
  induction rest with
  |nil=>intro pre acc _ h;simpa using h
  |cons o rest ih =>
   intro pre acc hl h;have e:pre++o::rest=(pre++[o])++rest:=by simp
   rw[e]
   have grow:∀p j,(acc.getD p 0).testBit j=true->((acc++[nY acc o]).getD p 0).testBit j=true:=λp j hj=>by
    by_cases hp:p<acc.length
    ·rw[fL,T8,if_pos hp,<- fL];exact hj
    ·rw[fL,fM (by omega)]at hj;simp at hj
   refine ih (pre++[o]) (acc++[nY acc o]) (by simp[hl]) λi o' a2 j hj=>?_;rw[T8]at a2;split at a2
   ·rename_i hi;rw[fL,T8,if_pos (by omega),<- fL]at hj;obtain⟨e1,h1,h2,h3⟩:=h i o' a2 j hj;exact⟨e1,h1,h2,h3.imp id (grow _ _)⟩
   ·rename_i hi
    have a3:i=acc.length:=by
     have:=(G4.1 a2).1;simp at this;omega
    subst a3;have:o'=o:=by simpa[hl]using a2.symm
    subst this;rw[fL,T8,if_neg (by omega)]at hj;simp at hj;obtain⟨e1,h1,h2,h3⟩:=befStep_spec hj;exact⟨e1,h1,h2,h3.imp id (grow _ _)⟩
 intro i o ho j hj;exact key ops [] [] rfl (by simp) i o (by simpa using ho) j hj
def IP{bs:List Nat}{f:Mk}{i:Nat}:∀{fs:List Mk} {j:Nat},drawRow bs f i j fs=true->∀(k:Nat) g,fs[k]?=some g->indepM f g=true\/(bs.getD (j+k) 0).testBit i=true
 |[],j,_,k,g,h=>by simp at h
 |g0::fs,j,h,k,g,hg=>by
  simp only[drawRow,M7,pV]at h;cases k with
  |zero=>simp at hg;subst hg;exact h.1
  |succ k =>
   have:=IP h.2 k g (by simpa using hg);rw[show j+1+k=j+(k+1) from by omega]at this;exact this
def ID{bs:List Nat}:∀{fs:List Mk} {i:Nat},drawAll bs i fs=true->∀(p q:Nat) f g,p<q->fs[p]?=some f->fs[q]?=some g->indepM f g=true\/(bs.getD (i+q) 0).testBit (i+p)=true
 |[],i,_,p,q,f,g,_,hf,_=>by simp at hf
 |f0::fs,i,h,p,q,f,g,hpq,hf,hg=>by
  simp only[drawAll,M7]at h;cases q with
  |zero=>omega
  |succ q =>
   cases p with
   |zero =>
    simp at hf;subst hf;have:=IP h.1 q g (by simpa using hg);rw[show i+1+q=i+(q+1) from by omega]at this;exact this
   |succ p =>
    have:=ID h.2 p q f g (by omega) (by simpa using hf) (by simpa using hg);rw[show i+1+q=i+(q+1) from by omega,show i+1+p=i+(p+1) from by omega]at this;exact this
def zq46:∀{l:List Oper} {i:Nat},edgeOk i l=true->∀(k:Nat) o,l[k]?=some o->∀e∈o.after.toList,Region.binds .any e=true->e.on<i+k
 |[],i,_,k,o,h=>by simp at h
 |o0::l,i,h,k,o,ho=>by
  simp only[edgeOk,M7,O0,pV,sU]at h;cases k with
  |zero =>
   simp at ho;subst ho;intro e he hb;rcases h.1 e he with h1|h1
   ·rw[hb]at h1;cases h1
   ·exact bK h1
  |succ k =>
   intro e he hb;have:=zq46 h.2 k o (by simpa using ho) e he hb;omega
section
variable {P:Program}{B:Base}{ops:Array Oper}
def runs_idx{l:List Nat}{X X':St}{fs:List (Nat×Fx)}(h:Runs P B ops l X fs X'):fs.map (·.1)=l/\∀i∈l,i<ops.size:=by
 induction h with
 |nil X=>exact⟨rfl,by simp⟩
 |cons i o l X X' fx fs ho he hr ih =>
  refine⟨by simp[ih.1],λj hj=>?_⟩;rcases I2.1 hj with rfl|hj
  ·exact(mH.1 ho).1
  ·exact ih.2 j hj
def Apart(ops:Array Oper)(fs:List (Nat×Fx)):Prop :=
 fs.Pairwise λp q=>indep p.2 q.2=true\/((befs ops.toList).getD q.1 0).testBit p.1=true
def getD_two{l:Array Bool}{i:Nat}(h:i<l.size)(d d':Bool):l.getD i d=l.getD i d':=by simp[h]
def runs_any{Q:Exit->Act->World->Prop}(hed:edgeOk 0 ops.toList=true):∀(fuel:Nat) (listed:Array Bool) (l:List Nat) (X X':St) (fs:List (Nat×Fx)) (a:Act) (w:World),listed.size=ops.size->l.length=fuel->(∀i,i∈l↔listed.getD i true=false) ->
  (∀k o,ops[k]?=some o->listed.getD k false=true->∀j,((befs ops.toList).getD k 0).testBit j=true->listed.getD j false=true)->Apart ops fs->l.Pairwise (·<·)->Runs P B ops l X fs X'->Sat B X a w->(∀a' w',Sat B X' a' w'->Q .normal a' w') ->
  wpAny P .any ops Q fuel listed a w
 |0,listed,l,X,X',fs,a,w,hsz,hlen,hmem,hdn,hap,hnd,hr,hs,hQ=>by
  have hl:l=[]:=S9 hlen;subst hl;cases hr with
  |nil _ =>
   refine⟨?_,hQ a w hs⟩;rw[xL];intro i hi;exact absurd ((hmem i).2 (mem_ready.1 hi).1) (by simp)
 |fuel+1,listed,l,X,X',fs,a,w,hsz,hlen,hmem,hdn,hap,hnd,hr,hs,hQ=>by
  obtain⟨hidx,hlt⟩:=runs_idx hr
  have hon:∀i o,ops[i]?=some o->∀e∈o.after.toList,Region.binds .any e=true->e.on<i:=λi o ho e he hb=>by
   have:=zq46 hed i o (by rw[T7];exact ho) e he hb;omega
  refine⟨λhnil=>?_,λi hi=>?_⟩
  ·exfalso;cases l with
   |nil=>simp at hlen
   |cons i l =>
    have hi:=hlt i (by simp)
    have hrd:i∈Region.ready .any ops listed:=by
     rw[mem_ready];refine⟨(hmem i).1 (by simp),ops[i],xD hi,λe he hb=>?_⟩;have h1:=hon i ops[i] (xD hi) e (by simpa using he) hb
     have h2:e.on∉i::l:=λhm=>by
      rcases I2.1 hm with h|h
      ·omega
      ·have:=(dF.1 hnd).1 _ h;omega
     rw[getD_two (by omega) false true];cases hc:listed.getD e.on true with
     |true=>rfl
     |false=>exact absurd ((hmem _).2 hc) h2
    rw[hnil]at hrd;cases hrd
  ·obtain⟨b9,o,ho,a8⟩:=mem_ready.1 hi;have a7:i∈l:=(hmem i).2 b9;have a6:=hlt i a7
   have b4:∀j,((befs ops.toList).getD i 0).testBit j=true->listed.getD j false=true:=λj hj=>by
    obtain⟨e,he,hb,h1⟩:=befs_spec ops.toList i o (by rw[T7];exact ho) j hj;have hl:=a8 e (by simpa using he) hb;have c0:=hon i o ho e he hb;rcases h1 with rfl|h1
    ·exact hl
    ·exact hdn e.on ops[e.on] (xD (by omega)) hl j h1
   obtain⟨pre,fx,post,a3⟩:∃pre fx post,fs=pre++(i,fx)::post:=by
    rw[<- hidx]at a7;obtain⟨p,hp,e⟩:=D8.1 a7;obtain⟨pre,post,b6⟩:=List.append_of_mem hp;exact⟨pre,p.2,post,by rw[b6,<- e]⟩
   have b0:∀p∈pre,indep p.2 fx=true:=λp hp=>by
    unfold Apart at hap;rw[a3,List.pairwise_append]at hap;rcases hap.2.2 p hp (i,fx) aP with h1|h1
    ·exact h1
    ·have h2:=b4 p.1 h1;have b3:p.1∈l:=by rw[<- hidx,a3];exact D8.2 ⟨p,M1 _ hp,rfl⟩
     have h3:=(hmem p.1).1 b3;rw[getD_two (by rw[hsz];exact hlt _ b3) true false,h2]at h3;cases h3
   obtain⟨l',b5⟩:=runs_front hr a3 b0;have a2:=(runs_idx b5).1;simp only[L0,List.cons.injEq,true_and]at a2;have a5:l=pre.map (·.1)++i::post.map (·.1):=by rw[<- hidx,a3];simp
   have a4:l'=pre.map (·.1)++post.map (·.1):=by rw[<- a2];simp
   have b2:List.Sublist l' l:=by
    rw[a5,a4];exact List.Sublist.append (List.Sublist.refl _) (List.sublist_cons_self _ _)
   have a9:i∉l':=by
    rw[a5,List.pairwise_append]at hnd;obtain⟨_,h2,h3⟩:=hnd;rw[a4,K0];rintro (h|h)
    ·have:=h3 i h i (by simp);omega
    ·have:=(dF.1 h2).1 i h;omega
   cases b5 with
   |cons _ oi _ _ _ _ _ hoi hei hr2 =>
    refine wanted_wp hoi (hei X (λ_ _=>rfl) a w hs _ Q λa' w' b7=>?_);refine runs_any hed fuel (listed.setIfInBounds i true) l' _ X' (pre++post) a' w' (by simp[hsz]) ?_ (λj=>?_) (λk ok b8 hk j hj=>?_) ?_ (hnd.sublist b2) hr2 b7 hQ
    ·rw[a5]at hlen;rw[a4];simp at hlen ⊢;omega
    ·by_cases e:j=i
     ·subst e;constructor
      ·intro h;exact absurd h a9
      ·intro h;rw[getD_two (by simp[hsz];exact a6) true false,show(listed.setIfInBounds j true).getD j false=true by simp[hsz,a6]]at h;cases h
     ·rw[getD_set_ne true (Ne.symm e),<- hmem j,a5,a4];simp[e]
    ·by_cases e:k=i
     ·subst e;exact getD_set_true (b4 j hj)
     ·rw[getD_set_ne false (Ne.symm e)]at hk;exact getD_set_true (hdn k ok b8 hk j hj)
    ·unfold Apart at hap ⊢;rw[a3]at hap;exact hap.sublist (List.Sublist.append (List.Sublist.refl _) (List.sublist_cons_self _ _))
def apart_of{fs:List (Nat×Fx)}{n:Nat}(hidx:fs.map (·.1)=List.range n)(h:drawAll (befs ops.toList) 0 (fs.map λp=>fxm p.2)=true):Apart ops fs:=by
 unfold Apart;rw[V8];intro p q hp hq a2;have h1:=ID h p q (fxm fs[p].2) (fxm fs[q].2) a2 (by simp[hp]) (by simp[hq])
 have idx:∀r (hr:r<fs.length),fs[r].1=r:=λr hr=>by
  have:(fs.map (·.1))[r]?=some fs[r].1:=by simp[hr]
  rw[hidx]at this;have a3:fs.length=n:=by have:=congrArg List.length hidx;simpa using this
  rw[bT (by omega)]at this;injection this with this
  exact this.symm
 rw[idx p hp,idx q hq];unfold indep;simpa only[J9]using h1
def aRegion_ok(hm:P.follows .mixedOrders=true){C:FuncId->List Arg->Rs->Prop}(hC:∀g xs r,C g xs r->SpX P g xs r){own:List Nat}{id:Nat}{draw:Bool}{X:St}{K:Exit->St->Prop}
  (h:aOps P C B.n own ops.toList ops.toList [] X λfs X'=>Chk (!draw||drawOk ops.toList fs) (K .normal X')) {a:Act} {w:World} (hs:Sat B X a w) {Q:Exit->Act->World->Prop} (hQ:∀e X' a' w',K e X'->Sat B X' a' w'->Q e a' w'):(Code.region id ops draw).wp P Q a w:=by
 obtain⟨fs,X',hr,hk⟩:=aOps_runs (B:=B) (ops:=ops) hC ops.toList 0 [] X _ (λj=>by simp) h;rw[<- HQ]at hr;rw[Y9]at hk;obtain⟨a2,a4⟩:=hk.ok;have a6:ops.toList.length=ops.size:=by simp
 rw[a6]at hr;cases draw with
 |false=>exact wp_region (runs_wp hr hs λa' w' a3=>hQ .normal X' a' w' a4 a3)
 |true =>
  simp only[N2,cQ]at a2;unfold drawOk at a2;rw[M7]at a2;refine wp_region_any hm ?_;have a5:=(runs_idx hr).1;refine runs_any a2.1 ops.size (Array.replicate ops.size false) (List.range ops.size) X X' fs a _ (by simp) (by simp) (λi=>?_) (λk o ho hk=>?_) (apart_of a5 a2.2) HK hr ?_ λa' w' a3=>hQ .normal X' a' w' a4 a3
  ·by_cases h:i<ops.size
   ·simp[h]
   ·simp[h]
  ·have:k<ops.size:=(mH.1 ho).1;simp[this]at hk
  ·obtain⟨Y,hs⟩:=hs;exact⟨Y,(hs.world (w':={ w with drawn:=w.drawn+1 }) ⟨rfl,rfl,rfl,H4 _,λ_ _=>rfl⟩).1⟩
end
end
section
variable {w:World}{a:Act}
def least{p:Nat->Prop}(h:∃m,p m):∃m,p m/\∀k,p k->m<=k:=by
 obtain⟨m,hm⟩:=h
 induction m using Nat.strongRecOn with
 |_ m ih =>
  by_cases hk:∃k,k<m/\p k
  ·obtain⟨k,h1,h2⟩:=hk;exact ih k h1 h2
  ·exact⟨m,hm,λk hp=>by
    rcases L8 k m with h1|h1
    ·exact absurd ⟨k,h1,hp⟩ hk
    ·exact h1⟩
section
variable {P:Program}{B:Base}
def eM.out{body:(Exit->St->Prop)->St->Prop}{K:Exit->St->Prop}{X:St}(h:eM body K X) :
  ∃(I:Nat->St->Prop) (m:Nat),I m X/\∀m X,I m X->∃X1 J,Ent X X1/\Holds X1 J/\(J->body (λe X'=>match e with|.normal=>∃m',m'<m/\I m' X'|e=>K e X') X1):=by
 unfold eM at h;exact h
open Classical in
def loop_ok{body:Code}{K:Exit->St->Prop}{X:St}{f:(Exit->St->Prop)->St->Prop}(h:eM f K X)
  (hbody:∀(K':Exit->St->Prop) (X:St),f K' X->∀a w,Sat B X a w->∀Q:Exit->Act->World->Prop,(∀e X' a' w',K' e X'->Sat B X' a' w'->Q e a' w')->body.wp P Q a w)
  {a:Act} {w:World} (hs:Sat B X a w) {Q:Exit->Act->World->Prop} (hQ:∀e X' a' w',K e X'->Sat B X' a' w'->Q e a' w'):(Code.loop body).wp P Q a w:=by
 obtain⟨I,m0,h0,hI⟩:=h.out
 let L:Act->World->Nat->Prop:=λa w m=>∃X,I m X/\Sat B X a w
 let D:Act->World->Nat:=λa w=>if h:∃m,L a w m then Classical.choose (least h) else 0
 refine wp_loop (λa w=>∃m,L a w m) D ⟨m0,X,h0,hs⟩ λa w hL=>?_;obtain⟨h1,h2⟩:=Classical.choose_spec (least hL);have hD:D a w=Classical.choose (least hL):=by simp only[D];rw[dif_pos hL]
 generalize hm:Classical.choose (least hL)=m at h1 h2 hD;obtain⟨X1,hX1,a6⟩:=h1;obtain⟨X2,J,a4,hJ,hb⟩:=hI m X1 hX1;have a3:=a4 B a w a6;refine hbody _ X2 (hb (hJ B a w a3)) a w a3 _ λe X' a' w' hk hs'=>?_;cases e with
 |normal =>
  obtain⟨m',a7,a5⟩:=hk;have a2:∃m,L a' w' m:=⟨m',X',a5,hs'⟩;refine⟨a2,?_⟩;have h3:=(Classical.choose_spec (least a2)).2 m' ⟨X',a5,hs'⟩;have hD':D a' w'=Classical.choose (least a2):=by simp only[D];rw[dif_pos a2]
  rw[hD',hD];omega
 |exit id=>exact hQ _ X' a' w' hk hs'
 |goto l=>exact hQ _ X' a' w' hk hs'
 |ret=>exact hQ _ X' a' w' hk hs'
 |panic ch=>exact hQ _ X' a' w' hk hs'
 |outgrown=>exact hQ _ X' a' w' hk hs'
def iD(hm:P.follows .mixedOrders=true){C:FuncId->List Arg->Rs->Prop}(hC:∀g xs r,C g xs r->SpX P g xs r){own:List Nat}:∀(c:Code) (K:Exit->St->Prop) (X:St),bE P C B.n own c K X->∀a w,Sat B X a w->∀Q:Exit->Act->World->Prop,
  (∀e X' a' w',K e X'->Sat B X' a' w'->Q e a' w')->c.wp P Q a w
 | .skip,K,X,h,a,w,hs,Q,hQ=>wp_skip (hQ .normal X a w h hs)
 | .region id ops draw,K,X,h,a,w,hs,Q,hQ=>aRegion_ok hm hC (id:=id) h hs hQ
 | .seq x y,K,X,h,a,w,hs,Q,hQ=>by
  simp only[bE]at h;split at h
  case h_2 =>
   obtain⟨Post,h1,h2⟩:=h.out;refine wp_seq (iD hm hC x _ X h1 a w hs _ λe X' a' w' hk hs'=>?_);cases e with
   |normal =>
    obtain⟨X1,he,hp⟩:=hk;obtain⟨J,hJ,h3⟩:=h2 X1 hp;have hs1:=he B a' w' hs';exact iD hm hC y K X1 (h3 (hJ B a' w' hs1)) a' w' hs1 Q hQ
   |exit id=>exact hQ _ X' a' w' hk hs'
   |goto l=>exact hQ _ X' a' w' hk hs'
   |ret=>exact hQ _ X' a' w' hk hs'
   |panic ch=>exact hQ _ X' a' w' hk hs'
   |outgrown=>exact hQ _ X' a' w' hk hs'
  refine wp_seq (iD hm hC x _ X h a w hs _ λe X' a' w' hk hs'=>?_);cases e with
  |normal=>exact iD hm hC y K X' hk a' w' hs' Q hQ
  |exit id=>exact hQ _ X' a' w' hk hs'
  |goto l=>exact hQ _ X' a' w' hk hs'
  |ret=>exact hQ _ X' a' w' hk hs'
  |panic ch=>exact hQ _ X' a' w' hk hs'
  |outgrown=>exact hQ _ X' a' w' hk hs'
 | .cond c x y,K,X,h,a,w,hs,Q,hQ=>by
  simp only[bE]at h;split at h
  ·rename_i t ht;obtain⟨h1,h2⟩:=h.out
   have hc:a.eval c=.bool t:=by
    obtain⟨Y,hs⟩:=hs;exact rP ht (F7 hs c)
   cases ht':t with
   |true=>exact wp_cond_true (hc.trans (by rw[ht'])) (iD hm hC x K X (h1 ht') a w hs Q hQ)
   |false=>exact wp_cond_false (hc.trans (by rw[ht'])) (iD hm hC y K X (h2 ht') a w hs Q hQ)
  ·exact h.elim
 | .block id body,K,X,h,a,w,hs,Q,hQ=>by
  simp only[bE]at h;split at h
  case h_2 =>
   obtain⟨Post,h1,h2⟩:=h.out
   have fin:∀X' a' w',(∃X1,Ent X' X1/\Post X1)->Sat B X' a' w'->Q .normal a' w':=λX' a' w' ⟨X1,he,hp⟩ hs'=>by
    obtain⟨J,hJ,h3⟩:=h2 X1 hp;have hs1:=he B a' w' hs';exact hQ _ X1 a' w' (h3 (hJ B a' w' hs1)) hs1
   refine wp_block (iD hm hC body _ X h1 a w hs _ λe X' a' w' hk hs'=>?_);cases e with
   |exit j =>
    simp only at hk;show(if j=id then Q .normal a' w' else Q (.exit j) a' w');by_cases e:j=id
    ·rw[if_pos e]at hk ⊢;exact fin X' a' w' hk hs'
    ·rw[if_neg e]at hk ⊢;exact hQ _ X' a' w' hk hs'
   |normal=>exact fin X' a' w' hk hs'
   |goto l=>exact hQ _ X' a' w' hk hs'
   |ret=>exact hQ _ X' a' w' hk hs'
   |panic ch=>exact hQ _ X' a' w' hk hs'
   |outgrown=>exact hQ _ X' a' w' hk hs'
  refine wp_block (iD hm hC body _ X h a w hs _ λe X' a' w' hk hs'=>?_);cases e with
  |exit j =>
   simp only at hk;show(if j=id then Q .normal a' w' else Q (.exit j) a' w');by_cases e:j=id
   ·rw[if_pos e]at hk ⊢;exact hQ _ X' a' w' hk hs'
   ·rw[if_neg e]at hk ⊢;exact hQ _ X' a' w' hk hs'
  |normal=>exact hQ _ X' a' w' hk hs'
  |goto l=>exact hQ _ X' a' w' hk hs'
  |ret=>exact hQ _ X' a' w' hk hs'
  |panic ch=>exact hQ _ X' a' w' hk hs'
  |outgrown=>exact hQ _ X' a' w' hk hs'
 | .loop body,K,X,h,a,w,hs,Q,hQ=>loop_ok h (λK' X h a w hs Q hQ=>iD hm hC body K' X h a w hs Q hQ) hs hQ
 | .exit id,K,X,h,a,w,hs,Q,hQ=>wp_exit (hQ _ X a w h hs)
 | .ret,K,X,h,a,w,hs,Q,hQ=>wp_ret (hQ _ X a w h hs)
 | .rangeFunc ..,_,_,h,_,_,_,_,_=>h.elim
 | .scope body,K,X,h,a,w,hs,Q,hQ=>by
  refine wp_scope_straight (iD hm hC body _ X h a w hs _ λe X' a' w' hk hs'=>?_);cases e with
  |goto l=>exact hk.elim
  |exit j=>exact hQ _ X' a' w' hk hs'
  |normal=>exact hQ _ X' a' w' hk hs'
  |ret=>exact hQ _ X' a' w' hk hs'
  |panic ch=>exact hQ _ X' a' w' hk hs'
  |outgrown=>exact hQ _ X' a' w' hk hs'
 | .label _,K,X,h,a,w,hs,Q,hQ=>wp_label (hQ _ X a w h hs)
 | .goto _,_,_,h,_,_,_,_,_=>h.elim
 | .refuse _,_,_,h,_,_,_,_,_=>h.elim
def resA(P:Program)(X:St):ResultVar->Option (AV×E7)
 | .tmp t=>some (X.av t,[])
 | .cell c t=>match X.av c with
  | .own b g i=>match fO P t with
   |some false=>if Nat.blt i (dM X b)=true then some (X.ce b i,[(b,g)]) else none
   |some true=>match szOf P t with
    |some m=>if(Nat.blt 0 m&&Nat.ble (i+m) (dM X b))=true then some (aggA ((List.range m).map λj=>X.ce b (i+j)),[(b,g)]) else none
    |none=>none
   |none=>none
  |_=>none
def resAs(P:Program)(X:St):List ResultVar->Option (List AV×E7)
 |[]=>some ([],[])
 |r::l=>match resA P X r,resAs P X l with|some (v,b),some (vs,bs)=>some (v::vs,b++bs)|_,_=>none
def outC(X:St)(c:Oc)(a:AV):Option (Oc×E7×E7):=match c with
 | .im _=>match fz X a with
  |some (x,bs)=>some (.im x,bs,[])
  |none=>none
 | .ow k0=>match a with
  | .osl b g=>match objG X b with
   |some k=>some (.ow k,[],[(b,g)])
   |none=>none
  | .im x=>match k0 with
   | .row e k _=>match nilRow x e k with
    |some q=>some (.ow q,[],[])
    |none=>none
   |_=>none
  |_=>none
def outCs(X:St):List Oc->List AV->Option (List Oc×E7×E7)
 |[],[]=>some ([],[],[])
 |c::cs,a::l=>match outC X c a,outCs X cs l with
  |some (x,bs,gs),some (xs,bs',gs')=>some (x::xs,bs++bs',gs++gs')
  |_,_=>none
 |_,_=>none
def Z5(X:St):Nat->List Arg->List Arg->Option (List Arg×E7×E7)
 |_,[],[]=>some ([],[],[])
 |i,.im _::xs,ys=>Z5 X (i+1) xs ys
 |i,.ow _::xs,ys=>Z5 X (i+1) xs ys
 |i,.box _ _::xs,.box _ cs::ys=>match X.kd i with
  | .box t _=>match outCs X cs (eJ X i),Z5 X (i+1) xs ys with
   |some (cs',bs,gs),some (l,bs',gs')=>some (.box t cs'::l,bs++bs',((i,0)::gs)++gs')
   |_,_=>none
  |_=>none
 |i,.lent _::xs,.lent _::ys=>match objG X i,Z5 X (i+1) xs ys with
  |some k,some (l,bs',gs')=>some (.lent k::l,bs',(i,0)::gs')
  |_,_=>none
 |_,_,_=>none
def RetOk(P:Program)(rs:List ResultVar)(xs:List Arg)(X:St)(r:Rs):Prop :=
 match resAs P X rs,r with
 |some (vs,c),.mk tp l ys=>Chk (match tp with|true=>!Nat.beq vs.length 1|false=>Nat.beq vs.length 1) (fR X c (match outCs X l vs,Z5 X 0 xs ys with
  |some (l',bs,gs),some (ys',bs',gs')=>Chk (ndB ((gs++gs').map (·.1)) ((bs++bs').map (·.1))) (fR X ((bs++bs')++(gs++gs')) (l'=l/\ys'=ys))
  |_,_=>False))
 |none,_=>False
def retK(P:Program)(rs:List ResultVar)(xs:List Arg)(r:Rs):Exit->St->Prop
 | .ret,X=>RetOk P rs xs X r
 | .normal,X=>RetOk P rs xs X r
 |_,_=>False
def oneRes(tmps:Array Value):ResultVar->Sem Value
 | .tmp t=>pure (tmps.getD t undef)
 | .cell c t=>do loadVar t (<- asAddr (tmps.getD c undef))
def results_eq(fn:Func)(tmps:Array Value):results fn tmps=(do let vs <- fn.results.mapM (oneRes tmps);pure (if h:vs.size=1 then vs[0] else .tuple vs)):=by
 unfold results
 have e:(λr:ResultVar=>match r with
  | .tmp t=>(pure (tmps.getD t undef):Sem Value)
  | .cell a t=>do loadVar t (<- asAddr (tmps.getD a undef)))=oneRes tmps:=funext λr=>by cases r<;>rfl
 rw[<- e];rfl
def resA_ok{X:St}{Y:Ly}(h:SatR B X a w Y){r:ResultVar}{v:AV}{bs:E7}(e:resA P X r=some (v,bs))(hg:∀p∈bs,X.gn p.1=p.2) :
  ∃u,(oneRes a.tmps r).run P w=.ok u w/\RepA w (Imm B X Y w) Y X.gn u v:=by
 cases r with
 |tmp t =>
  simp only[resA,D4,G0]at e;rw[<- e.1];exact⟨_,rfl,h.tms t⟩
 |cell c t =>
  simp only[resA]at e;split at e
  ·rename_i b g i hc;have h1:=h.tms c;rw[hc]at h1
   have ld:∀q u,a.tmps.getD c undef=.pointer (some q)->(Instr.loadAt t (.pointer (some q))).run P w=.ok u w->(do loadVar t (<- asAddr (a.tmps.getD c undef)):Sem Value).run P w=.ok u w:=λq u e1 e2=>by
    simp only[Instr.loadAt,Instr.sureAddr,Sem.run_bind,Sem.run_pure,Result.andThen_ok]at e2;simp only[e1,asAddr,Sem.run_bind,Sem.run_pure,Result.andThen_ok,e2]
   split at e
   ·rename_i a3;split at e
    ·rename_i hi;simp only[D4,G0]at e;obtain⟨rfl,rfl⟩:=e;obtain⟨t',m,hk,a7⟩:=uV (bK hi);obtain⟨q,us,e1,_,_,hl,a2,a4,hr⟩:=lG h h1 (hg (b,g) (by simp)) hk;obtain⟨u,hu⟩:∃u,us[i]?=some u:=⟨_,L4 (by omega)⟩;exact⟨u,ld _ u e1 (qP a3 (a4 i u hu)),hr i u hu⟩
    ·cases e
   ·rename_i a3;split at e
    ·rename_i m hm;split at e
     ·rename_i hi;simp only[D4,G0]at e;obtain⟨rfl,rfl⟩:=e;rw[M7]at hi;have a8:=bK hi.1;have hi:=iG hi.2;obtain⟨t',m',hk,a7⟩:=uV (X:=X) (b:=b) (i:=i) (by omega);have a9:=yM hk;obtain⟨q,us,e1,_,_,hl,a2,a4,hr⟩:=lG h h1 (hg (b,g) (by simp)) hk;have a5:((us.drop i).take m).length=m:=by rw[H6,O5];omega
      refine⟨.agg ((us.drop i).take m).toArray,ld _ _ e1 (tT a3 (by rw[a5];exact hm) λj u hj=>a4 (i+j) u (iY hj).1),tJ ⟨by rw[a5];simp,λj u x hj hx=>?_⟩ λu hu=>a2 u (V7 (Q1 hu))⟩;obtain⟨h3,a6⟩:=iY hj;simp only[K5,bT a6,L5,D4]at hx;rw[<- hx];exact hr _ u h3
     ·cases e
    ·cases e
   ·cases e
  ·cases e
def resAs_ok{X:St}{Y:Ly}(h:SatR B X a w Y):∀{rs:List ResultVar} {vs:List AV} {bs:E7},resAs P X rs=some (vs,bs)->(∀p∈bs,X.gn p.1=p.2) ->
  ∃us:List Value,(rs.mapM (oneRes a.tmps)).run P w=.ok us w/\Reps w (Imm B X Y w) Y X.gn us vs
 |[],vs,bs,e,_=>by
  simp only[resAs,D4,G0]at e;rw[<- e.1];exact⟨[],by simp,rfl,by simp⟩
 |r::rs,vs,bs,e,hg=>by
  simp only[resAs]at e;split at e
  ·rename_i v b1 vs1 bs1 h1 h2;simp only[D4,G0]at e;obtain⟨rfl,rfl⟩:=e;obtain⟨u,hu,hr⟩:=resA_ok h h1 λp hp=>hg p (M1 _ hp);obtain⟨us,hus,hrs⟩:=resAs_ok h h2 λp hp=>hg p (M2 _ hp);refine⟨u::us,?_,by simp[hrs.1],λi x y hx hy=>?_⟩
   ·rw[List.mapM_cons];simp only[Sem.run_bind,hu,Result.andThen_ok,hus,Sem.run_pure]
   ·cases i with
    |zero=>simp at hx hy;rw[<- hx,<- hy];exact hr
    |succ i=>exact hrs.2 i x y (by simpa using hx) (by simpa using hy)
  ·cases e
def outC_ok{X:St}{Y:Ly}(h:SatR B X a w Y){bs0:E7}(hgk:∀p∈bs0,X.gn p.1=p.2){c:Oc}{u:Value}{v:AV}{x:Oc}{bs gs:E7}(hu:RepA w (Imm B X Y w) Y X.gn u v)(e:outC X c v=some (x,bs,gs))(hb:∀p∈bs,p∈bs0)(hg:∀p∈gs,X.gn p.1=p.2) :
  OcOk w (Imm B (app X (fwr bs0)) Y w) u x (O6 X Y gs):=by
 have hI:=(h.kills bs0).2;unfold outC at e;split at e
 ·split at e
  ·rename_i y bs' hy;simp only[D4,G0]at e;obtain⟨rfl,rfl,rfl⟩:=e;exact⟨fz_ok h hgk hu hy hb,rfl⟩
  ·cases e
 ·split at e
  ·rename_i b g;split at e
   ·rename_i k hk;simp only[D4,G0]at e;obtain⟨rfl,rfl,rfl⟩:=e;have a2:=hg (b,g) (by simp)
    have hv:u=Y b:=by
     cases hu with
     |osl _ _ _ _ _ hh=>exact hh a2
    have hh:=xM h hk;subst hv;refine⟨hh.one,Y.inn b,hh.mono (λ_ _=>rfl) hI,?_⟩;unfold O6;rw[P1,sQ,S5,(rE hk).1]
   ·cases e
  ·have hu:=hu.im_inv;split at e
   ·split at e
    ·rename_i q hq;simp only[D4,G0]at e;obtain⟨rfl,rfl,rfl⟩:=e;obtain⟨rfl,k',rfl⟩:=EF hq;cases hu;exact nil_oc _ _ _ _
    ·cases e
   ·cases e
  ·cases e
def outCs_ok{X:St}{Y:Ly}(h:SatR B X a w Y){bs0:E7}(hgk:∀p∈bs0,X.gn p.1=p.2):∀{cs:List Oc} {us:List Value} {vs:List AV} {xs:List Oc} {bs gs:E7},Reps w (Imm B X Y w) Y X.gn us vs->outCs X cs vs=some (xs,bs,gs)->(∀p∈bs,p∈bs0)->(∀p∈gs,X.gn p.1=p.2) ->
  Z0 w (Imm B (app X (fwr bs0)) Y w) us xs (O6 X Y gs)
 |[],us,[],xs,bs,gs,hr,e,_,_=>by
  simp only[outCs,D4,G0]at e;rw[<- e.1,<- e.2.2,S9 hr.1];exact rfl
 |[],_,_::_,_,_,_,_,e,_,_=>by simp[outCs]at e
 |_::_,_,[],_,_,_,_,e,_,_=>by simp[outCs]at e
 |c::cs,[],v::vs,_,_,_,hr,_,_,_=>by have:=hr.1;simp at this
 |c::cs,u::us,v::vs,xs,bs,gs,hr,e,hb,hg=>by
  simp only[outCs]at e;split at e
  ·rename_i x b1 g1 xs1 bs1 gs1 h1 h2;simp only[D4,G0]at e;obtain⟨rfl,rfl,rfl⟩:=e
   exact⟨_,_,outC_ok h hgk (hr.2 0 u v rfl rfl) h1 (λp hp=>hb p (M1 _ hp)) λp hp=>hg p (M1 _ hp),
    outCs_ok h hgk ⟨by simpa using hr.1,λi u x hu hx=>hr.2 (i+1) u x (by simpa using hu) (by simpa using hx)⟩ h2 (λp hp=>hb p (M2 _ hp)) λp hp=>hg p (M2 _ hp),pF _ _ _⟩
  ·cases e
def dJ(xs:List Arg)(vs:List Value)(o:Nat):Option Value:=match xs[o]? with
 |some (.box _ _)=>vs[o]?
 |some (.lent _)=>vs[o]?
 |_=>none
def tQ{X:St}{Y:Ly}(h:SatR B X a w Y){bs0:E7}(hgk:∀p∈bs0,X.gn p.1=p.2):∀{xs:List Arg} {vs:List Value} {i:Nat} {ys ys':List Arg} {bs gs:E7},vs.length=xs.length->(∀j v,dJ xs vs j=some v->B.L (i+j)=some v)->Z5 X i xs ys=some (ys',bs,gs)->(∀p∈bs,p∈bs0)->(∀p∈gs,X.gn p.1=p.2) ->
  R7 w (Imm B (app X (fwr bs0)) Y w) (bxVs vs xs) ys' (O6 X Y gs)
 |[],[],i,ys,ys',bs,gs,hl,hL,e,hb,hg=>by
  cases ys with
  |nil =>
   simp only[Z5,D4,G0]at e;rw[<- e.1,<- e.2.2];exact rfl
  |cons _ _=>simp[Z5]at e
 |[],_::_,_,_,_,_,_,hl,_,_,_,_=>by simp at hl
 |_::_,[],_,_,_,_,_,hl,_,_,_,_=>by simp at hl
 | .im x::xs,v::vs,i,ys,ys',bs,gs,hl,hL,e,hb,hg=>by
  have e:Z5 X (i+1) xs ys=some (ys',bs,gs):=by cases ys<;>exact e
  exact tQ h hgk (xs:=xs) (vs:=vs) (i:=i+1) (by simpa using hl) (λj v hv=>by rw[U7,cP 1 j];exact hL (j+1) v (by simpa[dJ]using hv)) e hb hg
 | .ow k::xs,v::vs,i,ys,ys',bs,gs,hl,hL,e,hb,hg=>by
  have e:Z5 X (i+1) xs ys=some (ys',bs,gs):=by cases ys<;>exact e
  exact tQ h hgk (xs:=xs) (vs:=vs) (i:=i+1) (by simpa using hl) (λj v hv=>by rw[U7,cP 1 j];exact hL (j+1) v (by simpa[dJ]using hv)) e hb hg
 | .lent _::xs,v::vs,i,[],ys',bs,gs,hl,hL,e,hb,hg=>by simp[Z5]at e
 | .lent _::xs,v::vs,i,.im _::ys,ys',bs,gs,hl,hL,e,hb,hg=>by simp[Z5]at e
 | .lent _::xs,v::vs,i,.ow _::ys,ys',bs,gs,hl,hL,e,hb,hg=>by simp[Z5]at e
 | .lent _::xs,v::vs,i,.box _ _::ys,ys',bs,gs,hl,hL,e,hb,hg=>by simp[Z5]at e
 | .box _ _::xs,v::vs,i,.lent _::ys,ys',bs,gs,hl,hL,e,hb,hg=>by simp[Z5]at e
 | .lent k0::xs,v::vs,i,.lent k1::ys,ys',bs,gs,hl,hL,e,hb,hg=>by
  unfold Z5 at e;split at e
  ·rename_i k l b2 g2 hk h2;simp only[D4,G0]at e;obtain⟨rfl,rfl,rfl⟩:=e;have a2:X.gn i=0:=hg (i,0) (by simp);have hv:Y i=v:=h.rt i v (by have:=hL 0 v (by simp[dJ]);simpa using this) a2;have hh:=xM h hk;have hI:=(h.kills bs0).2
   refine⟨fpk (Y i) (Y.inn i) k,O6 X Y g2,⟨by rw[<- hv];exact hh.one,Y.inn i,by rw[<- hv];exact hh.mono (λ_ _=>rfl) hI,by rw[<- hv]⟩,
    tQ h hgk (xs:=xs) (vs:=vs) (i:=i+1) (by simpa using hl) (λj v hv=>by rw[U7,cP 1 j];exact hL (j+1) v (by simpa[dJ]using hv)) h2 hb (λp hp=>hg p (by simp[hp])),?_⟩
   unfold O6;rw[P1,(rE hk).1]
  ·cases e
 | .box t0 c0::xs,v::vs,i,[],ys',bs,gs,hl,hL,e,hb,hg=>by simp[Z5]at e
 | .box t0 c0::xs,v::vs,i,.im _::ys,ys',bs,gs,hl,hL,e,hb,hg=>by simp[Z5]at e
 | .box t0 c0::xs,v::vs,i,.ow _::ys,ys',bs,gs,hl,hL,e,hb,hg=>by simp[Z5]at e
 | .box t0 c0::xs,v::vs,i,.box _ cs::ys,ys',bs,gs,hl,hL,e,hb,hg=>by
  unfold Z5 at e;split at e
  ·rename_i t m hk;split at e
   ·rename_i a3 b1 g1 l b2 g2 h1 h2;simp only[D4,G0]at e;obtain⟨rfl,rfl,rfl⟩:=e;have a2:X.gn i=0:=hg (i,0) (by simp);have hv:Y i=v:=h.rt i v (by have:=hL 0 v (by simp[dJ]);simpa using this) a2;have ho:=h.obs i;rw[hk]at ho;obtain⟨q,us,e1,e2,e3,e4,e5⟩:=ho;have hr:=CY (X:=X) (b:=i) (us:=us) (t:=t) (by rw[e3];exact hk) e5
    refine⟨_,_,⟨q,us,O6 X Y g1,by rw[<- hv];exact e1,e2,e4,outCs_ok h hgk hr h1 (λp hp=>hb p (M1 _ hp)) (λp hp=>hg p (by simp[hp])),rfl⟩,
     tQ h hgk (xs:=xs) (vs:=vs) (i:=i+1) (by simpa using hl) (λj v hv=>by rw[U7,cP 1 j];exact hL (j+1) v (by simpa[dJ]using hv)) h2 (λp hp=>hb p (M2 _ hp)) (λp hp=>hg p (by simp[hp])),?_⟩
    rw[pF];unfold O6;rw[P1,hk,e1];rfl
   ·cases e
  ·cases e
def results_ok{fn:Func}{xs:List Arg}{vs0:List Value}{r:Rs}{X:St}(h:RetOk P fn.results.toList xs X r)(hs:Sat B X a w)(hl:vs0.length=xs.length)(hL:∀j v,dJ xs vs0 j=some v->B.L j=some v) :
  ∃v F',(results fn a.tmps).run P w=.ok v w/\ResOk w (λb=>(B.S0 b\/Mine B b)/\b<w.heap.size/\b∉F') v (bxVs vs0 xs) r F'/\F'.Nodup/\∀b∈F',Mine B b/\b<w.heap.size:=by
 obtain⟨Y,hs⟩:=hs;unfold RetOk at h;split at h
 ·rename_i vs c tp l ys b5;obtain⟨a7,h⟩:=h.ok;obtain⟨hg,h⟩:=h.out;obtain⟨us,b6,hr⟩:=resAs_ok hs b5 hg
  have a2:(results fn a.tmps).run P w=.ok (if h:us.toArray.size=1 then us.toArray[0] else .tuple us.toArray) w:=by
   rw[results_eq,Sem.run_bind,Array.mapM_eq_mapM_toList,map_eq_pure_bind,Sem.run_bind,b6];simp only[Result.andThen_ok,Sem.run_pure]
  split at h
  ·rename_i l' bs gs b7 bs' a4 h1 h2;obtain⟨b4,h⟩:=h.ok;obtain⟨a5,a8⟩:=mW b4;obtain⟨a9,rfl,rfl⟩:=h.out;have b0:∀p∈bs++bs',X.gn p.1=p.2:=λp hp=>a9 p (M1 _ hp);have a6:∀p∈gs++a4,X.gn p.1=p.2:=λp hp=>a9 p (M2 _ hp);have r1:=outCs_ok hs (bs0:=bs++bs') b0 hr h1 (λp hp=>M1 _ hp) λp hp=>a6 p (M1 _ hp);have r2:=tQ hs (bs0:=bs++bs') b0 hl (i:=0) (λj v hv=>by rw[J9];exact hL j v hv) h2 (λp hp=>M2 _ hp) λp hp=>a6 p (M2 _ hp)
   have a3:∀u x,RepI w (Imm B (app X (fwr (bs++bs'))) Y w) u x->RepI w (λb=>(B.S0 b\/Mine B b)/\b<w.heap.size/\b∉O6 X Y gs++O6 X Y a4) u x:=λu x hr=>hr.mono (λb hb=>⟨hb.1,hb.2.1,λhf=>by
    rw[<- pF]at hf
    obtain⟨p,hp,ho⟩:=lK.1 hf
    refine hb.2.2.1 p.1 ?_
    unfold Owns at ho ⊢
    rw[jK,if_neg (a8 p.1 (D8.2 ⟨p,hp,rfl⟩))]
    exact ho⟩) λ_ _ _ h=>h
   have hn:=zK hs a5;rw[pF]at hn
   have hm:∀b∈O6 X Y gs++O6 X Y a4,Mine B b/\b<w.heap.size:=λb hb=>by
    rw[<- pF]at hb;obtain⟨p,hp,ho⟩:=lK.1 hb;exact hs.own p.1 b ho
   have b2:us.toArray.size=vs.length:=by simp[hr.1]
   cases tp with
   |true =>
    have b3:¬us.toArray.size=1:=λe=>by
     rw[b2]at e;simp[e]at a7
    rw[dif_neg b3]at a2;exact⟨_,_,a2,⟨us,_,_,rfl,r1.mono a3,r2.mono a3,rfl⟩,hn,hm⟩
   |false =>
    have he:us.toArray.size=1:=by rw[b2];simpa using a7
    rw[dif_pos he]at a2
    obtain⟨u,rfl⟩:∃u,us=[u]:=by
     match us,he with
     |[u],_=>exact⟨u,rfl⟩
    exact⟨_,_,a2,⟨[u],_,_,rfl,r1.mono a3,r2.mono a3,rfl⟩,hn,hm⟩
  ·exact h.elim
 ·exact h.elim
def sig0:St:=λl=>match l with
 | .tmp _=>.av (.im .any)
 | .gen _=>.n 0
 | .ign _=>.n 0
 | .knd _=>.kd .dead
 | .cel _ _=>.av (.im .any)
def tau0:St:=λl=>match l with
 | .tmp _=>.av (.im .any)
 | .gen _=>.n 0
 | .ign _=>.n 0
 | .knd _=>.kd .dead
 | .cel o j=>.av (.osl (nmB o j) 0)
def eL:Arg->Oc
 | .im x=>.im x
 | .ow k=>.ow k
 | .box _ _=>.im .any
 | .lent _=>.im .any
def bxIx:Nat->List Arg->E7
 |_,[]=>[]
 |i,.box _ _::xs=>(i,i)::bxIx (i+1) xs
 |i,.lent _::xs=>(i,i)::bxIx (i+1) xs
 |i,.im _::xs=>bxIx (i+1) xs
 |i,.ow _::xs=>bxIx (i+1) xs
def bxAs:List Arg->List Arg
 |[]=>[]
 | .box t cs::xs=>.box t cs::bxAs xs
 | .lent k::xs=>.lent k::bxAs xs
 | .im _::xs=>bxAs xs
 | .ow _::xs=>bxAs xs
def argV(i:Nat)(x:Arg)(a:AV):AV:=match x with
 | .box _ _=>.own i 0 0
 | .lent _=>.osl i 0
 |_=>a
def tmpW:Nat->List Arg->List AV->List (Loc×Ct)
 |i,x::xs,a::al=>(.tmp i,.av (argV i x a))::tmpW (i+1) xs al
 |_,_,_=>[]
def entW(xs:List Arg):List (Loc×Ct):=match I5 tau0 (λi=>i) 0 (xs.map eL),bxPl tau0 (bxIx 0 xs) (bxAs xs) with
 |(al,ss),some (bl,ss')=>K9 tau0 (ss++ss')++(bxWr bl++tmpW 0 xs al)
 |_,none=>[]
def entOk(xs:List Arg):Bool:=match I5 tau0 (λi=>i) 0 (xs.map eL),bxPl tau0 (bxIx 0 xs) (bxAs xs) with
 |(_,ss),some (bl,ss')=>ndB ((ss++ss').map (·.1)) (bl.map (·.1))
 |_,none=>false
def st0(xs:List Arg):St:=app sig0 (entW xs)
def uR{S:Nat->Prop}:∀{vs:List Value} {xs:List Arg} {F:List Nat},R7 w S vs xs F->∃Ft Fb,Z0 w S vs (xs.map eL) Ft/\R7 w S (bxVs vs xs) (bxAs xs) Fb/\F.Perm (Ft++Fb)
 |[],[],F,h=>⟨[],[],rfl,rfl,by have h:F=[]:=h;rw[h];exact .refl _⟩
 |v::vs,.im x::xs,F,⟨F1,F2,h1,h2,h3⟩=>by
  obtain⟨Ft,Fb,a1,a2,a3⟩:=uR h2;obtain⟨h1,rfl⟩:=h1;exact⟨[]++Ft,Fb,⟨[],Ft,⟨h1,rfl⟩,a1,rfl⟩,a2,by rw[h3];exact a3⟩
 |v::vs,.ow k::xs,F,⟨F1,F2,h1,h2,h3⟩=>by
  obtain⟨Ft,Fb,a1,a2,a3⟩:=uR h2;exact⟨F1++Ft,Fb,⟨F1,Ft,h1,a1,rfl⟩,a2,by rw[h3,U8];exact a3.append_left F1⟩
 |v::vs,.box t cs::xs,F,⟨F1,F2,h1,h2,h3⟩=>by
  obtain⟨Ft,Fb,a1,a2,a3⟩:=uR h2;refine⟨[]++Ft,F1++Fb,⟨[],Ft,⟨.any _,rfl⟩,a1,rfl⟩,⟨F1,Fb,h1,a2,rfl⟩,?_⟩;rw[h3,Y9];refine(a3.append_left F1).trans ?_;rw[<- U8,<- U8];exact List.perm_append_comm.append_right Fb
 |v::vs,.lent k::xs,F,⟨F1,F2,h1,h2,h3⟩=>by
  obtain⟨Ft,Fb,a1,a2,a3⟩:=uR h2;refine⟨[]++Ft,F1++Fb,⟨[],Ft,⟨.any _,rfl⟩,a1,rfl⟩,⟨F1,Fb,h1,a2,rfl⟩,?_⟩;rw[h3,Y9];refine(a3.append_left F1).trans ?_;rw[<- U8,<- U8];exact List.perm_append_comm.append_right Fb
 |[],_::_,_,h=>h.elim
 |_::_,[],_,h=>h.elim
def R7.len{S:Nat->Prop}:∀{vs:List Value} {xs:List Arg} {F:List Nat},R7 w S vs xs F->vs.length=xs.length
 |[],[],_,_=>rfl
 |_::_,_::_,_,⟨_,_,_,h,_⟩=>by simp[h.len]
 |[],_::_,_,h=>h.elim
 |_::_,[],_,h=>h.elim
def tmpW_get:∀{xs:List Arg} {al:List AV} {i:Nat} {X:St} {t:Nat},xs.length=al.length->(app X (tmpW i xs al)).av t=match xs[t-i]?,al[t-i]? with|some x,some a=>if i<=t then argV t x a else X.av t|_,_=>X.av t
 |[],[],i,X,t,_=>by simp[tmpW,app]
 |[],_::_,_,_,_,h=>by simp at h
 |_::_,[],_,_,_,h=>by simp at h
 |x::xs,a::al,i,X,t,h=>by
  rw[tmpW,V2,tmpW_get (by simpa using h)];by_cases h1:i+1<=t
  ·obtain⟨m,hm⟩:∃m,t-i=m+1:=⟨t-i-1,by omega⟩;rw[hm,show t-(i+1)=m from by omega];have h2:i<=t:=by omega
   have h3:t≠i:=by omega
   simp only[List.getElem?_cons_succ,h1,h2,if_true,av_tmp,h3,if_false]
  ·by_cases h2:t=i
   ·subst h2;rw[sO];simp only[MJ,H4,if_true,h1,if_false,av_tmp];split<;>rfl
   ·have h3:¬i<=t:=by omega
    simp only[if_neg h1,if_neg h3,av_tmp,if_neg h2];split<;>split<;>rfl
def tmpW_same:∀{xs:List Arg} {al:List AV} {i:Nat} {X:St},lF X (app X (tmpW i xs al))
 |[],_,_,_=>⟨rfl,rfl,rfl,rfl⟩
 |_::_,[],_,_=>⟨rfl,rfl,rfl,rfl⟩
 |x::xs,a::al,i,X=>by
  have h1:=lF.tmp X i (.av (argV i x a));have h2:lF (upd X (.tmp i) (.av (argV i x a))) (app (upd X (.tmp i) (.av (argV i x a))) (tmpW (i+1) xs al)):=tmpW_same;exact⟨h2.gn.trans h1.gn,h2.ig.trans h1.ig,h2.kd.trans h1.kd,h2.ce.trans h1.ce⟩
def tZ:∀{xs:List Arg} {vs:List Value} {i j:Nat} {b:Nat} {p:Value},vs.length=xs.length->((bxIx i xs).map (·.1))[j]?=some b->(bxVs vs xs)[j]?=some p->i<=b/\vs[b-i]?=some p
 |[],[],i,j,b,p,_,h,_=>by simp[bxIx]at h
 |[],_::_,_,_,_,_,h,_,_=>by simp at h
 |_::_,[],_,_,_,_,h,_,_=>by simp at h
 | .im x::xs,v::vs,i,j,b,p,hl,h,k=>by
  obtain⟨h1,h2⟩:=tZ (i:=i+1) (by simpa using hl) h k;obtain⟨m,hm⟩:∃m,b-i=m+1:=⟨b-i-1,by omega⟩;exact⟨by omega,by rw[hm,show m=b-(i+1) from by omega];simpa using h2⟩
 | .ow x::xs,v::vs,i,j,b,p,hl,h,k=>by
  obtain⟨h1,h2⟩:=tZ (i:=i+1) (by simpa using hl) h k;obtain⟨m,hm⟩:∃m,b-i=m+1:=⟨b-i-1,by omega⟩;exact⟨by omega,by rw[hm,show m=b-(i+1) from by omega];simpa using h2⟩
 | .lent q::xs,v::vs,i,0,b,p,hl,h,k=>by
  simp[bxIx]at h;simp[bxVs]at k;subst h k;exact⟨H4 _,by simp⟩
 | .lent q::xs,v::vs,i,j+1,b,p,hl,h,k=>by
  obtain⟨h1,h2⟩:=tZ (i:=i+1) (j:=j) (by simpa using hl) (by simpa[bxIx]using h) (by simpa[bxVs]using k);obtain⟨m,hm⟩:∃m,b-i=m+1:=⟨b-i-1,by omega⟩;exact⟨by omega,by rw[hm,show m=b-(i+1) from by omega];simpa using h2⟩
 | .box t cs::xs,v::vs,i,0,b,p,hl,h,k=>by
  simp[bxIx]at h;simp[bxVs]at k;subst h k;exact⟨H4 _,by simp⟩
 | .box t cs::xs,v::vs,i,j+1,b,p,hl,h,k=>by
  obtain⟨h1,h2⟩:=tZ (i:=i+1) (j:=j) (by simpa using hl) (by simpa[bxIx]using h) (by simpa[bxVs]using k);obtain⟨m,hm⟩:∃m,b-i=m+1:=⟨b-i-1,by omega⟩;exact⟨by omega,by rw[hm,show m=b-(i+1) from by omega];simpa using h2⟩
def qG:∀{xs:List Arg} {i b:Nat},b∈(bxIx i xs).map (·.1)->i<=b
 |[],i,b,h=>by simp[bxIx]at h
 | .im x::xs,i,b,h=>by have:=qG (xs:=xs) (i:=i+1) h;omega
 | .ow x::xs,i,b,h=>by have:=qG (xs:=xs) (i:=i+1) h;omega
 | .lent k::xs,i,b,h=>by
  rw[bxIx,L0]at h;rcases I2.1 h with h|h
  ·exact pT h.symm
  ·have:=qG (xs:=xs) (i:=i+1) h;omega
 | .box t cs::xs,i,b,h=>by
  rw[bxIx,L0]at h;rcases I2.1 h with h|h
  ·exact pT h.symm
  ·have:=qG (xs:=xs) (i:=i+1) h;omega
def uQ:∀{xs:List Arg} {i:Nat},((bxIx i xs).map (·.1)).Nodup
 |[],i=>gP
 | .im x::xs,i=>uQ (xs:=xs) (i:=i+1)
 | .ow x::xs,i=>uQ (xs:=xs) (i:=i+1)
 | .lent k::xs,i=>by
  rw[bxIx,L0,dZ];exact⟨λh=>by have:=qG h;omega,uQ⟩
 | .box t cs::xs,i=>by
  rw[bxIx,L0,dZ];exact⟨λh=>by have:=qG h;omega,uQ⟩
def isLent:Arg->Bool
 | .box _ _=>true
 | .lent _=>true
 |_=>false
def qK:∀{xs:List Arg} {i o:Nat} {x:Arg},xs[o]?=some x->isLent x=true->i+o∈(bxIx i xs).map (·.1)
 |[],i,o,x,h,_=>by simp at h
 | .box t' cs'::xs,i,0,x,h,_=>by simp[bxIx]
 | .lent k::xs,i,0,x,h,_=>by simp[bxIx]
 | .im y::xs,i,0,x,h,hl=>by simp at h;subst h;cases hl
 | .ow y::xs,i,0,x,h,hl=>by simp at h;subst h;cases hl
 | .im y::xs,i,o+1,x,h,hl=>by have:=qK (xs:=xs) (i:=i+1) (o:=o) (x:=x) (by simpa using h) hl;rw[bxIx,show i+(o+1)=i+1+o from by omega];exact this
 | .ow y::xs,i,o+1,x,h,hl=>by have:=qK (xs:=xs) (i:=i+1) (o:=o) (x:=x) (by simpa using h) hl;rw[bxIx,show i+(o+1)=i+1+o from by omega];exact this
 | .box t' cs'::xs,i,o+1,x,h,hl=>by
  have:=qK (xs:=xs) (i:=i+1) (o:=o) (x:=x) (by simpa using h) hl;rw[bxIx,L0,show i+(o+1)=i+1+o from by omega];exact K3 _ this
 | .lent k::xs,i,o+1,x,h,hl=>by
  have:=qK (xs:=xs) (i:=i+1) (o:=o) (x:=x) (by simpa using h) hl;rw[bxIx,L0,show i+(o+1)=i+1+o from by omega];exact K3 _ this
def lkWr_gn(X:St)(b:Nat)(x:LK):(app X (lkWr b x)).gn=X.gn:=by
 cases x with
 |box t al =>
  show(app (upd X (.knd b) (.kd (.box t al.length))) (P8 b 0 al)).gn=_;rw[xR];exact funext λo=>aT X b o _
 |obj k=>exact funext λo=>aT X b o _
def lkWr_av(X:St)(b:Nat)(x:LK)(t:Nat):(app X (lkWr b x)).av t=X.av t:=by
 cases x with
 |box ty al =>
  show(app (upd X (.knd b) (.kd (.box ty al.length))) (P8 b 0 al)).av t=_;rw[xS,dO]
 |obj k=>exact dO X b t _
def bxWr_gn:∀{bl:List (Nat×LK)} {X:St},(app X (bxWr bl)).gn=X.gn
 |[],_=>rfl
 |(b,x)::bl,X=>by
  show(app X (lkWr b x++bxWr bl)).gn=_;rw[O8,bxWr_gn,lkWr_gn]
def R7.ptr{S:Nat->Prop}:∀{vs:List Value} {xs:List Arg} {F:List Nat},R7 w S vs xs F->∀{i:Nat} {v:Value} {t:TypeId} {cs:List Oc},vs[i]?=some v->xs[i]?=some (.box t cs)->∃q,v=.pointer (some ⟨q,0,none⟩)
 |[],[],_,_,i,_,_,_,h,_=>by simp at h
 |v::vs,x::xs,_,⟨_,_,h1,h2,_⟩,0,u,t,cs,h,k=>by
  simp at h k;subst h k;obtain⟨q,_,_,e,_⟩:=h1;exact⟨q,e⟩
 |v::vs,x::xs,_,⟨_,_,h1,h2,_⟩,i+1,u,t,cs,h,k=>h2.ptr (by simpa using h) (by simpa using k)
 |[],_::_,_,h,_,_,_,_,_,_=>h.elim
 |_::_,[],_,h,_,_,_,_,_,_=>h.elim
def R7.one{S:Nat->Prop}:∀{vs:List Value} {xs:List Arg} {F:List Nat},R7 w S vs xs F->∀{i:Nat} {v:Value} {k:Kd},vs[i]?=some v->xs[i]?=some (.lent k)->v.oneCell'=true
 |[],[],_,_,i,_,_,h,_=>by simp at h
 |v::vs,x::xs,_,⟨_,_,h1,h2,_⟩,0,u,k',h,k=>by
  simp at h k;subst h k;exact h1.1
 |v::vs,x::xs,_,⟨_,_,h1,h2,_⟩,i+1,u,k',h,k=>h2.one (by simpa using h) (by simpa using k)
 |[],_::_,_,h,_,_,_,_,_=>h.elim
 |_::_,[],_,h,_,_,_,_,_=>h.elim
def st0_sat(w:World)(S:Nat->Prop){vs:List Value}{xs:List Arg}{F:List Nat}(h:R7 w S vs xs F)(hnd:F.Nodup)(hF:∀b∈F,¬S b/\b<w.heap.size)(hS:∀b,S b->b<w.heap.size)(n:Nat)(hn:vs.length<=n)(hok:entOk xs=true) :
  Sat ⟨w,S,n,λb=>b∈F,λ_=>False,dJ xs vs,[]⟩ (st0 xs) { tmps:=vs.toArray++Array.replicate (n-vs.toArray.size) undef,defers:=[] } w:=by
 have b9:=h.len;obtain⟨Ft,Fb,a1,a2,a3⟩:=uR h;have a5:=a3.nodup_iff.1 hnd;rw[aF]at a5;have b7:∀b,b∈Ft\/b∈Fb->b∈F:=λb hb=>a3.mem_iff.2 (K0.2 hb);unfold entOk at hok;unfold st0 entW;cases hbl:bxPl tau0 (bxIx 0 xs) (bxAs xs) with
 |none=>rw[hbl]at hok;cases hok
 |some q =>
  obtain⟨bl,a4⟩:=q;rw[hbl]at hok;simp only at hok ⊢;obtain⟨a8,b0⟩:=mW hok;have d6:=a8;rw[N3,aF]at a8
  have h0:SatR ⟨w,S,n,λb=>b∈F,λb=>b∈F,dJ xs vs,[]⟩ sig0 { tmps:=vs.toArray++Array.replicate (n-vs.toArray.size) undef,defers:=[] } w ⟨λo=>vs.getD o undef,λ_=>[],λ_=>0⟩:=by
   refine⟨Belo.refl _ _ w,λo=>trivial,λo b ho=>absurd rfl ho.lv,λo p b ho=>absurd rfl ho.lv,λt=>.im _ _ (.any _),λo=>rfl,λb hb=>⟨⟨.inr hb,(hF b hb).2⟩,λo ho=>absurd rfl ho.lv⟩,λo v hl _=>?_,by simp;omega,rfl⟩;have hl:dJ xs vs o=some v:=hl;unfold dJ at hl;split at hl
   ·show vs.getD o undef=v;simp[List.getD,hl]
   ·show vs.getD o undef=v;simp[List.getD,hl]
   ·cases hl
  have d0:∀b,S b->Imm ⟨w,S,n,λb=>b∈F,λb=>b∈F,dJ xs vs,[]⟩ sig0 ⟨λo=>vs.getD o undef,λ_=>[],λ_=>0⟩ w b:=λb hb=>⟨.inl hb,hS b hb,λo ho=>absurd rfl ho.lv,λhf=>(hF b hf).1 hb⟩;obtain⟨Y2,Z2,b1,b2,b3,b4,b5,b6⟩:=uF tau0 (λi=>i) (l:=xs.map eL) (i:=0) h0 a1 d0 a5.1 (λb hb=>b7 b (.inl hb)) a8.1 λ_ _=>⟨rfl,rfl⟩
  obtain⟨Y3,Z3,qs,c1,c2,c3,c4,c5,c6,c7,c8,c9⟩:=yN tau0 hbl b1 a2 (λb hb=>b5 b (d0 b hb)) a5.2.1 (λb hb=>b2 b (b7 b (.inr hb)) λhf=>a5.2.2 b hf b hb rfl) a8.2.1 λp hp=>by
   obtain⟨_,d2,d3,_⟩:=b6 p.1 λhm=>a8.2.2 p.1 hm p.1 (D8.2 ⟨p,hp,rfl⟩) rfl;exact⟨d2,d3⟩
  have d1:app (app sig0 (K9 tau0 (I5 tau0 (λi=>i) 0 (xs.map eL)).2)) (K9 tau0 a4)=app sig0 (K9 tau0 ((I5 tau0 (λi=>i) 0 (xs.map eL)).2++a4)):=by rw[AB,O8]
  rw[d1]at c1 c5 c7 c8 c9
  have a9:∀b,b∈bl.map (·.1)->Y3 b=vs.getD b undef:=λb hb=>by
   have a6:b∉(I5 tau0 (λi=>i) 0 (xs.map eL)).2.map (·.1):=λhm=>b0 b (by rw[N3];exact M1 _ hm) hb;have a7:b∉a4.map (·.1):=λhm=>b0 b (by rw[N3];exact M2 _ hm) hb;rw[(c9 b a7).1,(b6 b a6).1]
  obtain⟨Z4,e1,e2,e3⟩:=DY c1 c5 c4 (λq hq=>(c3 q hq).1) (by rw[c6];exact uQ) λj b p hb hp=>by
   have d4:=H8 hb;rw[c6]at hb;obtain⟨_,hp⟩:=tZ b9 hb hp;rw[a9 b d4];rw[sN]at hp;simp[List.getD,hp]
  obtain⟨g1,_,g3,_⟩:=e1.stepZ (X':=app (app sig0 (K9 tau0 ((I5 tau0 (λi=>i) 0 (xs.map eL)).2++a4))) (bxWr bl)) (Y':=Y3) (w':=w) (λ_=>False) (λ_=>False) (λ_=>rfl) (λ_ _=>⟨rfl,rfl,λ_=>rfl,rfl,rfl,rfl⟩) (λ_ hd=>hd.elim) e1.igs (Belo.refl _ _ _) (λ_ _ hd=>hd.elim) (λ_ _ _ hd=>hd.elim)
   (λ_ hb=>hb.elim) λ_ _ _ hd=>hd.elim
  refine⟨Y3,?_⟩;rw[O8,O8]
  have lent:∀t (ht:t<vs.length),t∈bl.map (·.1)->(app (app sig0 (K9 tau0 ((I5 tau0 (λi=>i) 0 (xs.map eL)).2++a4))) (bxWr bl)).gn t=0/\Y3 t=vs[t]:=λt ht hb=>by
   have a6:t∉(I5 tau0 (λi=>i) 0 (xs.map eL)).2.map (·.1):=λhm=>b0 t (by rw[N3];exact M1 _ hm) hb;have a7:t∉a4.map (·.1):=λhm=>b0 t (by rw[N3];exact M2 _ hm) hb;refine⟨?_,by rw[a9 t hb];simp[List.getD,ht]⟩;rw[bxWr_gn,(c9 t a7).2.1,(b6 t a6).2.1];rfl
  refine g1.slots tmpW_same (λt=>?_) (by simp;omega) rfl;have d5:xs.length=(I5 tau0 (λi=>i) 0 (xs.map eL)).1.length:=by rw[<- b3.1,b9]
  rw[tmpW_get d5,sN];by_cases ht:t<vs.length
  ·have hx:t<xs.length:=by omega
   have hv:(vs.toArray++Array.replicate (n-vs.toArray.size) undef).getD t undef=vs[t]:=by
    simp only[CG];rw[Array.getElem?_append_left (by simpa using ht)];simp[ht]
   obtain⟨al,b8⟩:∃al,(I5 tau0 (λi=>i) 0 (xs.map eL)).1[t]?=some al:=⟨_,L4 (by omega)⟩;have hr:=g3 _ _ (e3 _ _ (c7 _ _ (b3.2 t vs[t] al (L4 ht) b8)));rw[hv,L4 hx,b8];simp only[F8,if_true];cases hxt:xs[t]with
   |im x=>exact hr
   |ow k=>exact hr
   |box ty cs =>
    have hb:t∈bl.map (·.1):=by
     rw[c6];have:=qK (xs:=xs) (i:=0) (o:=t) (x:=.box ty cs) (by rw[L4 hx,hxt]) rfl
     rwa [J9]at this
    obtain⟨hg,c0⟩:=lent t ht hb;obtain⟨q,hq⟩:∃q,vs[t]=.pointer (some ⟨q,0,none⟩):=R7.ptr h (L4 ht) (by rw[L4 hx,hxt]);exact .own _ _ _ _ (by rw[hq];rfl) (by rw[hg];exact H4 _) λ_=>⟨q,c0.trans hq,hq⟩
   |lent k =>
    have hb:t∈bl.map (·.1):=by
     rw[c6];have:=qK (xs:=xs) (i:=0) (o:=t) (x:=.lent k) (by rw[L4 hx,hxt]) rfl
     rwa [J9]at this
    obtain⟨hg,c0⟩:=lent t ht hb;exact .osl _ _ _ (R7.one h (L4 ht) (by rw[L4 hx,hxt])) (by rw[hg];exact H4 _) λ_=>c0.symm
  ·rw[fM (by omega)]
   have e0:(app (app sig0 (K9 tau0 ((I5 tau0 (λi=>i) 0 (xs.map eL)).2++a4))) (bxWr bl)).av t=.im .any:=by
    have k1:∀(bl:List (Nat×LK)) (X:St),(app X (bxWr bl)).av t=X.av t:=by
     intro bl
     induction bl with
     |nil=>intro X;rfl
     |cons x bl ih =>
      intro X;obtain⟨b,x⟩:=x;show(app X (lkWr b x++bxWr bl)).av t=_;rw[O8,ih,lkWr_av]
    have k2:∀(l:List (Nat×Kd)) (X:St),(app X (K9 tau0 l)).av t=X.av t:=by
     intro l
     induction l with
     |nil=>intro X;rfl
     |cons p l ih =>
      intro X;rw[K9,O8,ih];exact(mkK_eqs X tau0 p.1 p.2).2.2.2.1 t
    rw[k1,k2];rfl
   simp only;rw[e0];exact .im _ _ (.any _)
def fY{f:FuncId}{fn:Func}{c:Code}(hf:P.funcs[f]?=some fn)(hname:(fn.name=="runtime.NumGoroutine")=false)(hb:fn.body=some c)(args:Array Value)(w:World):(callFunc f args).run P w=.ok (.enter f args) w:=by
 have h1:fn.name≠"runtime.NumGoroutine":=by simpa using hname
 simp[callFunc,hf,h1,hb]
def sp_of_code(hm:P.follows .mixedOrders=true){C:FuncId->List Arg->Rs->Prop}(hC:∀g xs r,C g xs r->SpX P g xs r){own:List Nat}{f:FuncId}{fn:Func}{c:Code}(hf:P.funcs[f]?=some fn)(hname:(fn.name=="runtime.NumGoroutine")=false)(hb:fn.body=some c)
  {xs:List Arg} {r:Rs} (hn:xs.length<=fn.ntmps) (hok:entOk xs=true) (h:∀w S vs F,R7 w S vs xs F->bE P C fn.ntmps own c (retK P fn.results.toList xs r) (st0 xs)):Sp P f xs r:=by
 refine⟨λargs w=>fY hf hname hb args w,λw S vs F hS a3 a6 hF=>?_⟩;have a4:=a3.len;refine calls_of_wp hf hb (iD (B:=⟨w,S,fn.ntmps,λb=>b∈F,λ_=>False,dJ xs vs,[]⟩) hm hC c _ _ (h w S vs F a3) _ _ (st0_sat w S a3 a6 hF hS fn.ntmps (by rw[a4];exact hn) hok) _ λe X' a' w' hk a2=>?_)
 have fin:RetOk P fn.results.toList xs X' r->a'.defers=[]/\∃v,(results fn a'.tmps).run P w'=.ok v w'/\∃(v':Value) (F':List Nat),Ending.returned v=.returned v'/\Belo (λb=>b∈F) w.heap.size w w' /\
   ResOk w' (λb=>(S b\/w.heap.size<=b\/b∈F)/\b<w'.heap.size/\b∉F') v' (bxVs vs xs) r F'/\F'.Nodup/\∀b∈F',(w.heap.size<=b\/b∈F)/\b<w'.heap.size:=λhk=>by
  obtain⟨v,F',hv,a5,h1,h2⟩:=results_ok (vs0:=vs) hk a2 a4 λj v hv=>hv;obtain⟨Y,a2⟩:=a2;exact⟨a2.dfr,v,hv,v,F',rfl,a2.bel,a5,h1,h2⟩
 cases e with
 |ret=>exact fin hk
 |normal=>exact fin hk
 |exit id=>exact hk.elim
 |goto l=>exact hk.elim
 |panic ch=>exact hk.elim
 |outgrown=>exact hk.elim
end
end
section
def lookA:List (Nat×AV)->Nat->AV
 |[],_=>.im .any
 |p::l,t=>match Nat.beq t p.1 with|true=>p.2|false=>lookA l t
def aQ:List (Nat×Kd)->Nat->Kd
 |[],_=>.dead
 |p::l,t=>match Nat.beq t p.1 with|true=>p.2|false=>aQ l t
def lookC:List (Nat×Nat×AV)->Nat->Nat->AV
 |[],_,_=>.im .any
 |p::l,o,i=>match Nat.beq o p.1&&Nat.beq i p.2.1 with|true=>p.2.2|false=>lookC l o i
def gnM:List (Nat×Kd)->Nat->Nat
 |[],_=>1
 |p::l,o=>match Nat.beq o p.1 with|true=>(match Nat.blt o 64 with|true=>0|false=>1)|false=>gnM l o
def mkSt(avs:List (Nat×AV))(kds:List (Nat×Kd))(cels:List (Nat×Nat×AV)):St:=λl=>match l with
 | .tmp t=>.av (lookA avs t)
 | .gen o=>.n (gnM kds o)
 | .ign _=>.n 0
 | .knd o=>.kd (aQ kds o)
 | .cel o i=>.av (lookC cels o i)
inductive Sub:AV->AV->Prop
 |refl (a:AV):Sub a a
 |any (a:AV):Sub a (.im .any)
 |nz (x:IV):Sub (.im x) (.im (Sym.nz x))
def RepA.less{w:World}{S:Nat->Prop}{Y:Ly}{E:Nat->Nat}{v:Value}{x y:AV}(h:RepA w S Y E v x)(s:Sub x y):RepA w S Y E v y:=by
 cases s with
 |refl=>exact h
 |any=>exact .im _ _ (.any _)
 |nz x=>exact .im _ _ (nz_rep h.im_inv)
def Sub.rfl'{a b:AV}(h:a=b):Sub a b:=h ▸ .refl _
def Sub.nz'{x y:IV}(h:Sym.nz x=y):Sub (.im x) (.im y):=h ▸ .nz x
def S3:List (Nat×Option Nat)->Nat->Option (Option Nat)
 |[],_=>none
 |p::l,b=>match Nat.beq b p.1 with|true=>some p.2|false=>S3 l b
def srcs:List (Nat×Option Nat)->List Nat
 |[]=>[]
 |(_,some a)::l=>a::srcs l
 |(_,none)::l=>srcs l
mutual
inductive SubR(X:St)(src:List (Nat×Option Nat))(E:Nat->Nat):AV->AV->Prop
 |im {a:AV} {b:IV} (h:Sub a (.im b)):SubR X src E a (.im b)
 |osl {a b g g':Nat} (h:S3 src b=some (some a)) (hg:X.gn a=g) (hg':E b=g'):SubR X src E (.osl a g) (.osl b g')
 |osv {a b g g' k m:Nat} (h:S3 src b=some (some a)) (hg:X.gn a=g) (hg':E b=g'):SubR X src E (.osv a g k m) (.osv b g' k m)
 |made {b g':Nat} (h:S3 src b=some none) (hg':E b=g'):SubR X src E (.im (.val (.slice none 0 0))) (.osl b g')
 |own {a b g g' i:Nat} (h:S3 src b=some (some a)) (hg:X.gn a=g) (hg':E b=g'):SubR X src E (.own a g i) (.own b g' i)
 |elt {a b g g' k i j:Nat} (h:S3 src b=some (some a)) (hg:X.gn a=g) (hg':E b=g'):SubR X src E (.elt a g k i j) (.elt b g' k i j)
 |sub {a b g i:Nat} (h:S3 src b=some (some a)) (hg:X.ig a=g):SubR X src E (.sub a g i) (.sub b 0 i)
 |fn {f:FuncId} {cs ds:List AV} (h:SubRs X src E cs ds):SubR X src E (.fn f cs) (.fn f ds)
 |agg {cs ds:List AV} (h:SubRs X src E cs ds):SubR X src E (.agg cs) (.agg ds)
inductive SubRs(X:St)(src:List (Nat×Option Nat))(E:Nat->Nat):List AV->List AV->Prop
 |nil:SubRs X src E [] []
 |cons {c d:AV} {cs ds:List AV} (h:SubR X src E c d) (t:SubRs X src E cs ds):SubRs X src E (c::cs) (d::ds)
end
section
variable {w:World}{S S':Nat->Prop}{X:St}{Y Y':Ly}{src:List (Nat×Option Nat)}{E:Nat->Nat}
mutual
def SubR.rep(hI:∀v x,RepI w S v x->RepI w S' v x)(hY:∀b a,S3 src b=some (some a)->Y' b=Y a/\Y'.inn b=Y.inn a)(hn:∀b,S3 src b=some none->Y' b=.slice none 0 0)(hig:(∀o,Y.ig o=X.ig o)/\∀o,Y'.ig o=0) :
  ∀{x y:AV},SubR X src E x y->∀{v:Value},RepA w S Y X.gn v x->RepA w S' Y' E v y
 |x,_,.im h,v,hr=>.im _ _ (hI _ _ (hr.less h).im_inv)
 |_,_,.osl h hg hg',v,hr=>by
  cases hr with
  |osl _ _ _ h1 h2 h3=>exact .osl _ _ _ h1 (pT hg'.symm) λ_=>by rw[(hY _ _ h).1];exact h3 hg
 |_,_,.osv h hg hg',v,hr=>by
  cases hr with
  |osv _ _ _ _ _ h1 h2 h3=>exact .osv _ _ _ _ _ h1 (pT hg'.symm) λ_=>by rw[(hY _ _ h).1];exact h3 hg
 |_,_,.made h hg',v,hr=>by
  cases hr.im_inv with
  |val _=>exact .osl _ _ _ rfl (pT hg'.symm) λ_=>(hn _ h).symm
 |_,_,.own h hg hg',v,hr=>by
  cases hr with
  |own _ _ _ _ h1 h2 h3=>exact .own _ _ _ _ h1 (pT hg'.symm) λ_=>by rw[(hY _ _ h).1];exact h3 hg
 |_,_,.elt h hg hg',v,hr=>by
  cases hr with
  |elt _ _ _ _ _ _ h1 h2 h3=>exact .elt _ _ _ _ _ _ h1 (pT hg'.symm) λ_=>by rw[(hY _ _ h).1];exact h3 hg
 |_,_,.sub h hg,v,hr=>by
  cases hr with
  |sub _ _ _ _ h1 h2 h3=>exact .sub _ _ _ _ h1 (F8 _) λ_=>by rw[(hY _ _ h).2];exact h3 ((hig.1 _).trans hg)
 |_,_,.fn h,v,hr=>by
  cases hr with
  |fn _ us _ hl h1 =>
   have:=SubRs.rep hI hY hn hig h ⟨hl,h1⟩;exact .fn _ _ _ this.1 this.2
 |_,_,.agg h,v,hr=>by
  cases hr with
  |agg us _ hl h0 h1 =>
   have:=SubRs.rep hI hY hn hig h ⟨hl,h1⟩;exact .agg _ _ this.1 h0 this.2
def SubRs.rep(hI:∀v x,RepI w S v x->RepI w S' v x)(hY:∀b a,S3 src b=some (some a)->Y' b=Y a/\Y'.inn b=Y.inn a)(hn:∀b,S3 src b=some none->Y' b=.slice none 0 0)(hig:(∀o,Y.ig o=X.ig o)/\∀o,Y'.ig o=0) :
  ∀{xs ys:List AV},SubRs X src E xs ys->∀{us:List Value},Reps w S Y X.gn us xs->Reps w S' Y' E us ys
 |_,_,.nil,us,hr=>⟨hr.1,λi u x hu hx=>by simp at hx⟩
 |_,_,.cons h t,[],hr=>by have:=hr.1;simp at this
 |_,_,.cons h t,u::us,hr=>by
  have h1:=SubR.rep hI hY hn hig h (hr.2 0 u _ rfl rfl);have h2:=SubRs.rep hI hY hn hig t (us:=us) ⟨by simpa using hr.1,λi u x hu hx=>hr.2 (i+1) u x (by simpa using hu) (by simpa using hx)⟩;refine⟨by simp[h2.1],λi v x hv hx=>?_⟩;cases i with
  |zero=>simp at hv hx;subst hv hx;exact h1
  |succ i=>exact h2.2 i v x (by simpa using hv) (by simpa using hx)
end
end
def SubL(X:St)(src:List (Nat×Option Nat))(E:Nat->Nat):List (Nat×AV)->Prop
 |[]=>True
 |p::l=>(∃x,X.av p.1=x/\SubR X src E x p.2)/\SubL X src E l
def KeepOk(X:St)(o a:Nat):Prop:=match Nat.blt o 64 with|true=>a=o/\X.gn a=0|false=>True
def NilKd(o:Nat)(k:Kd):Prop:=Nat.blt o 64=false/\((∃e m,k=.row e m []/\0<m)\/(∃e e' m,k=.grid e e' m [] none)\/∃t e m,k=.bag t e m [] none)
def KdL(X:St)(src:List (Nat×Option Nat)):List (Nat×Kd)->Prop
 |[]=>True
 |p::l=>((∃a,S3 src p.1=some (some a)/\X.kd a=p.2/\KeepOk X p.1 a)\/(S3 src p.1=some none/\NilKd p.1 p.2))/\KdL X src l
def CeL(X:St)(src:List (Nat×Option Nat))(E:Nat->Nat):List (Nat×Nat×AV)->Prop
 |[]=>True
 |p::l=>(∃a x,S3 src p.1=some (some a)/\X.ce a p.2.1=x/\SubR X src E x p.2.2)/\CeL X src E l
def lookA_sub{X:St}{src:List (Nat×Option Nat)}{E:Nat->Nat}:∀{avs:List (Nat×AV)},SubL X src E avs->∀t,SubR X src E (X.av t) (lookA avs t)
 |[],_,t=>.im (.any _)
 |p::l,h,t=>by
  unfold lookA;split
  ·rename_i e;have e:=S2 e;subst e;obtain⟨x,h1,h2⟩:=h.1;rw[h1];exact h2
  ·exact lookA_sub h.2 t
def lookC_sub{X:St}{src:List (Nat×Option Nat)}{E:Nat->Nat}:∀{cels:List (Nat×Nat×AV)},CeL X src E cels->∀b a i,S3 src b=some (some a)->SubR X src E (X.ce a i) (lookC cels b i)
 |[],_,b,a,i,_=>.im (.any _)
 |p::l,h,b,a,i,hs=>by
  unfold lookC;split
  ·rename_i e;rw[M7]at e;have e1:=S2 e.1;have e2:=S2 e.2;subst e1 e2;obtain⟨a',x,h1,h3,h2⟩:=h.1;rw[hs]at h1;injection h1 with h1
   injection h1 with h1
   subst h1;rw[h3];exact h2
  ·exact lookC_sub h.2 b a i hs
def lookK_sub{X:St}{src:List (Nat×Option Nat)}:∀{kds:List (Nat×Kd)},KdL X src kds->∀o,aQ kds o≠.dead ->
  (∃a,S3 src o=some (some a)/\X.kd a=aQ kds o/\KeepOk X o a)\/(S3 src o=some none/\NilKd o (aQ kds o))
 |[],_,o,h=>absurd rfl h
 |p::l,h,o,hd=>by
  unfold aQ at hd ⊢;split
  ·rename_i e;have e:=S2 e;subst e;exact h.1
  ·rename_i e;rw[e]at hd;exact lookK_sub h.2 o hd
def gnM_keep{X:St}{src:List (Nat×Option Nat)}:∀{kds:List (Nat×Kd)},KdL X src kds->∀o,gnM kds o=0->S3 src o=some (some o)/\X.gn o=0
 |[],_,o,h=>by simp[gnM]at h
 |p::l,h,o,hg=>by
  unfold gnM at hg;split at hg
  ·rename_i e;have e:=S2 e;subst e;split at hg
   ·rename_i hb;rcases h.1 with⟨a,h1,_,h3⟩|⟨_,h3,_⟩
    ·unfold KeepOk at h3;rw[hb]at h3;obtain⟨rfl,h4⟩:=h3;exact⟨h1,h4⟩
    ·rw[hb]at h3;cases h3
   ·cases hg
  ·exact gnM_keep h.2 o hg
def yQ:∀{src:List (Nat×Option Nat)} {b a:Nat},S3 src b=some (some a)->a∈srcs src
 |[],b,a,h=>by cases h
 |(c,o)::l,b,a,h=>by
  unfold S3 at h;split at h
  ·simp only[D4]at h;subst h;simp[srcs]
  ·cases o with
   |none=>exact yQ (src:=l) h
   |some d=>exact K3 _ (yQ h)
def srcOf_inj:∀{src:List (Nat×Option Nat)},(srcs src).Nodup->∀{b c a:Nat},S3 src b=some (some a)->S3 src c=some (some a)->b=c
 |[],_,b,c,a,h,_=>by cases h
 |(d,o)::l,hn,b,c,a,h,k=>by
  unfold S3 at h k;cases o with
  |none =>
   split at h
   ·cases h
   ·split at k
    ·cases k
    ·exact srcOf_inj (src:=l) hn h k
  |some q =>
   obtain⟨h1,h2⟩:=dZ.1 hn;split at h
   ·rename_i e1;simp only[D4]at h;subst h;split at k
    ·rename_i e2;rw[S2 e1,S2 e2]
    ·exact absurd (yQ k) h1
   ·split at k
    ·simp only[D4]at k;subst k;exact absurd (yQ h) h1
    ·exact srcOf_inj h2 h k
def Ent.mk{X:St}{avs:List (Nat×AV)}{kds:List (Nat×Kd)}{cels:List (Nat×Nat×AV)}(src:List (Nat×Option Nat))(hn:ndB (srcs src) []=true)(ha:SubL X src (gnM kds) avs)(hk:KdL X src kds)(hc:CeL X src (gnM kds) cels):Ent X (mkSt avs kds cels):=by
 rintro B a w ⟨Y,hs⟩;have a5:=(mW hn).1
 let Y':Ly:=⟨λb=>match S3 src b with|some (some a)=>Y a|_=>.slice none 0 0,λb=>match S3 src b with|some (some a)=>Y.inn a|_=>[],λ_=>0⟩
 have hY:∀b a,S3 src b=some (some a)->Y' b=Y a/\Y'.inn b=Y.inn a:=λb a h=>by simp only[Y',h];exact⟨trivial,trivial⟩
 have hρn:∀b,S3 src b=some none->Y' b=.slice none 0 0:=λb h=>by simp only[Y',h]
 have hρi:∀b,S3 src b=some none->Y'.inn b=[]:=λb h=>by simp only[Y',h]
 have a3:∀o,(mkSt avs kds cels).kd o=aQ kds o:=λ_=>rfl
 have a2:∀o q,Owns (mkSt avs kds cels) Y' o q->∃a,S3 src o=some (some a)/\Owns X Y a q:=λo q hq=>by
  rcases lookK_sub hk o hq.lv with⟨a,h1,h2,_⟩|⟨h1,_,h2⟩
  ·refine⟨a,h1,?_⟩;unfold Owns at hq ⊢;rw[a3,(hY o a h1).1,(hY o a h1).2]at hq;rw[h2];exact hq
  ·unfold Owns at hq;rw[a3,hρn o h1,hρi o h1]at hq;rcases h2 with⟨e,m,h2,_⟩|⟨e,e',m,h2⟩|⟨t,e,m,h2⟩
   ·rw[h2]at hq;simp[fpk,G3]at hq
   ·rw[h2]at hq;simp[fpk,fpv,G3]at hq
   ·rw[h2]at hq;simp[fpk,fpv,G3]at hq
 have hS:∀b,Imm B X Y w b->Imm B (mkSt avs kds cels) Y' w b:=λb hi=>⟨hi.1,hi.2.1,λo hq=>by
  obtain⟨a,_,h2⟩:=a2 o b hq
  exact hi.2.2.1 a h2,hi.2.2.2⟩
 have hI:∀v x,RepI w (Imm B X Y w) v x->RepI w (Imm B (mkSt avs kds cels) Y' w) v x:=λv x hr=>hr.mono hS λ_ _ _ h=>h;have hA:∀{x y:AV},SubR X src (gnM kds) x y->∀{v:Value},RepA w (Imm B X Y w) Y X.gn v x->RepA w (Imm B (mkSt avs kds cels) Y' w) Y' (mkSt avs kds cels).gn v y:=λh _ hr=>SubR.rep hI hY hρn ⟨hs.igs,λ_=>rfl⟩ h hr;refine⟨Y',hs.bel,λo=>?_,λo b ho=>?_,λo p b h1 h2=>?_,λt=>hA (lookA_sub ha t) (hs.tms t),λ_=>rfl,λb hb=>⟨(hs.res b hb).1,λo ho=>?_⟩,λo v hl hg=>?_,hs.siz,hs.dfr⟩
 ·rw[a3]
  have nil:S3 src o=some none->NilKd o (aQ kds o)->aR B (mkSt avs kds cels) Y' w o (aQ kds o):=λh1 ⟨_,h2⟩=>by
   rcases h2 with⟨e,m,h2,h3⟩|⟨e,e',m,h2⟩|⟨t,e,m,h2⟩
   ·rw[h2];show Z6 w _ (Y' o) e m [];rw[hρn o h1];exact⟨[],h3,by simp,by simp,World.ownsRow_nil _ _ _ _,rfl,by simp,by simp⟩
   ·rw[h2];show fS w _ (Y' o) (Y'.inn o) e e' m [] none;rw[hρn o h1,hρi o h1];exact⟨gP,rfl,[],F8 _,World.ownsRow_nil _ _ _ _,by simp,λi u hu=>by simp at hu⟩
   ·rw[h2];show fP w _ (Y' o) (Y'.inn o) t e m []/\_;rw[hρn o h1,hρi o h1];exact⟨⟨rfl,gP,[],rfl,rfl,λi g row hg _=>by simp at hg⟩,λp hp=>by cases hp⟩
  have a4:∀a,S3 src o=some (some a)->X.kd a=aQ kds o->aR B (mkSt avs kds cels) Y' w o (aQ kds o):=λa h1 h2=>by
   have ho:=hs.obs a;rw[h2]at ho;obtain⟨e1,e2⟩:=hY o a h1;cases e:aQ kds o with
   |dead=>trivial
   |box t m =>
    rw[e]at ho;obtain⟨b,us,h3,h4,h5,h6,h7⟩:=ho;exact⟨b,us,e1.trans h3,h4,h5,h6,λi u hu=>hA (lookC_sub hc o a i h1) (h7 i u hu)⟩
   |row t k es =>
    rw[e]at ho;show P4 w (Imm B (mkSt avs kds cels) Y' w) (Y' o) (Y'.inn o) (.row t k es);rw[e1,e2];exact P4.mono (k:=.row t k es) ho (λ_ _=>rfl) hI
   |grid t t' k gs q =>
    rw[e]at ho;show P4 w (Imm B (mkSt avs kds cels) Y' w) (Y' o) (Y'.inn o) (.grid t t' k gs q);rw[e1,e2];exact P4.mono (k:=.grid t t' k gs q) ho (λ_ _=>rfl) hI
   |map l =>
    rw[e]at ho;show P4 w (Imm B (mkSt avs kds cels) Y' w) (Y' o) (Y'.inn o) (.map l);rw[e1,e2];exact P4.mono (k:=.map l) ho (λ_ _=>rfl) hI
   |bag ty te m l q =>
    rw[e]at ho;show fP w (Imm B (mkSt avs kds cels) Y' w) (Y' o) (Y'.inn o) ty te m l/\_;rw[e1,e2];exact⟨fP.mono ho.1 (λ_ _=>rfl) hI,λp hp=>hA (lookC_sub hc o a 0 h1) (ho.2 p hp)⟩
   |mapI l c =>
    rw[e]at ho;show GoOk w (Imm B (mkSt avs kds cels) Y' w) (Y' o) (Y'.inn o) l c;rw[e1,e2];exact GoOk.mono ho (λ_ _=>rfl) hI
   |que t k es =>
    rw[e]at ho;show P4 w (Imm B (mkSt avs kds cels) Y' w) (Y' o) (Y'.inn o) (.que t k es);rw[e1,e2];exact P4.mono (k:=.que t k es) ho (λ_ _=>rfl) hI
  by_cases hd:aQ kds o=.dead
  ·rw[hd];trivial
  ·rcases lookK_sub hk o hd with⟨a,h1,h2,_⟩|⟨h1,h2⟩
   ·exact a4 a h1 h2
   ·exact nil h1 h2
 ·obtain⟨a,_,h2⟩:=a2 o b ho;exact hs.own a b h2
 ·obtain⟨c,e1,b1⟩:=a2 o b h1;obtain⟨d,e2,b2⟩:=a2 p b h2;have:=hs.dis c d b b1 b2;subst this;exact srcOf_inj a5 e1 e2
 ·obtain⟨a,_,h2⟩:=a2 o b ho;exact(hs.res b hb).2 a h2
 ·obtain⟨h1,h2⟩:=gnM_keep hk o hg;rw[(hY o o h1).1];exact hs.rt o v hl h2
def Ok(x:IV):Prop:=∃w S v,RepI w S v x
def OkL(es:List (List IV)):Prop:=es.length<=17592186044416/\∀e∈es,∀x∈e,Ok x
def ok_flat{w:World}{S:Nat->Prop}{es:List (List IV)}{us:List Value}(hl:us.length=es.flatten.length)(hr:∀(i:Nat) u x,us[i]?=some u->es.flatten[i]?=some x->RepI w S u x):∀e∈es,∀x∈e,Ok x:=λe he x hx=>by
 have hm:x∈es.flatten:=nO.2 ⟨e,he,hx⟩;obtain⟨i,hi⟩:=qB hm;have hlt:i<us.length:=by rw[hl];exact(G4.1 hi).1
 exact⟨w,S,_,hr i _ x (L4 hlt) hi⟩
def Ok.sl{es:List (List IV)}(h:Ok (.sl es)):OkL es:=by
 obtain⟨w,S,v,h⟩:=h;cases h with
 |emp A c=>exact⟨F8 _,by simp⟩
 |sl b o c k n _ us hn hk hc hs hS hl h1 hu hr=>exact⟨by omega,ok_flat hl hr⟩
def ok_all{w:World}{S:Nat->Prop}{cs:List IV}{us:List Value}(hl:us.length=cs.length)(hr:∀(i:Nat) u x,us[i]?=some u->cs[i]?=some x->RepI w S u x):∀x∈cs,Ok x:=λx hx=>by
 obtain⟨i,hi⟩:=qB hx;have hlt:i<us.length:=by rw[hl];exact(G4.1 hi).1
 exact⟨w,S,_,hr i _ x (L4 hlt) hi⟩
def Ok.agg{cs:List IV}(h:Ok (.agg cs)):∀x∈cs,Ok x:=by
 obtain⟨w,S,v,h⟩:=h;cases h with
 |agg us _ hl h1 hr=>exact ok_all hl hr
def Ok.agg_at{cs:List IV}{x:IV}(h:Ok (.agg cs))(i:Nat)(hx:cs[i]?=some x):Ok x:=h.agg x (H8 hx)
def Ok.ref{cs:List IV}(h:Ok (.ref cs)):∀x∈cs,Ok x:=by
 obtain⟨w,S,v,h⟩:=h;cases h with
 |ref b o us _ hS hl h1 hu hr=>exact ok_all hl hr
def Ok.ref_at{cs:List IV}{x:IV}(h:Ok (.ref cs))(i:Nat)(hx:cs[i]?=some x):Ok x:=h.ref x (H8 hx)
def Holds.true_(X:St):Holds X True:=λ_ _ _ _=>trivial
def Holds.and{X:St}{J ψ:Prop}(h:Holds X J)(k:Holds X ψ):Holds X (J/\ψ):=λB a w hs=>⟨h B a w hs,k B a w hs⟩
def Holds.av{X:St}(t:Nat){x:IV}(h:X.av t=.im x):Holds X (Ok x):=by
 rintro B a w ⟨Y,hs⟩;have h1:=hs.tms t;rw[h]at h1;exact⟨_,_,_,h1.im_inv⟩
def Holds.ce{X:St}(o i:Nat){t:TypeId}{m:Nat}{x:IV}(hk:X.kd o=.box t m)(hi:i<m)(h:X.ce o i=.im x):Holds X (Ok x):=by
 rintro B a w ⟨Y,hs⟩;have ho:=hs.obs o;rw[hk]at ho;obtain⟨b,us,h3,h5,h6,h7,h8⟩:=ho;have:=h8 i _ (L4 (by omega));rw[h]at this;exact⟨_,_,_,this.im_inv⟩
def Holds.kd{X:St}(o:Nat){t:TypeId}{k:Nat}{es:List (List IV)}(hk:X.kd o=.row t k es):Holds X (OkL es):=by
 rintro B a w ⟨Y,hs⟩;have ho:=hs.obs o;rw[hk]at ho;obtain⟨us,h1,h2,h3,h4,h5,h6,h7⟩:=ho;exact⟨h3,ok_flat h5 h7⟩
def Holds.mono{X:St}{J ψ:Prop}(h:Holds X J)(k:J->ψ):Holds X ψ:=λB a w hs=>k (h B a w hs)
def iter{S R:Type}(step:S->Option (S⊕R)):Nat->S->Option R
 |0,_=>none
 |n+1,s=>match step s with
  |none=>none
  |some (.inl s')=>iter step n s'
  |some (.inr r)=>some r
def Fin{S R:Type}(step:S->Option (S⊕R))(r:R)(k:Nat):S⊕R->Prop
 | .inl s'=>iter step k s'=some r
 | .inr r'=>r'=r
def Nxt{S R:Type}(step:S->Option (S⊕R))(r:R)(st:S->St)(k:Nat)(X':St):Prop:=∃m',m'<k+1/\∃s,iter step m' s=some r/\Ent X' (st s)
def Nxt.mk{S R:Type}{step:S->Option (S⊕R)}{r:R}{st:S->St}{k:Nat}{X':St}(s:S)(h:Fin step r k (.inl s))(e:Ent X' (st s)):Nxt step r st k X':=⟨k,wX _,s,h,e⟩
attribute [irreducible] Nxt
def eM.iter{S R:Type}(step:S->Option (S⊕R))(st:S->St)(J:S->Prop){body:(Exit->St->Prop)->St->Prop}{K:Exit->St->Prop}{X:St}{n:Nat}{s0:S}{r:R}
  (h:Sym.iter step n s0=some r) (e0:Ent X (st s0)) (hJ:∀s,Holds (st s) (J s))
  (hb:∀k s o,J s->step s=some o->Fin step r k o->body (λe X'=>match e with|.normal=>Nxt step r st k X'|e=>K e X') (st s)):eM body K X:=by
 unfold eM;refine⟨λm X=>∃s,Sym.iter step m s=some r/\Ent X (st s),n,⟨s0,h,e0⟩,?_⟩;rintro m X ⟨s,hm,he⟩;refine⟨st s,J s,he,hJ s,λhp=>?_⟩;cases m with
 |zero=>cases hm
 |succ k =>
  unfold Sym.iter at hm;split at hm
  ·cases hm
  ·rename_i s' hs;have:=hb k s _ hp hs hm;unfold Nxt at this;exact this
  ·rename_i r' hs;have:=hb k s _ hp hs (by injection hm);unfold Nxt at this;exact this
def Join(s X':St):Prop:=∃X1,Ent X' X1/\X1=s
def Join.mk{s X':St}(e:Ent X' s):Join s X':=⟨s,e,rfl⟩
attribute [irreducible] Join
def Cut.mk(s:St)(J:Prop){body:(St->Prop)->Prop}{rest:St->Prop}(hJ:Holds s J)(h:body (Join s))(k:J->rest s):Cut body rest:=by
 unfold Cut;unfold Join at h;exact⟨λX=>X=s,h,λX e=>⟨J,by rw[e];exact hJ,λhp=>by rw[e];exact k hp⟩⟩
end
section
variable {b:Bool}{k:Nat}{w:World}{P:Program}{i:Nat}
def OkOc:Oc->Prop
 | .im x=>Ok x
 | .ow (.row _ _ es)=>OkL es
 | .ow (.grid _ _ _ gs _)=>gs.length<=17592186044416
 | .ow _=>True
def fQ:List Oc->Prop
 |[]=>True
 |c::l=>OkOc c/\fQ l
def OkA:Arg->Prop
 | .im x=>Ok x
 | .ow k=>OkOc (.ow k)
 | .box _ cs=>fQ cs
 | .lent k=>OkOc (.ow k)
def OkAs:List Arg->Prop
 |[]=>True
 |x::l=>OkA x/\OkAs l
def okOc_of{S:Nat->Prop}{u:Value}:∀{c:Oc} {F:List Nat},OcOk w S u c F->OkOc c
 | .im x,_,h=>⟨w,S,u,h.1⟩
 | .ow (.row _ _ es),_,⟨_,_,⟨ws,h1,h2,h3,h4,h5,h6,h7⟩,_⟩=>⟨h3,ok_flat h5 h7⟩
 | .ow (.grid _ _ _ gs _),_,⟨_,_,⟨_,_,_,h,_⟩,_⟩=>h
 | .ow (.map _),_,_=>trivial
 | .ow .dead,_,_=>trivial
 | .ow (.box _ _),_,_=>trivial
 | .ow (.que _ _ _),_,_=>trivial
def okOcs_of{S:Nat->Prop}:∀{us:List Value} {cs:List Oc} {F:List Nat},Z0 w S us cs F->fQ cs
 |[],[],_,_=>trivial
 |_::_,_::_,_,⟨_,_,h1,h2,_⟩=>⟨okOc_of h1,okOcs_of h2⟩
 |[],_::_,_,h=>h.elim
 |_::_,[],_,h=>h.elim
def okA_of{S:Nat->Prop}{u:Value}:∀{x:Arg} {F:List Nat},ArgOk w S u x F->OkA x
 | .im x,_,h=>⟨w,S,u,h.1⟩
 | .ow k,_,h=>okOc_of (c:=.ow k) h
 | .box _ _,_,⟨_,_,_,_,_,_,h,_⟩=>okOcs_of h
 | .lent k,_,h=>okOc_of (c:=.ow k) h
def oks_of{S:Nat->Prop}:∀{us:List Value} {xs:List Arg} {F:List Nat},R7 w S us xs F->OkAs xs
 |[],[],_,_=>trivial
 |_::_,_::_,_,⟨_,_,h1,h2,_⟩=>⟨okA_of h1,oks_of h2⟩
 |[],_::_,_,h=>h.elim
 |_::_,[],_,h=>h.elim
def sp_of{f:FuncId}{fn:Func}{c:Code}{xs:List Arg}{r:Rs}(hm:P.follows .mixedOrders=true)(own:List Nat)(hf:P.funcs[f]?=some fn)(hname:(fn.name=="runtime.NumGoroutine")=false)(hb:fn.body=some c)
  (hn:xs.length<=fn.ntmps) (hok:entOk xs=true) (h:OkAs xs->frcW (entW xs) 0 sig0 λ_ X=>bE P (SpX P) fn.ntmps own c (retK P fn.results.toList xs r) X):Sp P f xs r :=
 sp_of_code hm (C:=SpX P) (λ_ _ _ h=>h) hf hname hb hn hok λ_ _ _ _ ha=>by
  have:=h (oks_of ha);rw[frcW_eq]at this;exact this
inductive FrzL:List Oc->List Oc->Prop
 |nil:FrzL [] []
 |keep (c:Oc) {l l':List Oc} (h:FrzL l l'):FrzL (c::l) (c::l')
 |row {e:TypeId} {k:Nat} {es:List (List IV)} {l l':List Oc} (h:FrzL l l'):FrzL (.ow (.row e k es)::l) (.im (.sl es)::l')
 |grid {e e':TypeId} {k:Nat} {gs:List (List IV)} {l l':List Oc} (h:FrzL l l'):FrzL (.ow (.grid e e' k gs none)::l) (.im (.sl gs)::l')
def RepI.up{S S':Nat->Prop}(hS:∀b,S b->S' b){v:Value}{x:IV}(h:RepI w S v x):RepI w S' v x:=h.mono hS λ_ _ _ h=>h
def Sp.frz{g:FuncId}{xs:List Arg}{tp:Bool}{l l':List Oc}{ys:List Arg}(hl:FrzL l l')(h:Sp P g xs (.mk tp l ys)):Sp P g xs (.mk tp l' ys) :=
 ⟨h.1,λw S vs F hS ha hn hF=>(h.2 w S vs F hS ha hn hF).mono λe w' ⟨v,F',h1,h2,⟨us,F1,F2,h3,h4,h5,h6⟩,h7,h8⟩=>by
  subst h6
  rw[aF]at h7
  -- the frozen blocks leave the footprint
  have hlt:∀b∈F1,(w.heap.size<=b\/b∈F)/\b<w'.heap.size:=λb hb=>h8 b (M1 _ hb)
  have key:∀(l l':List Oc),FrzL l l'->∀(us:List Value) (F1:List Nat) (S:Nat->Prop),Z0 w' S us l F1->F1.Nodup->∃Fk,Fk.Sublist F1/\∀(S':Nat->Prop),(∀b,S b->S' b)->(∀b∈F1,b∉Fk->S' b)->Z0 w' S' us l' Fk:=by
   intro l l' hl
   induction hl with
   |nil =>
    intro us F1 S h _
    match us,h with
    |[],h=>exact⟨[],List.nil_sublist _,λ_ _ _=>rfl⟩
   |keep c _ ih =>
    intro us F1 S h a3
    match us,h with
    |u::us,⟨G1,G2,h1,h2,h3⟩ =>
     subst h3
     rw[aF]at a3
     obtain⟨Fk,a1,a2⟩:=ih us G2 S h2 a3.2.1
     exact⟨G1++Fk,List.Sublist.append_left a1 _,λS' hS hF=>⟨G1,Fk,h1.mono λu x hr=>hr.up hS,a2 S' hS λb hb a4=>hF b (by simp[hb]) λhm=>by
      rcases K0.1 hm with hm|hm
      ·exact a3.2.2 b hm b hb rfl
      ·exact a4 hm,rfl⟩⟩
   |row _ ih =>
    intro us F1 S h a3
    match us,h with
    |u::us,⟨G1,G2,⟨_,inn,h1,e1⟩,h2,h3⟩ =>
     subst h3
     rw[aF]at a3
     obtain⟨Fk,a1,a2⟩:=ih us G2 S h2 a3.2.1
     refine⟨[]++Fk,(Y9 Fk).symm ▸ a1.trans (CF _ _),λS' hS hF=>⟨[],Fk,⟨Z6.repI h1 (λb hb=>?_) λu x hr=>hr.up hS,rfl⟩,a2 S' hS λb hb a4=>hF b (by simp[hb]) (by simpa using a4),rfl⟩⟩
     have hb1:b∈G1:=by rw[e1];simp[fpk,hb]
     exact⟨hF b (by simp[hb1]) λhm=>a3.2.2 b hb1 b (a1.subset (by simpa using hm)) rfl,rfl⟩
   |grid _ ih =>
    intro us F1 S h a3
    match us,h with
    |u::us,⟨G1,G2,⟨_,inn,h1,e1⟩,h2,h3⟩ =>
     subst h3
     rw[aF]at a3
     obtain⟨Fk,a1,a2⟩:=ih us G2 S h2 a3.2.1
     refine⟨[]++Fk,(Y9 Fk).symm ▸ a1.trans (CF _ _),λS' hS hF=>⟨[],Fk,⟨fS.repI h1 (λb hb=>?_) λu x hr=>hr.up hS,rfl⟩,a2 S' hS λb hb a4=>hF b (by simp[hb]) (by simpa using a4),rfl⟩⟩
     have hb1:b∈G1:=by rw[e1];exact hb
     exact⟨hF b (by simp[hb1]) λhm=>a3.2.2 b hb1 b (a1.subset (by simpa using hm)) rfl,rfl⟩
  obtain⟨Fk,a1,a2⟩:=key l l' hl us F1 _ h4 h7.1
  have a5:∀b,b∈Fk++F2->b∈F1++F2:=λb hb=>by
   rcases K0.1 hb with hb|hb
   ·exact M1 _ (a1.subset hb)
   ·exact M2 _ hb
  have a6:∀b,((S b\/w.heap.size<=b\/b∈F)/\b<w'.heap.size/\b∉F1++F2)->((S b\/w.heap.size<=b\/b∈F)/\b<w'.heap.size/\b∉Fk++F2):=λb hb=>⟨hb.1,hb.2.1,λhm=>hb.2.2 (a5 b hm)⟩
  refine⟨v,Fk++F2,h1,h2,⟨us,Fk,F2,h3,a2 _ a6 λb hb a4=>⟨.inr (hlt b hb).1,(hlt b hb).2,λhm=>?_⟩,h5.mono λu x hr=>hr.up a6,rfl⟩,?_,λb hb=>h8 b (a5 b hb)⟩
  ·rcases K0.1 hm with hm|hm
   ·exact a4 hm
   ·exact h7.2.2 b hb b hm rfl
  ·rw[aF]
   exact⟨a1.nodup h7.1,h7.2.1,λx hx y hy=>h7.2.2 x (a1.subset hx) y hy⟩⟩
def Sp.im{g:FuncId}{xs:List Arg}{e:TypeId}{es:List (List IV)}(h:Sp P g xs (.row e k es)):Sp P g xs (.im (.sl es)):=Sp.frz (.row .nil) h
def Sp.args{g:FuncId}{xs ys:List Arg}{r:Rs}(h:Sp P g xs r)(e:ys=xs):Sp P g ys r:=e ▸ h
abbrev cI(x:Int):List IV:=[.val (.int .i64 x)]
abbrev cB(x:Bool):List IV:=[.val (.bool x)]
abbrev cL{V:Type}(c:V->List IV)(l:List V):List IV:=[.sl (l.map c)]
abbrev nI(n:Int):IV:=.val (.int .i64 n)
abbrev nB(b:Bool):IV:=.val (.bool b)
abbrev nS(s:ByteArray):IV:=.val (.string s)
abbrev nL{V:Type}(c:V->List IV)(l:List V):IV:=.sl (l.map c)
instance (n:Int):Decidable (inR n):=by unfold inR;infer_instance
instance (n b:Nat):Decidable (E5 n b):=by unfold E5;infer_instance
def fuel:Nat:=1000000000000000000000
section
variable {V G:Type}
def chk(c:Prop)[Decidable c](k:Option V):Option V:=if c then k else none
def idx(l:List V)(n:Int)(k:V->Option G):Option G:=if 0<=n then(match l[n.toNat]? with|some x=>k x|none=>none) else none
def J0{c:Prop}[Decidable c]{k:Option V}{r:V}(h:chk c k=some r):c/\k=some r:=by
 unfold chk at h;split at h
 ·exact⟨‹_›,h⟩
 ·cases h
def dR{l:List V}{n:Int}{k:V->Option G}{r:G}(h:idx l n k=some r):∃x,0<=n/\l[n.toNat]?=some x/\k x=some r:=by
 unfold idx at h;split at h
 ·split at h
  ·rename_i x hx;exact⟨x,‹_›,hx,h⟩
  ·cases h
 ·cases h
def bind_some{o:Option V}{f:V->Option G}{r:G}(h:o.bind f=some r):∃x,o=some x/\f x=some r:=by
 cases o with
 |none=>cases h
 |some x=>exact⟨x,rfl,h⟩
def I9{Y Z R:Type}{f:Y->Option R}{g:Z->Option R}{y:Y}{r:R}(h:Sum.elim f g (.inl y)=some r):f y=some r:=h
def cond_t{x y z:V}(hb:b=true)(h:cond b x y=z):x=z:=by rw[hb]at h;exact h
def cond_f{x y z:V}(hb:b=false)(h:cond b x y=z):y=z:=by rw[hb]at h;exact h
def idxn(l:List V)(n:Nat)(k:V->Option G):Option G:=match l[n]? with|some x=>k x|none=>none
def Z8{l:List V}{n:Nat}{k:V->Option G}{r:G}(h:idxn l n k=some r):∃x,l[n]?=some x/\k x=some r:=by
 unfold idxn at h;split at h
 ·rename_i x hx;exact⟨x,hx,h⟩
 ·cases h
def beq_tt(h:(b==true)=true):b=true:=by cases b<;>simp_all
def beq_tf(h:(b==true)=false):b=false:=by cases b<;>simp_all
def beq_ff(h:(b==false)=true):b=false:=by cases b<;>simp_all
def beq_ft(h:(b==false)=false):b=true:=by cases b<;>simp_all
def G9(h:b=true):(b==true)=true:=by rw[h];rfl
def I3(h:b=false):(b==false)=true:=by rw[h];rfl
def R6(h:b=true):(b==false)=false:=by rw[h];rfl
def R0(h:b=false):(b==true)=false:=by rw[h];rfl
def P7{l:List V}{c:V->G}{x:V}(h:l[i]?=some x):(l.map c)[i]?=some (c x):=by rw[K5,h];rfl
def P6{l:List V}{c:V->G}{x:V}(h:l[i]?=some x):i<(l.map c).length:=by
 rw[E1];exact(G4.1 h).1
def jS{l:List V}{c:V->List G}(h:∀x,(c x).length=k):∀e∈l.map c,e.length=k:=λe he=>by
 obtain⟨x,_,rfl⟩:=D8.1 he;exact h x
def C0{l:List V}{c:V->G}:l.length=(l.map c).length:=(E1 _).symm
def qF{l m:List V}{c:V->G}:(l++m).map c=l.map c++m.map c:=N3
def dS{l:List V}{c:V->G}{n:Nat}:(l.take n).map c=((l.map c).take n).drop 0:=by rw[wT];rfl
def bL{l:List V}{c:V->G}{n:Nat}:(l.drop n).map c=((l.map c).take ((l.map c).length:Int).toNat).drop n:=by rw[List.map_drop,P0,M4]
def set_map{l:List V}{c:V->List G}{x y:V}{j:Nat}{xs:List G}(h:c y=splice (c x) j xs):(l.set i y).map c=(l.map c).set i (splice (c x) j xs):=by rw[BL,h]
end
abbrev wI(n:Int):Value:=.int .i64 n
abbrev wB(b:Bool):Value:=.bool b
abbrev wS(s:ByteArray):Value:=.string s
section
variable {O Z:Type}
def mapV(f:O->Value)(g:Z->Value)(m:List (O×Z)):List (Value×Value):=m.map λp=>(f p.1,g p.2)
def mget[BEq O](k:O):List (O×Z)->Option Z
 |[]=>none
 |p::m=>match k==p.1 with|true=>some p.2|false=>mget k m
def mset[BEq O](k:O)(v:Z):List (O×Z)->List (O×Z)
 |[]=>[(k,v)]
 |p::m=>match k==p.1 with|true=>(k,v)::m|false=>p::mset k v m
def find_str(k:ByteArray)(g:Z->Value):∀m:List (ByteArray×Z),findV .string (.string k) (mapV wS g m)=some ((mget k m).map g)
 |[]=>rfl
 |p::m=>by
  have ih:=find_str k g m;unfold mapV at ih ⊢;rw[L0];unfold findV mget;simp only[Instr.sameNow];cases k==p.1 with
  |true=>rfl
  |false=>exact ih
def set_str(k:ByteArray)(v:Z)(g:Z->Value):∀m:List (ByteArray×Z),setV .string (.string k) (g v) (mapV wS g m)=some (mapV wS g (mset k v m))
 |[]=>rfl
 |p::m=>by
  have ih:=set_str k v g m;unfold mapV at ih ⊢;rw[L0];unfold setV mset;simp only[Instr.sameNow];cases k==p.1 with
  |true=>rfl
  |false=>simp only[ih];rfl
def getD_map{g:Z->Value}{d:Z}{z:Value}(h:g d=z)(o:Option Z):g (o.getD d)=(o.map g).getD z:=by cases o<;>simp[h]
def isSome_map{g:Z->Value}(o:Option Z):o.isSome=(o.map g).isSome:=by cases o<;>rfl
def clr_map{V G:Type}{c:V->G}{z:V}{e:G}{l:List V}(hc:c z=e):(l.take k++List.replicate (l.length-k) z).map c=(l.map c).take k++List.replicate ((l.map c).length-k) e:=by rw[N3,wT,List.map_replicate,E1,hc]
def cut_own{V G:Type}{c:V->G}{l:List V}:(l.take k).map c=(l.map c).take k:=wT
def len_own{V G:Type}{c:V->G}{l:List V}:l.length-k=(l.map c).length-k:=by rw[E1]
def rep_map{V G:Type}{c:V->G}{z:V}{e:G}{n m:Nat}(h:n=m)(hc:c z=e):(List.replicate n z).map c=List.replicate m e:=by rw[List.map_replicate,h,hc]
end
def flat_one{v:Value}:flatRs (.mk false [.im (.val v)] []):=⟨λc hc=>by rcases K2.1 hc with rfl;exact Or.inl ⟨v,rfl⟩,λy hy=>by cases hy⟩
def dN{V:Type}{c:V->List IV}{l:List V}(h:Ok (.sl (l.map c))):l.length<=17592186044416:=by have:=h.sl.1;rwa [E1]at this
def okl_len{V:Type}{c:V->List IV}{l:List V}(h:OkL (l.map c)):l.length<=17592186044416:=by have:=h.1;rwa [E1]at this
def Holds.avl{X:St}{V:Type}{c:V->List IV}{l:List V}(t:Nat)(h:X.av t=.im (.sl (l.map c))):Holds X (l.length<=17592186044416):=(Holds.av t h).mono dN
def Holds.cel{X:St}{V:Type}{c:V->List IV}{l:List V}(o i:Nat){t:TypeId}{m:Nat}(hk:X.kd o=.box t m)(hi:i<m)(h:X.ce o i=.im (.sl (l.map c))):Holds X (l.length<=17592186044416):=(Holds.ce o i hk hi h).mono dN
def oP{V:Type}(c:V->List IV):Option V->IV
 |none=>.val (.pointer none)
 |some x=>.ref (c x)
def set_grid1{V:Type}{c:V->List IV}{g:List (List V)}{r:List V}:(g.set i r).map (cL c)=(g.map (cL c)).set i [.sl (r.map c)]:=by rw[BL]
def set_grid2{V:Type}{c:V->List IV}{g:List (List V)}{i j k:Nat}{ev:List V}{x y:V}{xs:List IV}(h:c y=splice (c x) k xs):(g.set i (ev.set j y)).map (cL c)=(g.map (cL c)).set i [.sl ((ev.map c).set j (splice (c x) k xs))]:=by
 rw[<- h,BL];show(g.map (cL c)).set i [.sl ((ev.set j y).map c)]=_;rw[BL]
def Holds.kdg{X:St}{V:Type}{c:V->List IV}{l:List V}(o:Nat){e e':TypeId}{q:Option Nat}(hk:X.kd o=.grid e e' k (l.map c) q):Holds X (l.length<=17592186044416):=λB a w ⟨Y,hs⟩=>by
 have ho:=hs.obs o;rw[hk]at ho;obtain⟨_,_,us,h,_⟩:=ho;simpa using h
def Holds.kdl{X:St}{V:Type}{c:V->List IV}{l:List V}(o:Nat){t:TypeId}(hk:X.kd o=.row t k (l.map c)):Holds X (l.length<=17592186044416):=(Holds.kd o hk).mono okl_len
def X8{Y Z:Type}(oc:Y⊕Z)(st:Y->St)(X':St):Prop:=∃y,oc=.inl y/\Ent X' (st y)
def Cut.mkS{Y Z:Type}(oc:Y⊕Z)(st:Y->St)(J:Y->Prop){body:(St->Prop)->Prop}{rest:St->Prop}(hJ:∀y,Holds (st y) (J y))(h:body (X8 oc st))(k:∀y,oc=.inl y->J y->rest (st y)):Cut body rest:=by
 unfold Cut;have e:X8 oc st=λX'=>∃X1,Ent X' X1/\∃y,oc=.inl y/\X1=st y:=funext λX'=>propext ⟨λ⟨y,h1,h2⟩=>⟨_,h2,y,h1,rfl⟩,λ⟨X1,h1,y,h2,h3⟩=>⟨y,h2,h3 ▸ h1⟩⟩;rw[e]at h;refine⟨λX1=>∃y,oc=.inl y/\X1=st y,h,?_⟩;rintro X ⟨y,h1,rfl⟩;exact⟨J y,hJ y,k y h1⟩
attribute [irreducible] X8
def X8.mk'{Y Z:Type}{oc:Y⊕Z}{st:Y->St}{X':St}(y:Y)(h:oc=.inl y)(e:Ent X' (st y)):X8 oc st X':=by unfold X8;exact⟨y,h,e⟩
abbrev B0:=@bind_some
abbrev A4:=@Side.mk
abbrev zlC:=@Both.mk
abbrev B6:=@Both.yes
abbrev C5:=@Both.no
abbrev B4:=@Nf.mk
abbrev H5:=@Join.mk
abbrev X0:=@Holds.avl
abbrev iC:=@Ok.agg_at
abbrev LU:=@Cut.mkS
abbrev oV:=@Nxt.mk
end
structure B7 where
 I:Int
 S:Int
 N:A3
 O:A3
 deriving DecidableEq
def H0(s:B7):List IV:=[nI s.I,nI s.S,nL (cL cI) s.N,nL (cL cI) s.O]
structure JJ where
 Step:A2
 Reset:Int
 deriving DecidableEq
structure JF where
 Lost:Int
 Wrong:Int
 Crash:Int
 deriving DecidableEq
structure nC where
 M:B7
 State:Int
 Ready:Bool
 Latency:JJ
 Faults:JF
 Seed:Int
 Steps:Int
 Resets:Int
 Time:Int
 deriving DecidableEq
structure A8 where
 In:A2
 O:A2
 deriving DecidableEq
def C4(s:A8):List IV:=[nL cI s.In,nL cI s.O]
structure A6 where
 I:Int
 T:List A8
 deriving DecidableEq
def E6(s:A6):List IV:=[nI s.I,nL C4 s.T]
structure vF where
 Device:nC
 Obs:A6
 Votes:Int
 Tries:Int
 Asked:Int
 Hits:Int
 deriving DecidableEq
structure B8 where
 I:Int
 P:A3
 X:A3
 deriving DecidableEq
def G5(s:B8):List IV:=[nI s.I,nL (cL cI) s.P,nL (cL cI) s.X]
structure T_api_Baseline where
 M:B7
 Words:A3
 deriving DecidableEq
structure T_api_Report where
 Run:Int
 Changes:List A8
 deriving DecidableEq
structure JG where
 I:Int
 Abstract:Int
 S:Int
 N:A3
 Sym:A3
 deriving DecidableEq
structure T_api_Clash where
 Word:A2
 First:Int
 Second:Int
 deriving DecidableEq
structure E3 where
 M:B7
 Access:A3
 deriving DecidableEq
def Q0(s:E3):List IV:=[nI s.M.I,nI s.M.S,nL (cL cI) s.M.N,nL (cL cI) s.M.O,nL (cL cI) s.Access]
structure T_api_Part where
 I:Int
 S:Int
 N:A3
 O:A3
 deriving DecidableEq
structure C7 where
 I:Int
 Short:A3
 X:A3
 deriving DecidableEq
def L3(s:C7):List IV:=[nI s.I,nL (cL cI) s.Short,nL (cL cI) s.X]
structure J8 where
 Prefix:A2
 Symbol:Int
 Suffix:A2
 deriving DecidableEq
def dX(s:J8):List IV:=[nL cI s.Prefix,nI s.Symbol,nL cI s.Suffix]
structure T_learnerlaw28_Case where
 M:B7
 O:A6
 L:C7
 S:J8
 deriving DecidableEq
structure T_learnerlaw35_Parts where
 P:T_api_Part
 W:A2
 S:Int
 T:Int
 O:Int
 deriving DecidableEq
structure lV where
 Mealy:B7
 deriving DecidableEq
def KJ(s:lV):List IV:=[nI s.Mealy.I,nI s.Mealy.S,nL (cL cI) s.Mealy.N,nL (cL cI) s.Mealy.O]
structure fG where
 machine:lV
 at_:Int
 deriving DecidableEq
structure T_api_Mutation where
 Kind:Int
 State:Int
 Input:Int
 Value:Int
 Value2:Int
 deriving DecidableEq
structure T_regress_runner where
 m:B7
 report:T_api_Report
 deriving DecidableEq
structure M6 where
 rows:List (A3)
 prefixes:A2
 next:A3
 number:List (ByteArray×Int)
 deriving DecidableEq
def dB(s:M6):List IV:=[nL (cL (cL cI)) s.rows,nL cI s.prefixes,nL (cL cI) s.next,.any]
structure T_refine_reached where
 m:B7
 states:A2
 words:A3
 class_:A2
 deriving DecidableEq
structure T_mapper_set where
 list:A2
 word:A2
 deriving DecidableEq
structure T_mapper_builder where
 m:B7
 p:JG
 sets:List T_mapper_set
 of:List (ByteArray×Int)
 deriving DecidableEq
structure T_evidence_candidate where
 score:Int
 blue:Int
 red:Int
 deriving DecidableEq
structure J2 where
 l:C7
 o:A6
 missing:A3
 long:Bool
 deriving DecidableEq
structure T_nondet_group where
 word:A2
 before:A2
 least:A2
 deriving DecidableEq
structure T_device_unit where
 Device:nC
 deriving DecidableEq
structure kI where
 s:Int
 t:Int
 deriving DecidableEq
def zW(s:kI):List IV:=[nI s.s,nI s.t]
structure T_mapper_runner where
 Mapper:JG
 state:Int
 deriving DecidableEq
structure T_cover_place where
 state:Int
 word:A2
 deriving DecidableEq
structure T_A2 where
 f0:Int
 f1:Int
 deriving DecidableEq
structure T_merge_blocks_int_ where
 up:List (Int×Int)
 deriving DecidableEq
structure Y7 where
 at_:kI
 word:A2
 deriving DecidableEq
def sB(s:Y7):List IV:=[nI s.at_.s,nI s.at_.t,nL cI s.word]
structure T_A2_api_Mealy where
 f0:B7
 f1:B7
 deriving DecidableEq
structure aN where
 S:Int
 T:Int
 Word:A2
 deriving DecidableEq
def pR(s:aN):List IV:=[nI s.S,nI s.T,nL cI s.Word]
structure T_api_DNode where
 Leaf:Bool
 Access:A2
 Suffix:A2
 Outs:A3
 Kids:A2
 deriving DecidableEq
structure T_api_DTree where
 Nodes:List T_api_DNode
 deriving DecidableEq
structure zq36 where
 I:Int
 Tree:T_api_DTree
 deriving DecidableEq
structure T_treelearn_learner where
 TreeState:zq36
 o:A6
 deriving DecidableEq
structure bQ where
 h:E3
 o:A6
 w:A2
 states:A2
 outs:A2
 deriving DecidableEq
def kP(s:bQ):List IV:=[nI s.h.M.I,nI s.h.M.S,nL (cL cI) s.h.M.N,nL (cL cI) s.h.M.O,nL (cL cI) s.h.Access,nI s.o.I,nL C4 s.o.T,nL cI s.w,nL cI s.states,nL cI s.outs]
structure T_treelearn_extension where
 w:A2
 node:Int
 deriving DecidableEq
end Go.Proofs.YtjmcbfbjajlbhaaGreatDoor.Sym
namespace Go.Proofs.YtjmcbfbjajlbhaaGreatDoor
section
open Go.ChangeShapes Go.WideShapes Go.ChangeAt Go.RowKit
def Tryz.own:ownKnob Tryz.prog.godebug=none:=by kernel_rfl
def Tryz.laidOut:laidOutB Tryz.prog=true:=by kernel_rfl
noncomputable def laidWorld(os:Os):World :=
 let w0:=World.holding Tryz.prog os ⟨#[],#[],[]⟩
 let h0:=w0.heap
 let h1:=h0.modify 0 fun
   | .cells _ t frozen=>.cells #[.int .u64 1,.int .u64 10,.int .u64 100,.int .u64 1000,.int .u64 10000,.int .u64 100000,.int .u64 1000000,.int .u64 10000000,.int .u64 100000000,.int .u64 1000000000,.int .u64 10000000000,.int .u64 100000000000,.int .u64 1000000000000,.int .u64 10000000000000,.int .u64 100000000000000,.int .u64 1000000000000000,.int .u64 10000000000000000,.int .u64 100000000000000000,.int .u64 1000000000000000000,.int .u64 10000000000000000000] t frozen
   |o=>o
 let h2:=h1.modify 1 fun
   | .cells _ t frozen=>.cells #[.int .u8 0,.int .u8 1,.int .u8 28,.int .u8 2,.int .u8 29,.int .u8 14,.int .u8 24,.int .u8 3,.int .u8 30,.int .u8 22,.int .u8 20,.int .u8 15,.int .u8 25,.int .u8 17,.int .u8 4,.int .u8 8,.int .u8 31,.int .u8 27,.int .u8 13,.int .u8 23,.int .u8 21,.int .u8 19,.int .u8 16,.int .u8 7,.int .u8 26,.int .u8 12,.int .u8 18,.int .u8 6,.int .u8 11,.int .u8 5,.int .u8 10,.int .u8 9] t frozen
   |o=>o
 let h3:=h2.modify 2 fun
   | .cells _ t frozen=>.cells #[.int .u8 0,.int .u8 1,.int .u8 56,.int .u8 2,.int .u8 57,.int .u8 49,.int .u8 28,.int .u8 3,.int .u8 61,.int .u8 58,.int .u8 42,.int .u8 50,.int .u8 38,.int .u8 29,.int .u8 17,.int .u8 4,.int .u8 62,.int .u8 47,.int .u8 59,.int .u8 36,.int .u8 45,.int .u8 43,.int .u8 51,.int .u8 22,.int .u8 53,.int .u8 39,.int .u8 33,.int .u8 30,.int .u8 24,.int .u8 18,.int .u8 12,.int .u8 5,.int .u8 63,.int .u8 55,.int .u8 48,.int .u8 27,.int .u8 60,.int .u8 41,.int .u8 37,.int .u8 16,.int .u8 46,.int .u8 35,.int .u8 44,.int .u8 21,.int .u8 52,.int .u8 32,.int .u8 23,.int .u8 11,.int .u8 54,.int .u8 26,.int .u8 40,.int .u8 15,.int .u8 34,.int .u8 20,.int .u8 31,.int .u8 10,.int .u8 25,.int .u8 14,.int .u8 19,.int .u8 9,.int .u8 13,.int .u8 8,.int .u8 7,.int .u8 6] t frozen
   |o=>o
 { w0 with heap:=h3 }
end
end Go.Proofs.YtjmcbfbjajlbhaaGreatDoor
namespace Go.Proofs.YtjmcbfbjajlbhaaGreatDoor.Sym
section
open Go.ChangeShapes Go.WideShapes Go.ChangeAt Go.RowKit Go.Deep
section
variable {H:Type}{enc:TypeId×Value->H}{W:World}{V G:Type}
def bulk_pos(d:DataW H):1<=Rows.uptoBulk d:=by
 cases d with
 |lit l=>cases l<;>simp[Rows.uptoBulk]
 |nil=>simp[Rows.uptoBulk]
 |ptr d=>simp[Rows.uptoBulk]
 |slice elems spare=>simp[Rows.uptoBulk]
 |agg parts=>simp[Rows.uptoBulk]
 |iface t d=>simp[Rows.uptoBulk]
 |map entries=>simp[Rows.uptoBulk]
 |held h=>simp[Rows.uptoBulk]
def bulk_mem{d:DataW H}{l:List (DataW H)}(h:d∈l):Rows.uptoBulk d<=Rows.uptoBulkAll l:=by
 induction l with
 |nil=>cases h
 |cons x r ih =>
  simp only[Rows.uptoBulkAll];rcases I2.1 h with e|e
  ·subst e;omega
  ·have:=ih e;omega
def zq31(l r:List (DataW H)):Rows.uptoBulkAll (l++r)=Rows.uptoBulkAll l+Rows.uptoBulkAll r:=by
 induction l with
 |nil=>simp[Rows.uptoBulkAll]
 |cons x l ih=>simp only[eD,Rows.uptoBulkAll,ih];omega
def bulk_length(l:List (DataW H)):l.length<=Rows.uptoBulkAll l:=by
 induction l with
 |nil=>simp[Rows.uptoBulkAll]
 |cons x r ih=>have:=bulk_pos x;simp only[Rows.uptoBulkAll,H7];omega
def bulk_small{l:List (DataW H)}(hk:Rows.uptoSmall H l=true):Rows.uptoBulkAll l<=1048576:=by
 simpa[Rows.uptoSmall]using hk
def lowS(W:World):Nat->Prop:=λb=>b<W.heap.size
def Opn(W:World)(enc:TypeId×Value->H)(t:TypeId)(c:V->List IV)(sz:V->Nat)(ok:V->Prop):Prop :=
 ∀(fuel:Nat) (cs:List Value) (d:DataW H) (ps:List MemPlace),DataW.trod enc Tryz.prog W 0 (λ_=>true) true fuel t cs=some (d,ps)->Rows.uptoBulk d<=1048576 ->
  ∃x,W9 W (lowS W) cs (c x)/\(∀u∈cs,u.oneCell'=true)/\sz x<=Rows.uptoBulk d/\ok x
def sz1{V:Type}(_:V):Nat:=1
def szL(sz:V->Nat)(l:List V):Nat:=(l.map sz).sum+1
def okL(ok:V->Prop)(l:List V):Prop:=∀x∈l,ok x
def okT{V:Type}(_:V):Prop:=True
def opn_int:Opn W enc 3 cI sz1 inR:=by
 intro fuel cs d ps h hd;cases fuel with
 |zero=>simp[DataW.trod]at h
 |succ f =>
  unfold DataW.trod at h;rw[Tryz.underlying3]at h;split at h<;>try (cases h;done)
  all_goals (try (rename_i e;cases e;done))
  rename_i k k' n e;injection e with e
  injection e with e
  subst e;split at h
  ·rename_i hw;injection h with h
   injection h with h1 h2
   subst h1;obtain⟨rfl,hw⟩:=hw;refine⟨n,⟨rfl,λi u x hu hx=>?_⟩,λu hu=>?_,by simp[sz1,Rows.uptoBulk],?_⟩
   ·match i,hu,hx with
    |0,hu,hx =>
     simp at hu hx;subst hu hx;exact .val _
   ·rcases K2.1 hu with rfl;rfl
   ·simp[Lit.wf,IntKind.min,IntKind.max,IntKind.wrap,IntKind.bits,IntKind.signed]at hw;unfold inR;omega
  ·cases h
def opn_elems{t:TypeId}{c:V->List IV}{sz:V->Nat}{ok:V->Prop}{k b o:Nat}(hc:∀x,(c x).length=k)(D:Nat->DataW H):∀(n:Nat),
  (∀i,i<n->∃(x:V) (cs:List Value),(∀j,j<k->W.cell? ⟨b,o+(i*k+j),none⟩=cs[j]?)/\W9 W (lowS W) cs (c x)/\(∀u∈cs,u.oneCell'=true)/\sz x<=Rows.uptoBulk (D i)/\ok x) ->
  ∃(xs:List V) (us:List Value),xs.length=n/\us.length=n*k/\(∀(i:Nat) u,us[i]?=some u->W.cell? ⟨b,o+i,none⟩=some u)/\W9 W (lowS W) us (xs.map c).flatten/\(∀u∈us,u.oneCell'=true) /\
   (xs.map sz).sum<=Rows.uptoBulkAll ((List.range n).map D)/\∀x∈xs,ok x
 |0,_=>⟨[],[],rfl,by simp,by simp,⟨rfl,by simp⟩,by simp,by simp,by simp⟩
 |n+1,h=>by
  obtain⟨xs,us,h1,h2,h3,h4,h5,h6,h7⟩:=opn_elems (t:=t) hc D n λi hi=>h i (by omega);obtain⟨x,cs,g1,g2,g3,g4,g5⟩:=h n (by omega);have hcl:cs.length=k:=by rw[g2.1,hc]
  have a3:(xs.map c).flatten.length=n*k:=by rw[<- h4.1,h2]
  refine⟨xs++[x],us++cs,by simp[h1],by rw[D7,h2,hcl,Nat.add_mul];omega,λi u hu=>?_,⟨?_,λi u y hu hy=>?_⟩,λu hu=>?_,?_,λy hy=>?_⟩
  ·rw[T8]at hu;split at hu
   ·exact h3 i u hu
   ·rename_i a2;have hj:=(G4.1 hu).1;have:=g1 (i-us.length) (by omega);rw[hu,show o+(n*k+(i-us.length))=o+i by omega]at this;exact this
  ·rw[N3,nU,D7,D7,h4.1];simp[g2.1]
  ·rw[N3,nU,T8]at hy;rw[T8]at hu;by_cases a2:i<us.length
   ·rw[if_pos a2]at hu;rw[if_pos (by rw[a3,<- h2];exact a2)]at hy;exact h4.2 i u y hu hy
   ·rw[if_neg a2]at hu;rw[if_neg (by rw[a3,<- h2];exact a2),a3,<- h2]at hy;simp only[L0,mD,V6,GW,S5]at hy;exact g2.2 _ u y hu hy
  ·rcases K0.1 hu with hu|hu
   ·exact h5 u hu
   ·exact g3 u hu
  ·rw[jE,N3,N3,List.sum_append,zq31];simp only[L0,mD,List.sum_cons,List.sum_nil,Rows.uptoBulkAll];omega
  ·rcases K0.1 hy with hy|hy
   ·exact h7 y hy
   ·rcases K2.1 hy with rfl;exact g5
def opn_slice{t e:TypeId}{c:V->List IV}{sz:V->Nat}{ok:V->Prop}{k:Nat}(ht:Tryz.prog.underlying t=some (.slice e))(hk:Tryz.prog.cellsOf e=k)(hk0:0<k)(hc:∀x,(c x).length=k)(O:Opn W enc e c sz ok) :
  Opn W enc t (cL c) (szL sz) (okL ok):=by
 intro fuel cs d ps h hd;rcases open_slice ht h with⟨rfl,hx⟩|⟨a,len,b5,m,n,D,Pl,rfl,_,hl,_,hm,hx,a3⟩
 ·injection hx with a4 b2
  subst a4;refine⟨[],⟨rfl,λi u x hu hx=>?_⟩,λu hu=>?_,by simp[szL,Rows.uptoBulk],λx hx=>by cases hx⟩
  ·match i,hu,hx with
   |0,hu,hx =>
    simp at hu hx;subst hu hx;exact .emp _ _
  ·rcases K2.1 hu with rfl;rfl
 ·injection hx with a4 b2
  subst a4;simp only[if_true]at hm;subst hm
  have a8:Rows.uptoBulkAll ((List.range len).map D)+1<=Rows.uptoBulk (.slice ((List.range len).map D) ((List.range (m-len)).map λj=>D (len+j))):=by
   simp only[Rows.uptoBulk];omega
  have b4:len<=1048576:=by
   have:=bulk_length ((List.range len).map D);simp at this;omega
  by_cases h0:len=0
  ·subst h0;refine⟨[],⟨rfl,λi u x hu hx=>?_⟩,λu hu=>?_,by simp[szL,Rows.uptoBulk],λx hx=>by cases hx⟩
   ·match i,hu,hx with
    |0,hu,hx =>
     simp at hu hx;subst hu hx;exact .emp _ _
   ·rcases K2.1 hu with rfl;rfl
  ·obtain⟨ab,ao,a7⟩:=a;rw[hk]at a3
   have a9:a7=none:=by
    obtain⟨a6,h1,_⟩:=a3 0 (by omega);obtain⟨_,b0,a2⟩:=World.cells?_some h1;have h2:=a2 0 hk0;rw[L4 (by omega)]at h2;unfold World.cell? Addr.add at h2;simp only[pU,if_true]at h2;cases a7 with
    |none=>rfl
    |some q =>
     simp at h2;split at h2<;>simp at h2
   subst a9
   obtain⟨xs,us,h1,h2,h3,h4,h5,h6,h7⟩:=opn_elems (W:=W) (t:=e) (sz:=sz) (ok:=ok) (b:=ab) (o:=ao) hc D len λi hi=>by
    obtain⟨a6,e1,e2⟩:=a3 i (by omega);obtain⟨_,b0,a2⟩:=World.cells?_some e1;obtain⟨x,r1,r2,r3,r4⟩:=O _ _ _ _ e2 (S1 (bulk_mem (D8.2 ⟨i,M8.2 hi,rfl⟩)) (by omega));refine⟨x,a6,λj hj=>?_,r1,r2,r3,r4⟩;have:=a2 j hj;rw[addr_add,addr_add,U7]at this;exact this
   have a5:ab<W.heap.size:=by
    have b3:0<us.length:=by rw[h2];exact Nat.mul_pos (by omega) hk0
    exact World.block_lt_of_cell? W _ (h3 0 _ (L4 b3))
   refine⟨xs,⟨rfl,λi u x hu hx=>?_⟩,λu hu=>?_,?_,h7⟩
   ·match i,hu,hx with
    |0,hu,hx =>
     simp at hu hx;subst hu hx;refine .sl ab ao m k len (xs.map c) us (by simp[h1]) (λe he=>by obtain⟨y,_,rfl⟩:=D8.1 he;exact hc y) hl (by omega) a5 h4.1 h5 h3 h4.2
   ·rcases K2.1 hu with rfl;rfl
   ·show(xs.map sz).sum+1<=_;omega
def OpnFs(W:World)(enc:TypeId×Value->H)(fs:List Field)(off len:Nat)(c:V->List IV)(sz:V->Nat)(ok:V->Prop):Prop :=
 ∀(n:Nat) (cs:List Value) (xs:List (DataW H×List MemPlace)),xs.length=fs.length ->
  (∀(i:Nat) f,fs[i]?=some f->DataW.trod enc Tryz.prog W 0 (λ_=>true) true n f.type ((cs.drop f.offset).take (Tryz.prog.cellsOf f.type))=xs[i]?)->Rows.uptoBulkAll (xs.map (·.1))<=1048576 ->
  ∃x,W9 W (lowS W) ((cs.drop off).take len) (c x)/\(∀u∈(cs.drop off).take len,u.oneCell'=true)/\sz x<=Rows.uptoBulkAll (xs.map (·.1))/\ok x
def opnFs_nil{off:Nat}:OpnFs W enc [] off 0 (λ_:Unit=>[]) (λ_=>0) okT:=by
 intro n cs xs hx h hb;exact⟨(),⟨by simp,by simp⟩,by simp,F8 _,trivial⟩
def zA{f:Field}{fs:List Field}{off k len:Nat}{c1:V->List IV}{c2:G->List IV}{s1:V->Nat}{s2:G->Nat}{ok1:V->Prop}{ok2:G->Prop}(ho:f.offset=off)(hk:Tryz.prog.cellsOf f.type=k)
  (O:Opn W enc f.type c1 s1 ok1) (hc:∀x,(c1 x).length=k) (R:OpnFs W enc fs (off+k) len c2 s2 ok2) :
  OpnFs W enc (f::fs) off (k+len) (λp:V×G=>c1 p.1++c2 p.2) (λp=>s1 p.1+s2 p.2) (λp=>ok1 p.1/\ok2 p.2):=by
 intro n cs xs hx h hb
 match xs,hx with
 |x::xs,hx =>
  have e0:=h 0 f rfl;rw[ho,hk]at e0;simp only[L0,Rows.uptoBulkAll]at hb;obtain⟨a,r1,r2,r3,r4⟩:=O n _ x.1 x.2 e0 (by omega)
  obtain⟨b,q1,q2,q3,q4⟩:=R n cs xs (by simpa using hx) (λi g hg=>by
   have:=h (i+1) g (by simpa using hg)
   simpa using this) (by omega)
  have a2:(cs.drop off).take (k+len)=(cs.drop off).take k++(cs.drop (off+k)).take len:=by
   rw[List.take_add,wU]
  have a4:((cs.drop off).take k).length=(c1 a).length:=r1.1;refine⟨(a,b),?_,λu hu=>?_,by simp only[L0,Rows.uptoBulkAll];omega,r4,q4⟩
  ·rw[a2];refine⟨by rw[D7,D7,r1.1,q1.1],λi u y hu hy=>?_⟩;rw[T8,a4]at hu;rw[T8]at hy;split at hu
   ·rename_i a3;rw[if_pos a3]at hy;exact r1.2 i u y hu hy
   ·rename_i a3;rw[if_neg a3]at hy;exact q1.2 _ u y hu hy
  ·rw[a2]at hu;rcases K0.1 hu with hu|hu
   ·exact r2 u hu
   ·exact q2 u hu
def opn_struct{t:TypeId}{fs:Array Field}{len:Nat}{c:V->List IV}{sz:V->Nat}{ok:V->Prop}{c':G->List IV}{sz':G->Nat}{ok':G->Prop}(ht:Tryz.prog.underlying t=some (.struct fs))(hl:Tryz.prog.cellsOf t=len)
  (R:OpnFs W enc fs.toList 0 len c sz ok) (conv:V->G) (hc:∀p,c' (conv p)=c p) (hs:∀p,sz' (conv p)=sz p+1) (ho:∀p,ok p->ok' (conv p)):Opn W enc t c' sz' ok':=by
 intro fuel cs d ps h hd;obtain⟨xs,n,rfl,hx,a2,a3,hf⟩:=DataW.trod_struct ht h;injection hx with a4 a5
 subst a4;simp only[Rows.uptoBulk]at hd;obtain⟨x,r1,r2,r3,r4⟩:=R n cs xs (by rw[a3];simp) (λi f hi=>hf i f (by simpa using hi)) (by omega);rw[hl]at a2;have e:(cs.drop 0).take len=cs:=by rw[GP,<- a2,M4]
 rw[e]at r1 r2;refine⟨conv x,by rw[hc];exact r1,r2,?_,ho x r4⟩;rw[hs];simp only[Rows.uptoBulk];omega
def arg_struct{t:TypeId}{fs:Array Field}{v:Value}{d:DataW H}{p:List MemPlace}{base:Nat}{c:V->List IV}{sz:V->Nat}{ok:V->Prop}(ht:Tryz.prog.underlying t=some (.struct fs))(hv:Value.okWide Tryz.prog W .any base t v)
  (h:DataW.Trod enc Tryz.prog W 0 (λ_=>true) true t v d p) (O:Opn W enc t c sz ok) (hb:Rows.uptoBulk d<=1048576):∃x,RepI W (lowS W) v (.agg (c x))/\sz x<=Rows.uptoBulk d/\ok x:=by
 obtain⟨cs,rfl,_⟩:=okWide_struct ht hv;obtain⟨fuel,hf⟩:=h;obtain⟨x,r1,r2,r3,r4⟩:=O fuel cs.toList d p (by simpa[Value.cells]using hf) hb;refine⟨x,?_,r3,r4⟩;have:=RepI.agg (w:=W) (S:=lowS W) cs.toList (c x) r1.1 r2 r1.2;simpa using this
def sp_law{f:FuncId}{W:World}{vs:List Value}{xs:List Arg}(h:Sp Tryz.prog f xs (.im (nB true)))(ha:R7 W (lowS W) vs xs []) :
  Calls Tryz.prog f vs.toArray W λe W'=>e=.returned (.bool true)/\Below W.heap.size W W':=by
 refine(h.2 W (lowS W) vs [] (λb hb=>hb) ha gP (λb hb=>by cases hb)).mono ?_;rintro e W' ⟨v,F',rfl,hb,⟨us,F1,F2,e1,ho,_,_⟩,_,_⟩;have e1:us=[v]:=e1;subst e1;refine⟨?_,hb.below λb hb=>by cases hb⟩;obtain⟨F3,F4,⟨hr,_⟩,_⟩:=ho;cases hr;rfl
end
end
section
section
variable {H:Type}{enc:TypeId×Value->H}{W:World}
def opn_0:Opn W enc 46 (cL cI) (szL sz1) (okL inR):=opn_slice (k:=1) Tryz.underlying46 (by kernel_rfl) (by decide) (λ_=>rfl) opn_int
def opn_1:Opn W enc 22 (cL (cL cI)) (szL (szL sz1)) (okL (okL inR)):=opn_slice (k:=1) Tryz.underlying22 (by kernel_rfl) (by decide) (λ_=>rfl) opn_0
def IF(x:B7):Nat:=(sz1 x.I+(sz1 x.S+((szL (szL sz1)) x.N+((szL (szL sz1)) x.O+0))))+1
def JB(x:B7):Prop:=inR x.I/\inR x.S/\(okL (okL inR)) x.N/\(okL (okL inR)) x.O
def opn_api_Mealy:Opn W enc 24 H0 IF JB :=
 opn_struct (len:=4) Tryz.underlying24 (by kernel_rfl) (zA (k:=1) rfl (by kernel_rfl) opn_int (λ_=>rfl) (zA (k:=1) rfl (by kernel_rfl) opn_int (λ_=>rfl) (zA (k:=1) rfl (by kernel_rfl) opn_1 (λ_=>rfl) (zA (k:=1) rfl (by kernel_rfl) opn_1 (λ_=>rfl) opnFs_nil)))) (λp=>⟨p.1,p.2.1,p.2.2.1,p.2.2.2.1⟩) (λ_=>rfl) (λ_=>rfl) (λp h=>⟨h.1,h.2.1,h.2.2.1,h.2.2.2.1⟩)
end
end
end Go.Proofs.YtjmcbfbjajlbhaaGreatDoor.Sym
namespace Go.Proofs.YtjmcbfbjajlbhaaGreatDoor
def E9:List Int->List Int->Nat
 |x::xs,y::ys=>if x=y then E9 xs ys+1 else 0
 |_,_=>0
def rA:∀xs ys:List Int,E9 xs ys<=xs.length/\E9 xs ys<=ys.length
 |[],_=>by simp[E9]
 |_::_,[]=>by simp[E9]
 |x::xs,y::ys=>by
  have h:=rA xs ys;simp only[E9];split<;>simp<;>omega
def CU{xs ys:List Int}{k:Nat}(h:xs.length<=k\/ys.length<=k):E9 (xs.drop k) (ys.drop k)=0:=by
 rcases h with h|h
 ·rw[List.drop_eq_nil_of_le h];simp[E9]
 ·rw[List.drop_eq_nil_of_le h];cases xs.drop k<;>simp[E9]
def zL:∀xs:List Int,E9 xs xs=xs.length
 |[]=>rfl
 |x::xs=>by simp[E9,zL xs]
def zq49:∀xs ys:List Int,E9 xs ys=xs.length->E9 xs ys=ys.length->xs=ys
 |[],[],_,_=>rfl
 |[],y::ys,_,h=>by simp[E9]at h
 |x::xs,[],h,_=>by simp[E9]at h
 |x::xs,y::ys,h1,h2=>by
  simp only[E9]at h1 h2;split at h1
  ·rename_i he;subst he;simp at h1 h2;rw[zq49 xs ys h1 h2]
  ·simp at h1
def same_iff(xs ys:List Int):(xs.length=ys.length/\E9 xs ys=xs.length)↔xs=ys:=by
 constructor
 ·rintro⟨h1,h2⟩;exact zq49 xs ys h2 (by omega)
 ·rintro rfl;exact⟨rfl,zL xs⟩
def yV:∀w p:List Int,E9 w p=p.length↔p <+: w
 |[],[]=>by simp[E9]
 |[],y::ys=>by simp[E9]
 |x::xs,[]=>by simp[E9]
 |x::xs,y::ys=>by
  simp only[E9,List.length_cons,List.cons_prefix_cons];by_cases h:x=y
  ·subst h;simp[yV xs ys]
  ·rw[if_neg h];constructor
   ·intro h';omega
   ·rintro⟨rfl,_⟩;exact absurd rfl h
def lexI:List Int->List Int->Int
 |[],[]=>0
 |[],_::_=>-1
 |_::_,[]=>1
 |x::xs,y::ys=>if x<y then -1 else if y<x then 1 else lexI xs ys
def cmpW(a b:List Int):Int:=if a.length<b.length then -1 else if b.length<a.length then 1 else lexI a b
def lP:∀a b:List Int,lexI a b=-1\/lexI a b=0\/lexI a b=1
 |[],[]=>by simp[lexI]
 |[],_::_=>by simp[lexI]
 |_::_,[]=>by simp[lexI]
 |x::xs,y::ys=>by
  simp only[lexI];split
  ·simp
  ·split
   ·simp
   ·exact lP xs ys
def oM:∀a b:List Int,lexI a b=0↔a=b
 |[],[]=>by simp[lexI]
 |[],_::_=>by simp[lexI]
 |_::_,[]=>by simp[lexI]
 |x::xs,y::ys=>by
  simp only[lexI,List.cons.injEq];by_cases h1:x<y
  ·rw[if_pos h1];constructor
   ·intro h;omega
   ·rintro⟨rfl,_⟩;omega
  ·rw[if_neg h1];by_cases h2:y<x
   ·rw[if_pos h2];constructor
    ·intro h;omega
    ·rintro⟨rfl,_⟩;omega
   ·rw[if_neg h2,oM xs ys];constructor
    ·intro h;exact⟨by omega,h⟩
    ·rintro⟨_,h⟩;exact h
def lexI_refl(a:List Int):lexI a a=0:=(oM a a).2 rfl
def mZ:∀a b:List Int,lexI b a=- lexI a b
 |[],[]=>by simp[lexI]
 |[],_::_=>by simp[lexI]
 |_::_,[]=>by simp[lexI]
 |x::xs,y::ys=>by
  simp only[lexI];by_cases h1:x<y
  ·rw[if_neg (show ¬y<x by omega),if_pos h1,if_pos h1];simp
  ·by_cases h2:y<x
   ·rw[if_pos h2,if_neg h1,if_pos h2]
   ·rw[if_neg h2,if_neg h1,if_neg h1,if_neg h2];exact mZ xs ys
def rO:∀a b c:List Int,lexI a b=-1->lexI b c=-1->lexI a c=-1
 |[],[],_,h,_=>by simp[lexI]at h
 |[],_::_,[],_,h=>by simp[lexI]at h
 |[],_::_,_::_,_,_=>by simp[lexI]
 |_::_,[],_,h,_=>by simp[lexI]at h
 |_::_,_::_,[],_,h=>by simp[lexI]at h
 |x::xs,y::ys,z::zs,h1,h2=>by
  simp only[lexI]at h1 h2 ⊢;by_cases p:x<y
  ·by_cases q:y<z
   ·rw[if_pos (by omega)]
   ·rw[if_neg q]at h2;by_cases r:z<y
    ·rw[if_pos r]at h2;omega
    ·rw[if_pos (by omega)]
  ·rw[if_neg p]at h1;by_cases p':y<x
   ·rw[if_pos p']at h1;omega
   ·rw[if_neg p']at h1;by_cases q:y<z
    ·rw[if_pos (by omega)]
    ·rw[if_neg q]at h2;by_cases r:z<y
     ·rw[if_pos r]at h2;omega
     ·rw[if_neg r]at h2;rw[if_neg (by omega),if_neg (by omega)];exact rO xs ys zs h1 h2
def zq10:∀a b:List Int,lexI a b =
  if E9 a b=a.length/\E9 a b=b.length then 0 else
  if E9 a b=a.length\/(E9 a b<b.length/\a.getD (E9 a b) 0<b.getD (E9 a b) 0) then -1 else 1
 |[],[]=>by simp[lexI,E9]
 |[],_::_=>by simp[lexI,E9]
 |_::_,[]=>by simp[lexI,E9]
 |x::xs,y::ys=>by
  have ih:=zq10 xs ys;simp only[lexI,E9];by_cases h:x=y
  ·subst h;rw[if_neg (by omega),if_neg (by omega),ih];simp
  ·by_cases h1:x<y
   ·simp[h,h1]
   ·have h2:y<x:=by omega
    simp[h,h1,h2]
def lO(a b:List Int):cmpW a b=-1\/cmpW a b=0\/cmpW a b=1:=by
 unfold cmpW;split
 ·simp
 ·split
  ·simp
  ·exact lP a b
def rB(a b:List Int):cmpW a b=0↔a=b:=by
 unfold cmpW;by_cases h1:a.length<b.length
 ·rw[if_pos h1];constructor
  ·intro h;omega
  ·rintro rfl;omega
 ·rw[if_neg h1];by_cases h2:b.length<a.length
  ·rw[if_pos h2];constructor
   ·intro h;omega
   ·rintro rfl;omega
  ·rw[if_neg h2,oM]
def cA(a:List Int):cmpW a a=0:=(rB a a).2 rfl
def qZ(a b:List Int):cmpW b a=- cmpW a b:=by
 unfold cmpW;by_cases h1:a.length<b.length
 ·rw[if_neg (by omega),if_pos h1,if_pos h1];simp
 ·by_cases h2:b.length<a.length
  ·rw[if_pos h2,if_neg h1,if_pos h2]
  ·rw[if_neg h2,if_neg h1,if_neg h1,if_neg h2];exact mZ a b
def kD(a b c:List Int)(h1:cmpW a b=-1)(h2:cmpW b c=-1):cmpW a c=-1:=by
 unfold cmpW at *;by_cases p:a.length<b.length
 ·by_cases q:b.length<c.length
  ·rw[if_pos (by omega)]
  ·rw[if_neg q]at h2;by_cases r:c.length<b.length
   ·rw[if_pos r]at h2;omega
   ·rw[if_pos (by omega)]
 ·rw[if_neg p]at h1;by_cases p':b.length<a.length
  ·rw[if_pos p']at h1;omega
  ·rw[if_neg p']at h1;by_cases q:b.length<c.length
   ·rw[if_pos (by omega)]
   ·rw[if_neg q]at h2;by_cases r:c.length<b.length
    ·rw[if_pos r]at h2;omega
    ·rw[if_neg r]at h2;rw[if_neg (by omega),if_neg (by omega)];exact rO a b c h1 h2
def Asc(l:List (List Int)):Prop:=l.Pairwise λa b=>cmpW a b=-1
def eU(l:List (List Int)):Nat:=l.foldl (λn w=>max n w.length) 0
def foldl_max_le(l:List (List Int)):∀n b:Nat,(l.foldl (λn w=>max n w.length) n<=b↔n<=b/\∀x∈l,x.length<=b):=by
 induction l with
 |nil=>intro n b;simp
 |cons y l ih =>
  intro n b;rw[List.foldl_cons,ih];simp only[List.forall_mem_cons];constructor
  ·rintro⟨h1,h2⟩;exact⟨by omega,by omega,h2⟩
  ·rintro⟨h1,h2,h3⟩;exact⟨by omega,h3⟩
def EG(l:List (List Int))(b:Nat):eU l<=b↔∀x∈l,x.length<=b:=by
 rw[eU,foldl_max_le];simp
def L2(l:List (List Int))(w:List Int):Nat:=(l.takeWhile λx=>cmpW x w==-1).length
def placeL_of:∀{l:List (List Int)} {w:List Int} {k:Nat},k<=l.length->(∀i x,i<k->l[i]?=some x->cmpW x w=-1) ->
  (∀x,l[k]?=some x->cmpW x w≠-1)->L2 l w=k
 |[],w,k,h,_,_=>by simp at h;subst h;rfl
 |y::l,w,0,_,_,h2=>by
  have:=h2 y (by simp);simp[L2,this]
 |y::l,w,k+1,h,h1,h2=>by
  have hy:=h1 0 y (by omega) (by simp);have ih:=placeL_of (l:=l) (w:=w) (k:=k) (by simpa using h) (λi x hi hx=>h1 (i+1) x (by omega) (by simpa using hx)) (λx hx=>h2 x (by simpa using hx));simp[L2,hy]at ih ⊢;exact ih
def yL(l:List (List Int))(w:List Int):L2 l w<=l.length:=by
 unfold L2;exact(List.takeWhile_sublist _).length_le
def H1(xs:List Int)(inputs:Int):Int :=
 if 1<=inputs/\inputs<=1024 then if 1024<xs.length then 3 else if xs.all λa=>decide (0<=a/\a<inputs) then 0 else 1 else 2
def Asc.get{l:List (List Int)}(h:Asc l){i j:Nat}{x y:List Int}(hij:i<j)(hx:l[i]?=some x)(hy:l[j]?=some y):cmpW x y=-1:=by
 have hj:j<l.length:=(List.getElem?_eq_some_iff.1 hy).1;have h1:=List.pairwise_iff_getElem.1 h i j (by omega) hj hij;rw[List.getElem?_eq_getElem (by omega)]at hx;rw[List.getElem?_eq_getElem hj]at hy;injection hx with hx
 injection hy with hy
 rw[<- hx,<- hy];exact h1
def insW(l:List (List Int))(x:List Int):List (List Int):=if x∈l then l else l.take (L2 l x)++x::l.drop (L2 l x)
def zH:∀(l:List (List Int)) (w:List Int),(∀i x,i<L2 l w->l[i]?=some x->cmpW x w=-1)/\(∀x,l[L2 l w]?=some x->cmpW x w≠-1)
 |[],w=>by simp[L2]
 |y::l,w=>by
  have ih:=zH l w;by_cases hy:cmpW y w=-1
  ·have e:L2 (y::l) w=L2 l w+1:=by simp[L2,hy]
   rw[e];refine⟨λi x hi hx=>?_,λx hx=>ih.2 x (by simpa using hx)⟩;cases i with
   |zero=>simp at hx;rw[<- hx];exact hy
   |succ i=>exact ih.1 i x (by omega) (by simpa using hx)
  ·have e:L2 (y::l) w=0:=by simp[L2,hy]
   rw[e];refine⟨λi x hi=>absurd hi (by omega),λx hx=>?_⟩;simp at hx;rw[<- hx];exact hy
def Asc.mem_place{l:List (List Int)}(h:Asc l)(w:List Int):w∈l↔l[L2 l w]?=some w:=by
 constructor
 ·intro hm;obtain⟨i,hi⟩:=List.getElem?_of_mem hm;have hs:=zH l w
  have h1:¬i<L2 l w:=λa2=>by
   have:=hs.1 i w a2 hi;rw[cA]at this;omega
  by_cases h2:i=L2 l w
  ·rw[<- h2];exact hi
  ·have a3:i<l.length:=(List.getElem?_eq_some_iff.1 hi).1;have hg:l[L2 l w]?=some l[L2 l w]:=List.getElem?_eq_getElem (by omega);have:=h.get (by omega) hg hi;exact absurd this (hs.2 _ hg)
 ·intro h2;exact List.mem_of_getElem? h2
def bV(l:List (List Int))(x y:List Int):y∈insW l x↔y∈l\/y=x:=by
 unfold insW;split
 ·rename_i h;constructor
  ·exact Or.inl
  ·rintro (h'|rfl)
   ·exact h'
   ·exact h
 ·have e:y∈l↔y∈l.take (L2 l x)\/y∈l.drop (L2 l x):=by
   rw[<- List.mem_append,List.take_append_drop]
  rw[List.mem_append,List.mem_cons,e];constructor
  ·rintro (h|h|h)
   ·exact Or.inl (Or.inl h)
   ·exact Or.inr h
   ·exact Or.inl (Or.inr h)
  ·rintro ((h|h)|h)
   ·exact Or.inl h
   ·exact Or.inr (Or.inr h)
   ·exact Or.inr (Or.inl h)
def Asc.insW{l:List (List Int)}(h:Asc l)(x:List Int):Asc (insW l x):=by
 unfold Go.Proofs.YtjmcbfbjajlbhaaGreatDoor.insW;split
 ·exact h
 ·rename_i hm;have hs:=zH l x
  have a3:∀a∈l.take (L2 l x),cmpW a x=-1:=λa ha=>by
   obtain⟨i,hi⟩:=List.getElem?_of_mem ha;rw[List.getElem?_take]at hi;split at hi
   ·rename_i a5;exact hs.1 i a a5 hi
   ·cases hi
  have a2:∀b∈l.drop (L2 l x),cmpW x b=-1:=λb hb=>by
   obtain⟨i,hi⟩:=List.getElem?_of_mem hb;rw[List.getElem?_drop]at hi;have a6:L2 l x+i<l.length:=(List.getElem?_eq_some_iff.1 hi).1;have hg:l[L2 l x]?=some l[L2 l x]:=List.getElem?_eq_getElem (by omega);have h0:=hs.2 _ hg;have a7:cmpW l[L2 l x] x≠0:=λe=>hm (by rw[<- (rB _ _).1 e];exact List.getElem_mem _);have hr:=lO l[L2 l x] x;have h1:cmpW x l[L2 l x]=-1:=by rw[qZ];omega
   by_cases a4:i=0
   ·subst a4;rw[Nat.add_zero,hg]at hi;injection hi with hi
    rw[<- hi];exact h1
   ·exact kD _ _ _ h1 (h.get (by omega) hg hi)
  unfold Asc;rw[List.pairwise_append,List.pairwise_cons];refine⟨List.Pairwise.sublist (List.take_sublist _ _) h,⟨a2,List.Pairwise.sublist (List.drop_sublist _ _) h⟩,λa ha b hb=>?_⟩;rcases List.mem_cons.1 hb with rfl|hb
  ·exact a3 a ha
  ·exact kD _ _ _ (a3 a ha) (a2 b hb)
def HU(l:List (List Int))(x:List Int):(insW l x).length<=l.length+1:=by
 unfold insW;split
 ·omega
 ·simp;omega
def asc_nil:Asc []:=List.Pairwise.nil
def oA:∀{l m:List (List Int)},Asc l->Asc m->(∀x,x∈l↔x∈m)->l=m
 |[],[],_,_,_=>rfl
 |[],y::m,_,_,h=>absurd ((h y).2 (by simp)) (by simp)
 |x::l,[],_,_,h=>absurd ((h x).1 (by simp)) (by simp)
 |x::l,y::m,hl,hm,h=>by
  have h1:=List.pairwise_cons.1 hl;have h2:=List.pairwise_cons.1 hm
  have hxy:x=y:=by
   rcases List.mem_cons.1 ((h x).1 (by simp)) with e|hx
   ·exact e
   ·rcases List.mem_cons.1 ((h y).2 (by simp)) with e|hy
    ·exact e.symm
    ·have a:=h2.1 x hx;have b:=h1.1 y hy;rw[qZ]at a;omega
  subst hxy
  have a2:∀{k:List (List Int)},(∀b∈k,cmpW x b=-1)->x∉k:=λhk hx=>by
   have:=hk x hx;rw[cA]at this;omega
  rw[oA h1.2 h2.2 λz=>?_];have:=h z;simp only[List.mem_cons]at this;constructor
  ·intro hz;rcases this.1 (Or.inr hz) with rfl|h'
   ·exact absurd hz (a2 h1.1)
   ·exact h'
  ·intro hz;rcases this.2 (Or.inr hz) with rfl|h'
   ·exact absurd hz (a2 h2.1)
   ·exact h'
def sortW(l:List (List Int)):List (List Int):=l.foldl insW []
def DK(l:List (List Int))(x:List Int):sortW (l++[x])=insW (sortW l) x:=by simp[sortW]
def rM:∀(l a:List (List Int)),Asc a->Asc (l.foldl insW a)/\(∀x,x∈l.foldl insW a↔x∈a\/x∈l)/\(l.foldl insW a).length<=a.length+l.length
 |[],a,h=>⟨h,λx=>by simp,by simp⟩
 |y::l,a,h=>by
  obtain⟨h1,h2,h3⟩:=rM l (insW a y) (h.insW y);refine⟨h1,λx=>?_,?_⟩
  ·rw[List.foldl_cons,h2,bV,List.mem_cons,or_assoc]
  ·have:=HU a y;rw[List.foldl_cons,List.length_cons];omega
def cC(l:List (List Int)):Asc (sortW l):=(rM l [] asc_nil).1
def aC(l:List (List Int))(x:List Int):x∈sortW l↔x∈l:=by
 rw[sortW,(rM l [] asc_nil).2.1 x];simp
def pI(l:List (List Int)):(sortW l).length<=l.length:=by
 have:=(rM l [] asc_nil).2.2;simpa[sortW]using this
def stage{V:Type}(us:List V)(z:V)(i:Nat):List V:=us.take i++z::us.drop i
def stage_end{V:Type}(us:List V)(z:V):stage us z us.length=us++[z]:=by simp[stage]
def stage_at{V:Type}{us:List V}{z:V}{i:Nat}(h:i<=us.length):(stage us z i)[i]?=some z:=by
 simp[stage,List.getElem?_append,Nat.min_eq_left h]
def stage_before{V:Type}{us:List V}{z:V}{i j:Nat}(h:j<i)(h2:i<=us.length):(stage us z i)[j]?=us[j]?:=by
 rw[stage,List.getElem?_append,if_pos (by simp;omega),List.getElem?_take,if_pos h]
def stage_set{V:Type}{us:List V}{z u:V}{i:Nat}(h:i<=us.length):(stage us z i).set i u=stage us u i:=by
 rw[stage,List.set_append,if_neg (by simp;omega)];have:i-(us.take i).length=0:=by simp;omega
 rw[this];rfl
def stage_down{V:Type}{us:List V}{u:V}{j:Nat}(h:us[j]?=some u):stage us u (j+1)=stage us u j:=by
 obtain⟨hj,e⟩:=List.getElem?_eq_some_iff.1 h;unfold stage;rw[List.take_add_one,h,List.drop_eq_getElem_cons hj,e];simp
section
def Keeps(w w':World):Prop:=∀p u,w.cell? p=some u->w'.cell? p=some u
def Keeps.of_below{w w':World}(h:Below w.heap.size w w'):Keeps w w':=λp _ hu =>
 (h.cell (p:=p) (World.block_lt_of_cell? w p hu)).trans hu
def T0{V:Type}(w:World)(R:Value->V->Prop)(A:Option Addr)(n c:Nat)(l:List V):Prop :=
 l.length=n/\n<=c/\n<=17592186044416 /\
  (0<n->∃b o,A=some ⟨b,o,none⟩/\∀i x,l[i]?=some x->∃u,w.cell? ⟨b,o+i,none⟩=some u/\R u x)
def cU(u:Value)(x:Int):Prop:=u=.int .i64 x
section
variable {V:Type}{w w':World}{R R':Value->V->Prop}{A:Option Addr}{n c k:Nat}{l:List V}
def T0.len(h:T0 w R A n c l):l.length=n:=h.1
def T0.small(h:T0 w R A n c l):n<=17592186044416:=h.2.2.1
def T0.keep(h:T0 w R A n c l)(hk:Keeps w w')(hR:∀u x,R u x->R' u x):T0 w' R' A n c l :=
 ⟨h.1,h.2.1,h.2.2.1,λhn=>by
  obtain⟨b,o,e,hc⟩:=h.2.2.2 hn
  refine⟨b,o,e,λi x hx=>?_⟩
  obtain⟨u,hu,hr⟩:=hc i x hx
  exact⟨u,hk _ _ hu,hR _ _ hr⟩⟩
def T0.at_(h:T0 w R A n c l)(hk:k<n):∃b o u x,A=some ⟨b,o,none⟩/\l[k]?=some x/\w.cell? ⟨b,o+k,none⟩=some u/\R u x:=by
 obtain⟨b,o,e,hc⟩:=h.2.2.2 (by omega);have hl:k<l.length:=by rw[h.1];exact hk
 obtain⟨u,hu,hr⟩:=hc k l[k] (List.getElem?_eq_getElem hl);exact⟨b,o,u,l[k],e,List.getElem?_eq_getElem hl,hu,hr⟩
end
def T0.int_at{w:World}{A:Option Addr}{n c k:Nat}{xs:List Int}(h:T0 w cU A n c xs)(hk:k<n) :
  ∃b o x,A=some ⟨b,o,none⟩/\xs[k]?=some x/\w.cell? ⟨b,o+k,none⟩=some (.int .i64 x):=by
 obtain⟨b,o,u,x,e,hx,hu,rfl⟩:=h.at_ hk;exact⟨b,o,x,e,hx,hu⟩
def jN{k:IntKind}{a b:Int}(h:a=b):Ending.returned (.int k a)=.returned (.int k b):=by rw[h]
def T0.kept{V:Type}{w w':World}{R:Value->V->Prop}{A:Option Addr}{n c:Nat}{l:List V}(h:T0 w R A n c l)(hk:Keeps w w'):T0 w' R A n c l:=h.keep hk λ_ _ h=>h
def L9{V:Type}{l:List V}{k:Nat}{x:V}(hl:l[k]?=some x):l.take (k+1)=l.take k++[x]:=by
 rw[List.take_add_one,hl];rfl
def zV{V:Type}{l:List V}{k:Nat}{x d:V}(h:l[k]?=some x):l.getD k d=x:=by simp[List.getD_eq_getElem?_getD,h]
end
section
def Tryz.infoInt:(Tryz.prog.info? 3).map (λi=>(i.zero,i.size,i.bytes))=some (some (.int .i64 0),1,8):=by kernel_rfl
def addr_add(b o j:Nat):(⟨b,o,none⟩:Addr).add j=⟨b,o+j,none⟩:=by
 unfold Addr.add;split
 ·rename_i h;subst h;rfl
 ·rfl
def Src(w:World)(A:Option Addr)(m:Nat)(news:List Value):Prop :=
 news.length=m/\(0<m->∃b o,A=some ⟨b,o,none⟩/\∀j u,news[j]?=some u->w.cell? ⟨b,o+j,none⟩=some u)
section
variable {P:Program}{w:World}
def run_append_row(base:Nat)(t ty e:TypeId)(i:TypeInfo)(z:Value)(bytes:Nat)(ht:P.underlying t=some (.slice e))(hi:P.info? e=some i)(hz:i.zero=some z)
  (hsize:i.size=1) (hby:i.bytes=bytes) (hzs:z.cells.size=1) (v:Value) (n:Nat) (xs:List Value) (hown:w.ownsRow base e 1 v n xs)
  (A:Option Addr) (m c:Nat) (news:List Value) (hs:Src w A m news) (h1:∀u∈news,u.oneCell'=true)
  (a2:n+m<=maxLen) (hbytes:(n+m)*bytes<=140737488355328) (hbase:base<=w.heap.size) :
  ∃v' w',(Builtin.append_ #[t,t] ty #[v,.slice A m c]).run P w=.ok v' w'/\w'.ownsRow base e 1 v' (n+m) (xs++news)/\w.grownBy w' v.ownBlock /\
   (v'.ownBlock=v.ownBlock\/v'.ownBlock=some w.heap.size):=by
 obtain⟨hl,hc⟩:=hs;cases A with
 |none =>
  have hm:m=0:=by
   rcases Nat.eq_zero_or_pos m with h0|h0
   ·exact h0
   ·obtain⟨b,o,h,_⟩:=hc h0;cases h
  subst hm;have hn:news=[]:=List.eq_nil_of_length_eq_zero hl;subst hn;refine⟨v,w,?_,by simpa using hown,World.grownBy.refl w _,.inl rfl⟩;rcases hown.2 with⟨rfl,rfl⟩|⟨g,a7,cur,rfl,_,_,a6,_⟩
  ·simp[Builtin.append_,run_underlying ht,sizeOf,typeInfo,hi,Builtin.lenOf,Builtin.firstCells]
  ·simp[Builtin.append_,run_underlying ht,sizeOf,typeInfo,hi,Builtin.lenOf,Builtin.firstCells,a6,storeCells]
 |some ad =>
  have a3:∀j u,news[j]?=some u->w.cell? (ad.add j)=some u:=by
   intro j u hu;rcases Nat.eq_zero_or_pos m with h0|h0
   ·subst h0;have hn:news=[]:=List.eq_nil_of_length_eq_zero hl;subst hn;simp at hu
   ·obtain⟨b,o,h,a5⟩:=hc h0;injection h with h
    subst h;rw[addr_add];exact a5 j u hu
  obtain⟨v',w',a4,h2,h3,_,h5⟩:=run_append_own_at (P:=P) w base t ty e i z 1 bytes ht hi hz hsize hby hzs (by omega) v n xs hown ad m c news (by omega) a3 h1 a2 hbytes hbase;exact⟨v',w',a4,h2,h3,h5⟩
def wp_append_row{o:Oper}{a:Act}{K:Act->World->Prop}{Q:Exit->Act->World->Prop}(s x:Operand)(t:TypeId)
  (ho:o.op=.call { callee:=.builtin .append,args:=#[s,x],argTypes:=#[t,t] })
  (base:Nat) (e:TypeId) (i:TypeInfo) (z:Value) (bytes:Nat) (ht:P.underlying t=some (.slice e)) (hi:P.info? e=some i) (hz:i.zero=some z)
  (hsize:i.size=1) (hby:i.bytes=bytes) (hzs:z.cells.size=1) (v:Value) (n:Nat) (xs:List Value) (hs:a.eval s=v) (hown:w.ownsRow base e 1 v n xs)
  (A:Option Addr) (m c:Nat) (news:List Value) (hx:a.eval x=.slice A m c) (hsrc:Src w A m news) (h1:∀u∈news,u.oneCell'=true)
  (a2:n+m<=maxLen) (hbytes:(n+m)*bytes<=140737488355328) (hbase:base<=w.heap.size)
  (h:∀v' w',w'.ownsRow base e 1 v' (n+m) (xs++news)->w.grownBy w' v.ownBlock->(v'.ownBlock=v.ownBlock\/v'.ownBlock=some w.heap.size)->K (a.put o.dst v') w'):o.wp P a w K Q:=by
 obtain⟨v',w',a3,h2,h3,h4⟩:=run_append_row (P:=P) base t o.type e i z bytes ht hi hz hsize hby hzs v n xs hown A m c news hsrc h1 a2 hbytes hbase;unfold Oper.wp execOp;simp only[ho,resolve,invoke,builtin,Sem.run_bind,Sem.run_pure,Result.andThen_ok,List.map_toArray,List.map_cons,List.map_nil,hs,hx,a3];exact h v' w' h2 h3 h4
def GC{ops:Array Oper}{rest:List Oper}{o:Oper}{a:Act}{Q:Exit->Act->World->Prop}(hgd:o.guard=none)(s x:Operand)(t:TypeId)
  (ho:o.op=.call { callee:=.builtin .append,args:=#[s,x],argTypes:=#[t,t] })
  (base:Nat) (e:TypeId) (i:TypeInfo) (z:Value) (bytes:Nat) (ht:P.underlying t=some (.slice e)) (hi:P.info? e=some i) (hz:i.zero=some z)
  (hsize:i.size=1) (hby:i.bytes=bytes) (hzs:z.cells.size=1) (v:Value) (n:Nat) (xs:List Value) (hs:a.eval s=v) (hown:w.ownsRow base e 1 v n xs)
  (A:Option Addr) (m c:Nat) (news:List Value) (hx:a.eval x=.slice A m c) (hsrc:Src w A m news) (h1:∀u∈news,u.oneCell'=true)
  (a2:n+m<=maxLen) (hbytes:(n+m)*bytes<=140737488355328) (hbase:base<=w.heap.size)
  (h:∀v' w',w'.ownsRow base e 1 v' (n+m) (xs++news)->w.grownBy w' v.ownBlock->(v'.ownBlock=v.ownBlock\/v'.ownBlock=some w.heap.size)->wpList P ops Q rest (a.put o.dst v') w') :
  wpList P ops Q (o::rest) a w :=
 wpList_plain hgd λ_ hK=>wp_append_row s x t ho base e i z bytes ht hi hz hsize hby hzs v n xs hs hown A m c news hx hsrc h1 a2 hbytes hbase λv' w' h2 h3 h4=>hK _ _ (h v' w' h2 h3 h4)
end
def pA{w w':World}(hg:w.grownBy w' none):Keeps w w':=λ_ _ hu=>hg.cell hu (by simp)
def grown_none{w w':World}(h:Below w.heap.size w w'):w.grownBy w' none:=⟨h.os,h.tape,h.output,h.size,λk hk _=>h.block k hk⟩
def EJ{w w':World}{row:Option Nat}(hg:w.grownBy w' row){B:Nat}(hB:B<=w.heap.size)(hr:∀g,row=some g->B<=g):Below B w w':=(Below.refl B w).grown hg hB hr
def src_one(w:World)(x:Value)(t:TypeId):Src (w.alloc (.cells #[x] t)) (some ⟨w.heap.size,0,none⟩) 1 [x] :=
 ⟨rfl,λ_=>⟨_,_,rfl,λj u hu=>by
  have:=cell_one_new w x t j u hu
  rwa [addr_add]at this⟩⟩
end
end Go.Proofs.YtjmcbfbjajlbhaaGreatDoor
namespace Go.Proofs.YtjmcbfbjajlbhaaGreatDoor.Sym
section
section
variable {P:Program}{w:World}
def wC{ops:Array Oper}{rest:List Oper}{o:Oper}{a:Act}{Q:Exit->Act->World->Prop}(hgd:o.guard=none)(s x:Operand)(t:TypeId)
  (ho:o.op=.call { callee:=.builtin .append,args:=#[s,x],argTypes:=#[t,t] })
  (base:Nat) (e:TypeId) (i:TypeInfo) (z:Value) (size bytes:Nat) (ht:P.underlying t=some (.slice e)) (hi:P.info? e=some i) (hz:i.zero=some z)
  (hsize:i.size=size) (hby:i.bytes=bytes) (hzs:z.cells.size=size) (hsz:0<size) (v:Value) (n:Nat) (xs:List Value) (hs:a.eval s=v) (hown:w.ownsRow base e size v n xs)
  (A:Option Addr) (m c:Nat) (news:List Value) (hx:a.eval x=.slice A m c) (hl:news.length=m*size) (hsrc:0<m->∃b q,A=some ⟨b,q,none⟩/\∀(j:Nat) u,news[j]?=some u->w.cell? ⟨b,q+j,none⟩=some u) (h1:∀u∈news,u.oneCell'=true)
  (a2:n+m<=maxLen) (hbytes:(n+m)*bytes<=140737488355328) (hbase:base<=w.heap.size)
  (h:∀v' w',w'.ownsRow base e size v' (n+m) (xs++news)->w.grownBy w' v.ownBlock->(v'.ownBlock=v.ownBlock\/v'.ownBlock=some w.heap.size)->wpList P ops Q rest (a.put o.dst v') w') :
  wpList P ops Q (o::rest) a w:=by
 refine wpList_plain hgd λ_ hK=>?_;obtain⟨v',w',a3,h2,h3,h4⟩:=EY (P:=P) base t o.type e i z size bytes ht hi hz hsize hby hzs hsz v n xs hown A m c news hl hsrc h1 a2 hbytes hbase;unfold Oper.wp execOp;simp only[ho,resolve,invoke,builtin,Sem.run_bind,Sem.run_pure,Result.andThen_ok,List.map_toArray,L0,mD,hs,hx,a3];exact hK _ _ (h v' w' h2 h3 h4)
end
def DD{a b c:World}{row row':Option Nat}(h:a.grownBy b row)(k:b.grownBy c row')(hr:row'=row\/∀g,row'=some g->a.heap.size<=g):a.grownBy c row :=
 ⟨k.os.trans h.os,k.tape.trans h.tape,k.output.trans h.output,S1 h.size k.size,λi hi hne =>
  (k.block i (kY hi h.size) (by
   rcases hr with e|e
   ·rw[e];exact hne
   ·intro he
    have:=e i he.symm
    omega)).trans (h.block i hi hne)⟩
def yH(t:TypeId)(k n:Nat)(us:List Value)(w:World)(e:Ending)(w':World):Prop :=
 ∃v',e=.returned v'/\w'.ownsRow w.heap.size t k v' n us/\Below w.heap.size w w'
def EL(w:World)(t:TypeId)(k:Nat):(w.alloc (.cells #[] t)).ownsRow w.heap.size t k (.slice (some ⟨w.heap.size,0,none⟩) 0 0) 0 []:=by
 refine⟨by simp,.inr ⟨w.heap.size,0,#[],rfl,H4 _,?_,F8 _,by unfold maxLen;omega,by simp,by simp⟩⟩;exact heap_alloc_new w _
def DU{g:FuncId}{t:TypeId}{k by_:Nat}(he:∀args w,(callFunc g args).run Tryz.prog w=.ok (.enter g args) w)(hk0:0<k)
  (h:∀(w:World) (A:Option Addr) (n c:Nat) (us:List Value),us.length=n*k->(0<n->∃b q,A=some ⟨b,q,none⟩/\∀(j:Nat) u,us[j]?=some u->w.cell? ⟨b,q+j,none⟩=some u) ->
   (∀u∈us,u.oneCell'=true)->n<=17592186044416->n*by_<=140737488355328->Calls Tryz.prog g #[.slice A n c] w (yH t k n us w))
  {es:List (List IV)} (hk:∀e∈es,e.length=k) (hc:E5 es.length by_):Sp Tryz.prog g [.im (.sl es)] (.row t k es):=by
 refine⟨he,λw S vs F hS hv hn hF=>?_⟩
 match vs,hv with
 |[v],⟨F1,F2,⟨h3,e1⟩,h5,e3⟩ =>
  have h5:F2=[]:=h5;subst e1 h5 e3;obtain⟨A,c,us,rfl,hl,h1,a2,a5,hr⟩:=sl_src h3 hk;have a7:us.length=es.length*k:=by rw[hl,U5 hk]
  refine(h w A es.length c us a7 a5 h1 a2 hc.1).mono ?_;rintro e w' ⟨v',rfl,ho,hb⟩
  have a3:w'.ownsRow 0 t k v' es.length us:=by
   refine⟨ho.1,?_⟩;rcases ho.2 with h6|⟨g1,cap,cur,k1,_,k3⟩
   ·exact .inl h6
   ·exact .inr ⟨g1,cap,cur,k1,F8 _,k3⟩
  have a8:=ho.lt
  have a6:∀b∈(G3 v').toList,w.heap.size<=b/\b<w'.heap.size:=λb hb=>by
   refine a8 b ?_;rw[nX a3];simpa using hb
  refine⟨v',(G3 v').toList,rfl,.of hb,⟨[v'],(G3 v').toList,[],rfl,⟨(G3 v').toList,[],⟨row_one a3,[],⟨us,hk0,hk,a2,a3,hl,h1,λi u x hu hx=>?_⟩,rfl⟩,rfl,by simp⟩,rfl,by simp⟩,?_,λb hb=>⟨.inl (a6 b hb).1,(a6 b hb).2⟩⟩
  ·have k1:∀b,S b->(S b\/w.heap.size<=b\/b∈[])/\b<w'.heap.size/\b∉(G3 v').toList:=λb a4=>⟨.inl a4,kY (hS b a4) hb.size,λhm=>by
    have h1:=(a6 b hm).1
    have h2:=hS b a4
    omega⟩
   have k2:∀(p:Addr) u,S p.block->w.cell? p=some u->w'.cell? p=some u:=λp u hp hu=>by
    have h6:=hb.block p.block (hS _ hp)
    have h7:w'.cell? p=w.cell? p:=by
     unfold World.cell?;rw[h6]
    rw[h7];exact hu
   exact(hr i u x hu hx).mono k1 k2
  ·cases G3 v'<;>simp
end
def Tryz.infoC_int:(Tryz.prog.info? 3).map (λi=>(i.zero,i.size,i.bytes))=some (some (.int .i64 0),1,8):=by kernel_rfl
set_option maxRecDepth 100000 in
set_option maxHeartbeats 400000 in
def clone_int(w:World)(A:Option Addr)(n c:Nat)(us:List Value)(hl:us.length=n*1)(hs:0<n->∃b q,A=some ⟨b,q,none⟩/\∀(j:Nat) u,us[j]?=some u->w.cell? ⟨b,q+j,none⟩=some u)
  (h1:∀u∈us,u.oneCell'=true) (hn:n<=17592186044416) (hby:n*8<=140737488355328):Calls Tryz.prog 73 #[.slice A n c] w (yH 3 1 n us w):=by
 obtain⟨j0,ji,b0,a7,a8⟩:=info_parts Tryz.infoC_int;have b5:=Lib.run_eql_slice_nil (P:=Tryz.prog) w 46 3 A n c 0 0 Tryz.underlying46;cases A with
 |none =>
  have h0:n=0:=by
   rcases gR n with h|h
   ·exact h
   ·obtain⟨b,q,e,_⟩:=hs h;cases e
  subst h0;have a4:us=[]:=S9 (by omega);have HX:=Lib.hid a4;clear a4 hs hl h1
  go_enter Tryz.func73,Tryz.ntmps73
  go_wp2
  go_ret
  rw[HX.out];exact⟨_,rfl,World.ownsRow_nil _ _ _ _,Below.refl _ _⟩
 |some a =>
  have a3:∀o,0<n->∃b q,some a=some ⟨b,q,none⟩/\∀(j:Nat) u,us[j]?=some u->(w.alloc o).cell? ⟨b,q+j,none⟩=some u:=λo h=>by
   obtain⟨b,q,e,hc⟩:=hs h;exact⟨b,q,e,λj u hu=>pA (World.grownBy_alloc w o none) _ _ (hc j u hu)⟩
  have a5:0+n<=maxLen:=by unfold maxLen;omega
  have a9:(0+n)*8<=140737488355328:=by omega
  have a6:∀o,w.heap.size<=(w.alloc o).heap.size:=λo=>by simp
  have b4:=Lib.hid hl;clear hs
  go_enter Tryz.func73,Tryz.ntmps73
  go_wp2_with (at_builtin;refine wC rfl (.tmp 5) (.tmp 6) 46 rfl w.heap.size 3 j0 (.int .i64 0) 1 8 Tryz.underlying46 ji b0 a7 a8 rfl (by decide) (.slice (some ⟨w.heap.size,0,none⟩) 0 0) 0 _ rfl (EL _ _ _) _ _ _ _ rfl b4.out (a3 _) h1 a5 a9 (a6 _) ?_;intro v1 w1 a2 b3 hb1)
  go_ret
  have b2:w.grownBy w1 none:=DD (World.grownBy_alloc w _ none) b3 (.inr λg e=>by
   have:some w.heap.size=some g:=e
   injection this with this
   omega)
  exact⟨v1,rfl,by simpa using a2,EJ b2 (H4 _) (λg e=>by cases e)⟩
def Tryz.infoC_words:(Tryz.prog.info? 46).map (λi=>(i.zero,i.size,i.bytes))=some (some (.slice none 0 0),1,24):=by kernel_rfl
set_option maxRecDepth 100000 in
set_option maxHeartbeats 400000 in
def clone_words(w:World)(A:Option Addr)(n c:Nat)(us:List Value)(hl:us.length=n*1)(hs:0<n->∃b q,A=some ⟨b,q,none⟩/\∀(j:Nat) u,us[j]?=some u->w.cell? ⟨b,q+j,none⟩=some u)
  (h1:∀u∈us,u.oneCell'=true) (hn:n<=17592186044416) (hby:n*24<=140737488355328):Calls Tryz.prog 141 #[.slice A n c] w (yH 46 1 n us w):=by
 obtain⟨j0,ji,b0,a7,a8⟩:=info_parts Tryz.infoC_words;have b5:=Lib.run_eql_slice_nil (P:=Tryz.prog) w 22 46 A n c 0 0 Tryz.underlying22;cases A with
 |none =>
  have h0:n=0:=by
   rcases gR n with h|h
   ·exact h
   ·obtain⟨b,q,e,_⟩:=hs h;cases e
  subst h0;have a4:us=[]:=S9 (by omega);have HX:=Lib.hid a4;clear a4 hs hl h1
  go_enter Tryz.func141,Tryz.ntmps141
  go_wp2
  go_ret
  rw[HX.out];exact⟨_,rfl,World.ownsRow_nil _ _ _ _,Below.refl _ _⟩
 |some a =>
  have a3:∀o,0<n->∃b q,some a=some ⟨b,q,none⟩/\∀(j:Nat) u,us[j]?=some u->(w.alloc o).cell? ⟨b,q+j,none⟩=some u:=λo h=>by
   obtain⟨b,q,e,hc⟩:=hs h;exact⟨b,q,e,λj u hu=>pA (World.grownBy_alloc w o none) _ _ (hc j u hu)⟩
  have a5:0+n<=maxLen:=by unfold maxLen;omega
  have a9:(0+n)*24<=140737488355328:=by omega
  have a6:∀o,w.heap.size<=(w.alloc o).heap.size:=λo=>by simp
  have b4:=Lib.hid hl;clear hs
  go_enter Tryz.func141,Tryz.ntmps141
  go_wp2_with (at_builtin;refine wC rfl (.tmp 5) (.tmp 6) 22 rfl w.heap.size 46 j0 (.slice none 0 0) 1 24 Tryz.underlying22 ji b0 a7 a8 rfl (by decide) (.slice (some ⟨w.heap.size,0,none⟩) 0 0) 0 _ rfl (EL _ _ _) _ _ _ _ rfl b4.out (a3 _) h1 a5 a9 (a6 _) ?_;intro v1 w1 a2 b3 hb1)
  go_ret
  have b2:w.grownBy w1 none:=DD (World.grownBy_alloc w _ none) b3 (.inr λg e=>by
   have:some w.heap.size=some g:=e
   injection this with this
   omega)
  exact⟨v1,rfl,by simpa using a2,EJ b2 (H4 _) (λg e=>by cases e)⟩
def Tryz.infoC_traces:(Tryz.prog.info? 48).map (λi=>(i.zero,i.size,i.bytes))=some (some (.agg #[.slice none 0 0,.slice none 0 0]),2,48):=by kernel_rfl
set_option maxRecDepth 100000 in
set_option maxHeartbeats 400000 in
def clone_traces(w:World)(A:Option Addr)(n c:Nat)(us:List Value)(hl:us.length=n*2)(hs:0<n->∃b q,A=some ⟨b,q,none⟩/\∀(j:Nat) u,us[j]?=some u->w.cell? ⟨b,q+j,none⟩=some u)
  (h1:∀u∈us,u.oneCell'=true) (hn:n<=17592186044416) (hby:n*48<=140737488355328):Calls Tryz.prog 120 #[.slice A n c] w (yH 48 2 n us w):=by
 obtain⟨j0,ji,b0,a7,a8⟩:=info_parts Tryz.infoC_traces;have b5:=Lib.run_eql_slice_nil (P:=Tryz.prog) w 29 48 A n c 0 0 Tryz.underlying29;cases A with
 |none =>
  have h0:n=0:=by
   rcases gR n with h|h
   ·exact h
   ·obtain⟨b,q,e,_⟩:=hs h;cases e
  subst h0;have a4:us=[]:=S9 (by omega);have HX:=Lib.hid a4;clear a4 hs hl h1
  go_enter Tryz.func120,Tryz.ntmps120
  go_wp2
  go_ret
  rw[HX.out];exact⟨_,rfl,World.ownsRow_nil _ _ _ _,Below.refl _ _⟩
 |some a =>
  have a3:∀o,0<n->∃b q,some a=some ⟨b,q,none⟩/\∀(j:Nat) u,us[j]?=some u->(w.alloc o).cell? ⟨b,q+j,none⟩=some u:=λo h=>by
   obtain⟨b,q,e,hc⟩:=hs h;exact⟨b,q,e,λj u hu=>pA (World.grownBy_alloc w o none) _ _ (hc j u hu)⟩
  have a5:0+n<=maxLen:=by unfold maxLen;omega
  have a9:(0+n)*48<=140737488355328:=by omega
  have a6:∀o,w.heap.size<=(w.alloc o).heap.size:=λo=>by simp
  have b4:=Lib.hid hl;clear hs
  go_enter Tryz.func120,Tryz.ntmps120
  go_wp2_with (at_builtin;refine wC rfl (.tmp 5) (.tmp 6) 29 rfl w.heap.size 48 j0 (.agg #[.slice none 0 0,.slice none 0 0]) 2 48 Tryz.underlying29 ji b0 a7 a8 rfl (by decide) (.slice (some ⟨w.heap.size,0,none⟩) 0 0) 0 _ rfl (EL _ _ _) _ _ _ _ rfl b4.out (a3 _) h1 a5 a9 (a6 _) ?_;intro v1 w1 a2 b3 hb1)
  go_ret
  have b2:w.grownBy w1 none:=DD (World.grownBy_alloc w _ none) b3 (.inr λg e=>by
   have:some w.heap.size=some g:=e
   injection this with this
   omega)
  exact⟨v1,rfl,by simpa using a2,EJ b2 (H4 _) (λg e=>by cases e)⟩
end Go.Proofs.YtjmcbfbjajlbhaaGreatDoor.Sym
namespace Go.Proofs.YtjmcbfbjajlbhaaGreatDoor
def GrowPost(t:TypeId)(w:World)(e:Ending)(w':World):Prop:=∃v',e=.returned v'/\w'.ownsRow w.heap.size t 1 v' 0 []/\Below w.heap.size w w'
def ownsRow_zeros(w:World)(Z:Array Value)(t:TypeId)(c:Nat)(hc:c<=maxLen)(hZ:Z.size=c) :
  (w.drew.alloc (.cells Z t)).ownsRow w.heap.size t 1 (.slice (some ⟨w.heap.size,0,none⟩) 0 c) 0 []:=by
 refine⟨rfl,.inr ⟨w.heap.size,c,Z,rfl,Nat.le_refl _,?_,Nat.zero_le _,hc,by omega,by simp⟩⟩;exact heap_alloc_new w.drew _
def below_zeros(w:World)(o:Obj):Below w.heap.size w (w.drew.alloc o):=(Below.refl w.heap.size w).drew.alloc (Nat.le_refl _) o
set_option maxRecDepth 100000 in
set_option maxHeartbeats 800000 in
def growI_any(n:Nat)(hn:n<=1000000000)(w:World) :
  Calls Tryz.prog 140 #[.slice none 0 0,.int .i64 n] w (GrowPost 3 w):=by
 obtain⟨i0,hi,a9,b2,b0⟩:=info_parts Tryz.infoInt;have h1:¬((n:Int)<0):=by omega
 by_cases h0:n=0
 ·subst h0
  go_enter Tryz.func140,Tryz.ntmps140
  go_wp2
  go_ret
  exact⟨_,rfl,World.ownsRow_nil _ _ _ _,Below.refl _ _⟩
 ·have h4:(n:Int) > 0:=by omega
  have a3:=Lib.run_append_nil_zeros (P:=Tryz.prog) w 46 3 46 3 i0 (.int .i64 0) .i64 .i64 Tryz.underlying46 Tryz.underlying3 hi a9 n (by omega) (by omega) (by omega) (by rw[b0];omega);generalize a4:grownCap w n 0 3=cap2 at a3;have a7:n<=cap2:=by rw[<- a4];exact grownCap_ge w _ 0 _
  have a2:cap2<=maxLen:=by rw[<- a4];exact grownCap_le_maxLen w _ 0 _ (by unfold maxLen;omega)
  generalize hZ:(Builtin.zeroCells (Value.cells (.int .i64 0)) n++Builtin.zeroCells (Value.cells (.int .i64 0)) (cap2-n))=Z at a3;have a6:Z.size=cap2:=by rw[<- hZ];simp[size_zeroCells,Value.cells];omega
  have a5:=ownsRow_zeros w Z 3 cap2 a2 a6;have a8:cap2<=9223372036854775807:=by unfold maxLen at a2;omega
  have HO:=Lib.hid (And.intro a5 (below_zeros w (.cells Z 3)));clear a4 hZ a5 a6
  go_enter Tryz.func140,Tryz.ntmps140
  go_wp2_with (at_builtin;refine Lib.wpList_append_run _ rfl _ _ _ _ rfl _ _ rfl rfl _ _ a3 ?_)
  go_ret
  exact⟨_,rfl,HO.out.1,HO.out.2⟩
end Go.Proofs.YtjmcbfbjajlbhaaGreatDoor
namespace Go.Proofs.YtjmcbfbjajlbhaaGreatDoor.Sym
def sp_of_grow{g:FuncId}{t:TypeId}{n:Int}(he:∀args w,(callFunc g args).run Tryz.prog w=.ok (.enter g args) w)(h0:0<=n)(h1:n<=1000000000)
  (h:∀(n:Nat),n<=1000000000->∀w,Calls Tryz.prog g #[.slice none 0 0,.int .i64 n] w (GrowPost t w)):Sp Tryz.prog g [.im (.val (.slice none 0 0)),.im (nI n)] (.row t 1 []):=by
 refine⟨he,λw S vs F hS hv hn hF=>?_⟩
 match vs,hv with
 |[v,u],⟨F1,F2,⟨h3,e1⟩,⟨F3,F4,⟨h4,e2⟩,h5,e3⟩,e4⟩ =>
  have h5:F4=[]:=h5;subst e1 e2 h5 e3 e4;cases h3;cases h4;have hc:=h n.toNat (by omega) w;rw[Int.toNat_of_nonneg h0]at hc;refine hc.mono ?_;rintro e w' ⟨v',rfl,ho,hb⟩
  have a2:w'.ownsRow 0 t 1 v' 0 []:=by
   refine⟨ho.1,?_⟩;rcases ho.2 with h6|⟨g1,cap,cur,k1,_,k3⟩
   ·exact .inl h6
   ·exact .inr ⟨g1,cap,cur,k1,F8 _,k3⟩
  have a4:=ho.lt
  have a3:∀b∈(G3 v').toList,w.heap.size<=b/\b<w'.heap.size:=λb hb=>by
   refine a4 b ?_;rw[nX a2];simpa using hb
  refine⟨v',(G3 v').toList,rfl,.of hb,⟨[v'],(G3 v').toList,[],rfl,⟨(G3 v').toList,[],⟨row_one a2,[],⟨[],Nat.one_pos,λx hx=>by simp at hx,by decide,a2,rfl,λu hu=>by simp at hu,λi u x hu=>by simp at hu⟩,rfl⟩,rfl,by simp⟩,rfl,by simp⟩,?_,λb hb=>⟨.inl (a3 b hb).1,(a3 b hb).2⟩⟩;cases G3 v'<;>simp
def ES(n:Int):Option (A2):=chk (0<=n/\n<=1000000000) (some [])
def zq54(n:Int)(r:A2)(h:ES n=some r):Sp Tryz.prog 140 [.im (.val (.slice none 0 0)),.im (nI n)] (.row 3 1 (List.map cI r)):=by
 obtain⟨h1,h⟩:=J0 h;injection h with h
 subst h;exact sp_of_grow (λargs w=>fY rfl rfl rfl args w) h1.1 h1.2 growI_any
section
open Go.RowKit Go.Sort
section plain
variable {V:Type}
def totB[DecidableEq V](f:V->V->Option Int)(l:List V):Bool :=
 l.all λa=>l.all λb=>match f a b,f b a with
  |some m,some n=>(decide (m=0)==decide (a=b))&&(decide (m<0)==decide (0<n))&&(decide (-1<=m/\m<=1))&&l.all λc=>!(decide (m<0)&&(match f b c with|some x=>decide (x<0)|none=>false))||(match f a c with|some x=>decide (x<0)|none=>false)
  |_,_=>false
def insF(f:V->V->Option Int)(x:V):List V->List V
 |[]=>[x]
 |y::l=>match f x y with
  |some m=>cond (decide (m<=0)) (x::y::l) (y::insF f x l)
  |none=>x::y::l
def Y0(f:V->V->Option Int):List V->List V
 |[]=>[]
 |x::l=>insF f x (Y0 f l)
def qC[DecidableEq V](l:List V)(f:V->V->Option Int):Option (List V):=chk (l.length<=1000000000) (cond (totB f l) (some (Y0 f l)) none)
def cfv(f:V->V->Option Int)(a b:V):Int:=(f a b).getD 0
structure TotF(f:V->V->Option Int)(l:List V):Prop where
 get:∀a∈l,∀b∈l,f a b=some (cfv f a b)
 zero:∀a∈l,∀b∈l,cfv f a b=0->a=b
 self:∀a∈l,cfv f a a=0
 swap:∀a∈l,∀b∈l,(cfv f a b<0↔0<cfv f b a)
 trans:∀a∈l,∀b∈l,∀c∈l,cfv f a b<0->cfv f b c<0->cfv f a c<0
def totB_iff[DecidableEq V]{f:V->V->Option Int}{l:List V}(h:totB f l=true):TotF f l:=by
 have key:∀a∈l,∀b∈l,∃m n,f a b=some m/\f b a=some n/\(m=0↔a=b)/\(m<0↔0<n)/\∀c∈l,m<0->(∃x,f b c=some x/\x<0)->∃x,f a c=some x/\x<0:=by
  intro a ha b hb;have h1:=O0.1 (O0.1 h a ha) b hb;cases e1:f a b with
  |none=>rw[e1]at h1;cases h1
  |some m =>
   cases e2:f b a with
   |none=>rw[e1,e2]at h1;cases h1
   |some n =>
    rw[e1,e2]at h1;simp only[M7]at h1;obtain⟨⟨⟨h2,h3⟩,_⟩,h5⟩:=h1;refine⟨m,n,rfl,rfl,?_,?_,λc hc hm ⟨x,hx,a2⟩=>?_⟩
    ·have h2:=eq_of_beq h2;simpa using h2
    ·have h3:=eq_of_beq h3;simpa using h3
    ·have h6:=O0.1 h5 c hc;rw[hx]at h6;simp only[hm,a2,decide_true,Bool.and_self,N2,cQ]at h6;cases e3:f a c with
     |none=>rw[e3]at h6;cases h6
     |some y=>rw[e3]at h6;exact⟨y,rfl,by simpa using h6⟩
 have get:∀a∈l,∀b∈l,f a b=some (cfv f a b):=λa ha b hb=>by
  obtain⟨m,n,e1,_⟩:=key a ha b hb;unfold cfv;rw[e1];rfl
 refine⟨get,λa ha b hb=>?_,λa ha=>?_,λa ha b hb=>?_,λa ha b hb c hc h1 h2=>?_⟩
 ·obtain⟨m,n,e1,e2,h3,_⟩:=key a ha b hb;rw[get a ha b hb]at e1;injection e1 with e1
  rw[e1];exact h3.1
 ·obtain⟨m,n,e1,e2,h3,_⟩:=key a ha a ha;rw[get a ha a ha]at e1;injection e1 with e1
  rw[e1];exact h3.2 rfl
 ·obtain⟨m,n,e1,e2,h3,h4,_⟩:=key a ha b hb;rw[get a ha b hb]at e1;rw[get b hb a ha]at e2;injection e1 with e1
  injection e2 with e2
  rw[e1,e2];exact h4
 ·obtain⟨m,n,e1,e2,h3,h4,h5⟩:=key a ha b hb;rw[get a ha b hb]at e1;injection e1 with e1
  obtain⟨x,hx,a2⟩:=h5 c hc (by omega) ⟨_,get b hb c hc,h2⟩;rw[get a ha c hc]at hx;injection hx with hx
  omega
def TotF.sub{f:V->V->Option Int}{l l':List V}(T:TotF f l)(h:∀x∈l',x∈l):TotF f l' :=
 ⟨λa ha b hb=>T.get a (h a ha) b (h b hb),λa ha b hb=>T.zero a (h a ha) b (h b hb),λa ha=>T.self a (h a ha),λa ha b hb=>T.swap a (h a ha) b (h b hb),λa ha b hb c hc=>T.trans a (h a ha) b (h b hb) c (h c hc)⟩
def NGt(f:V->V->Option Int)(a b:V):Prop:=¬cfv f b a<0
def TotF.ngt_trans{f:V->V->Option Int}{l:List V}(T:TotF f l){a b c:V}(ha:a∈l)(hb:b∈l)(hc:c∈l)(h1:NGt f a b)(h2:NGt f b c):NGt f a c:=by
 intro h3;have s1:=T.swap a ha b hb;have s2:=T.swap b hb c hc;have s3:=T.swap c hc a ha;have t1:=T.swap b hb a ha;have t2:=T.swap c hc b hb;unfold NGt at h1 h2;by_cases e1:cfv f b a=0
 ·have:=T.zero b hb a ha e1;subst this;exact h2 h3
 ·by_cases e2:cfv f c b=0
  ·have:=T.zero c hc b hb e2;subst this;exact h1 h3
  ·have h4:cfv f a b<0:=s1.2 (by omega);have h5:=T.trans c hc a ha b hb h3 h4;exact h2 h5
def insF_le{f:V->V->Option Int}{x y:V}{l:List V}{m:Int}(h:f x y=some m)(hm:m<=0):insF f x (y::l)=x::y::l:=by
 simp[insF,h,hm]
def insF_gt{f:V->V->Option Int}{x y:V}{l:List V}{m:Int}(h:f x y=some m)(hm:¬m<=0):insF f x (y::l)=y::insF f x l:=by
 simp[insF,h,hm]
def insF_perm(f:V->V->Option Int)(x:V):∀l:List V,(insF f x l).Perm (x::l)
 |[]=>List.Perm.refl _
 |y::l=>by
  cases h:f x y with
  |none=>simp[insF,h]
  |some m =>
   by_cases hm:m<=0
   ·rw[insF_le h hm]
   ·rw[insF_gt h hm];exact((insF_perm f x l).cons y).trans (List.Perm.swap x y l)
def iN(f:V->V->Option Int):∀l:List V,(Y0 f l).Perm l
 |[]=>List.Perm.refl _
 |x::l=>(insF_perm f x _).trans ((iN f l).cons x)
def zq48{f:V->V->Option Int}{x:V}:∀{l:List V},TotF f (x::l)->l.Pairwise (NGt f)->(insF f x l).Pairwise (NGt f)
 |[],_,_=>MH _ _
 |y::l,T,h=>by
  have hx:x∈x::y::l:=by simp
  have hy:y∈x::y::l:=by simp
  have hc:=dF.1 h;by_cases hd:cfv f x y<=0
  ·rw[insF_le (T.get x hx y hy) hd]
   have a3:NGt f x y:=λh0=>by
    have:=(T.swap y hy x hx).1 h0;omega
   exact dF.2 ⟨λz hz=>by
    rcases I2.1 hz with rfl|a2
    ·exact a3
    ·exact T.ngt_trans hx hy (by simp[a2]) a3 (hc.1 z a2),h⟩
  ·rw[insF_gt (T.get x hx y hy) hd];have a4:NGt f y x:=by unfold NGt;omega
   refine dF.2 ⟨λz hz=>?_,zq48 (T.sub λz hz=>?_) hc.2⟩
   ·rcases I2.1 ((insF_perm f x l).mem_iff.1 hz) with rfl|a2
    ·exact a4
    ·exact hc.1 z a2
   ·rcases I2.1 hz with rfl|a2
    ·simp
    ·simp[a2]
def AE{f:V->V->Option Int}:∀{l:List V},TotF f l->(Y0 f l).Pairwise (NGt f)
 |[],_=>List.Pairwise.nil
 |x::l,T=>zq48 (T.sub λz hz=>by
   rcases I2.1 hz with rfl|hz'
   ·simp
   ·exact K3 _ ((iN f l).mem_iff.1 hz')) (AE (T.sub λz hz=>K3 _ hz))
def zq55{f:V->V->Option Int}:∀{l1 l2:List V},TotF f l1->l1.Perm l2->l1.Pairwise (NGt f)->l2.Pairwise (NGt f)->l1=l2
 |[],l2,_,hp,_,_=>(List.nil_perm.1 hp).symm
 |x::l1,[],_,hp,_,_=>absurd hp.length_eq (by simp)
 |x::l1,y::l2,T,hp,h1,h2=>by
  have p1:=dF.1 h1;have p2:=dF.1 h2;have hx:x∈x::l1:=by simp
  have hy:y∈x::l1:=hp.mem_iff.2 (by simp)
  have e:x=y:=by
   rcases I2.1 hy with e|a4
   ·exact e.symm
   ·have a2:=p1.1 y a4;rcases I2.1 (hp.mem_iff.1 hx) with e|a5
    ·exact e
    ·have a3:=p2.1 x a5;have s1:=T.swap y hy x hx;have s2:=T.swap x hx y hy;unfold NGt at a2 a3;exact T.zero x hx y hy (by omega)
  subst e;rw[zq55 (T.sub λz hz=>K3 _ hz) (List.Perm.cons_inv hp) p1.2 p2.2]
end plain
section model
variable {V:Type}
def CmpG(P:Program)(g:FuncId)(X:V->IV)(f:V->V->Option Int):Prop :=
 ∀(W:World) (S:Nat->Prop) (u u':Value) (x y:V) (r:Int),f x y=some r->RepI W S u (X x)->RepI W S u' (X y) ->
  Calls P g #[u,u'] W λe w'=>e=.returned (.int .i64 r)/\∃q os,w'=Sort.grow (W.drewN q) os
def El(w:World)(S:Nat->Prop)(k:Nat)(c:V->List IV)(l:List V):Type:={ p:List Value×V // p.1.length=k/\(∀v∈p.1,v.oneCell'=true)/\W9 w S p.1 (c p.2)/\p.2∈l }
variable {w:World}{S:Nat->Prop}{k:Nat}{c:V->List IV}{l:List V}
def El.enc(x:El w S k c l):List Value:=x.val.1
def El.wd(x:El w S k c l):V:=x.val.2
def El.of(us:List Value)(x:V)(h1:us.length=k)(h2:∀v∈us,v.oneCell'=true)(h3:W9 w S us (c x))(h4:x∈l):El w S k c l:=⟨(us,x),h1,h2,h3,h4⟩
def el_list(hk:∀x,(c x).length=k):∀(l0:List V) (us:List Value),(∀x∈l0,x∈l)->us.length=(l0.map c).flatten.length->(∀u∈us,u.oneCell'=true) ->
  (∀(i:Nat) u x,us[i]?=some u->(l0.map c).flatten[i]?=some x->RepI w S u x)->∃zs:List (El w S k c l),(zs.map El.enc).flatten=us/\zs.map El.wd=l0
 |[],us,_,hl,_,_=>⟨[],(S9 hl).symm,rfl⟩
 |x::l0,us,hm,hl,h1,hr=>by
  rw[L0,V6]at hl hr;rw[D7,hk]at hl
  obtain⟨zs,e1,e2⟩:=el_list hk l0 (us.drop k) (λy hy=>hm y (K3 _ hy)) (by rw[O5];omega) (λu hu=>h1 u (V7 hu)) λi u y hu hy=>by
   rw[W6]at hu;refine hr (k+i) u y hu ?_;rw[T8,if_neg (by rw[hk];omega),hk]
   rwa [xC]
  have hx1:(us.take k).length=k:=by rw[H6];omega
  have a3:∀v∈us.take k,v.oneCell'=true:=λu hu=>h1 u (Q1 hu)
  have a2:W9 w S (us.take k) (c x):=⟨by rw[hx1,hk],λi u y hu hy=>by
   have hi:i<k:=by
    rw[<- hk x]
    exact(G4.1 hy).1
   rw[R3,if_pos hi]at hu
   exact hr i u y hu (by rw[T8,if_pos (by rw[hk];exact hi)];exact hy)⟩
  refine⟨El.of (us.take k) x hx1 a3 a2 (hm x (by simp))::zs,?_,?_⟩
  ·rw[L0,V6,e1];exact sX k us
  ·rw[L0,e2];rfl
def el_swo{f:V->V->Option Int}(T:TotF f l):SWO (ltOf λx y:El w S k c l=>cfv f x.wd y.wd) where
 irrefl x:=by
  have:=T.self x.wd x.property.2.2.2;simp[ltOf,this]
 trans x y z h1 h2:=by
  simp only[ltOf,decide_eq_true_eq]at *;exact T.trans _ x.property.2.2.2 _ y.property.2.2.2 _ z.property.2.2.2 h1 h2
 ntrans x y z h1 h2:=by
  simp only[ltOf,decide_eq_false_iff_not]at *;exact T.ngt_trans z.property.2.2.2 y.property.2.2.2 x.property.2.2.2 h2 h1
def SortC(P:Program)(sg:FuncId)(k:Nat)(mk:List Value->Value):Prop :=
 (∀(p:Option Addr) (cap:Nat) (fv:Value) (w:World),Calls P sg #[.slice p 0 cap,fv] w λe w'=>e=.returned (.tuple #[])/\w'=w) /\
 ∀(E:Type) [Inhabited E] (enc:E->List Value) (cf:E->E->Int) (g blk cap:Nat) (d:Array E) (w:World),(∀x,(enc x).length=k)->(∀x,∀v∈enc x,v.oneCell'=true)->SWO (ltOf cf) ->
  (∀args w,(callFunc g args).run P w=.ok (.enter g args) w) ->
  (∀(m:Nat) (os:Array Obj) (dk:Array E),dk.size=d.size->∀x y:E,Calls P g #[mk (enc x),mk (enc y)] (Sort.grow (putRow id (Sort.ahead w m) blk 0 (Go.Sort.flatK enc k dk)) os) λe w' =>
   e=.returned (.int .i64 (cf x y))/\∃q os',w'=Sort.grow ((Sort.grow (putRow id (Sort.ahead w m) blk 0 (Go.Sort.flatK enc k dk)) os).drewN q) os') ->
  Go.Sort.Holds id w blk 0 (Go.Sort.flatK enc k d)->blk<w.heap.size->d.size<4611686018427387904 ->
  Calls P sg #[.slice (some ⟨blk,0,none⟩) d.size cap,.func (.func g) #[] #[]] w λe w' =>
   e=.returned (.tuple #[])/\∃d' n os,PermIn 0 d.size d d'/\SortedIn (ltOf cf) 0 d.size d'/\w'=Sort.grow (putRow id (Sort.ahead w n) blk 0 (Go.Sort.flatK enc k d')) os
def perm_of_in'{G:Type}[Inhabited G]{d d':Array G}(h:PermIn 0 d.size d d'):d'.toList.Perm d.toList:=by
 obtain⟨hs,_,hp⟩:=h;have e1:d'.extract 0 d.size=d':=by rw[<- hs];simp
 have e2:d.extract 0 d.size=d:=by simp
 rwa [e1,e2]at hp
def zq32{G:Type}[Inhabited G]{lt:G->G->Bool}{d:Array G}{n:Nat}(hn:d.size=n)(h:SortedIn lt 0 n d):d.toList.Pairwise λa b=>lt b a=false:=by
 rw[V8];intro i j hi hj a2;have:=h i j (F8 _) a2 (by rw[<- hn];simpa using hj);simp at hi hj;simpa[getElem!_pos,hi,hj]using this
def flatK_list{G:Type}[Inhabited G]{enc:G->List Value}{k:Nat}(hk:∀x,(enc x).length=k)(d:Array G):Go.Sort.flatK enc k d=(d.toList.map enc).flatten.toArray:=by
 have hl:((d.toList.map enc).flatten).length=d.size*k:=by
  rw[U5 (k:=k) λx hx=>by obtain⟨y,_,rfl⟩:=D8.1 hx;exact hk y];simp
 refine ext_get! (by simp[hl]) λt ht=>?_;rw[size_flatK]at ht;rw[get_flatK _ _ _ t ht]
 have k0:0<k:=by
  rcases gR k with h|h
  ·subst h;simp at ht
  ·exact h
 have hq:t / k<d.size:=Nat.div_lt_of_lt_mul (by rwa [sL]at ht);have hm:t%k<k:=wR _ k0;have hg:=flat_get (es:=d.toList.map enc) (i:=t / k) (j:=t%k) (e:=enc (d[t / k]'hq)) (λx hx=>by obtain⟨y,_,rfl⟩:=D8.1 hx;exact hk y) (by simp[hq]) hm;rw[show t / k*k+t%k=t by rw[sL];exact CE t k]at hg;have a2:t%k<(enc (d[t / k]'hq)).length:=by rw[hk];exact hm
 rw[L4 a2,L4 (by rw[hl];exact ht)]at hg;injection hg with hg
 rw[getElem!_pos d _ hq,getElem!_pos (enc (d[t / k]'hq)) (t%k) a2,getElem!_pos ((d.toList.map enc).flatten.toArray) t (by simpa[hl]using ht)];simpa using hg.symm
def own_put{w:World}{base:Nat}{e:TypeId}{g n cap k q:Nat}{us us':List Value}{os:Array Obj}(h:w.ownsRow base e k (.slice (some ⟨g,0,none⟩) n cap) n us)(hl:us'.length=n*k) :
  (Sort.grow (putRow id (Sort.ahead w q) g 0 us'.toArray) os).ownsRow base e k (.slice (some ⟨g,0,none⟩) n cap) n us':=by
 rcases h.2 with⟨e0,_⟩|⟨g',a4,cur,e0,hb,hg,hn,hm,hs,ht⟩
 ·cases e0
 ·injection e0 with e1 _ e3
  injection e1 with e1
  injection e1 with e1
  subst e1;subst e3
  have a3:g<w.heap.size:=by
   rcases L8 g w.heap.size with h'|h'
   ·exact h'
   ·rw[HJ h']at hg;cases hg
  refine⟨hl,.inr ⟨g,cap,putCells id 0 us'.toArray cur,rfl,hb,?_,hn,hm,by simpa[putCells]using hs,?_⟩⟩
  ·have:g<(putRow id (Sort.ahead w q) g 0 us'.toArray).heap.size:=by simpa[putRow,mapBlock,Sort.ahead]using a3
   simp only[Sort.grow,Array.getElem?_append,if_pos this];simp[putRow,mapBlock,Sort.ahead,BV,hg,onCells]
  ·have a5:n*k<=cap*k:=bD k hn;apply nP;intro j;rw[R3,T7];by_cases hj:j<n*k
   ·have a2:j<cur.size:=by omega
    rw[if_pos hj];simp only[putCells,Array.getElem?_mapIdx,xD a2,L5];rw[if_pos (by simp;omega),L4 (by omega)];simp[getElem!_pos,show j<us'.length by omega]
   ·rw[if_neg hj,fM (by omega)]
def holds_own{w:World}{base:Nat}{e:TypeId}{g n cap k:Nat}{us:List Value}(h:w.ownsRow base e k (.slice (some ⟨g,0,none⟩) n cap) n us):Go.Sort.Holds id w g 0 us.toArray:=by
 rcases h.2 with⟨e0,_⟩|⟨g',a4,cur,e0,hb,hg,hn,hm,hs,ht⟩
 ·cases e0
 ·injection e0 with e1 _ e3
  injection e1 with e1
  injection e1 with e1
  subst e1;subst e3;intro j hj;have a2:j<us.length:=by simpa using hj
  have a3:j<n*k:=by rw[<- h.1];exact a2
  have a6:n*k<=cap*k:=bD k hn;have a5:j<cur.size:=by omega
  have e1:(cur.toList.take (n*k))[j]?=us[j]?:=by rw[ht]
  rw[R3,if_pos a3,T7,L4 a2]at e1;refine⟨?_,by simp[World.frozen?,hg]⟩;simp only[World.cell?,hg,J9,xF,nT,if_false];rw[e1];simp[getElem!_pos,a2]
def put_block{w:World}{g q:Nat}{F:Array Value}{os:Array Obj}{b:Nat}(hb:b<w.heap.size)(hne:b≠g):(Sort.grow (putRow id (Sort.ahead w q) g 0 F) os).heap[b]?=w.heap[b]?:=by
 have:b<(putRow id (Sort.ahead w q) g 0 F).heap.size:=by simpa[putRow,mapBlock,Sort.ahead]using hb
 simp only[Sort.grow,Array.getElem?_append,if_pos this];simp[putRow,mapBlock,Sort.ahead,BV,Ne.symm hne]
def put_cell{w:World}{g q:Nat}{F:Array Value}{os:Array Obj}{p:Addr}{u:Value}(hne:p.block≠g)(h:w.cell? p=some u):(Sort.grow (putRow id (Sort.ahead w q) g 0 F) os).cell? p=some u:=by
 have a2:=World.block_lt_of_cell? w _ h;unfold World.cell? at h ⊢;rw[put_block a2 hne];exact h
def sp_of_sort[DecidableEq V]{P:Program}{sg:FuncId}{mk:List Value->Value}{t:TypeId}{X:V->IV}(he:∀args w,(callFunc sg args).run P w=.ok (.enter sg args) w)(C:SortC P sg k mk)(hk0:0<k)(hk:∀x,(c x).length=k)
  (hX:∀(W:World) (S:Nat->Prop) us x,us.length=k->(∀v∈us,v.oneCell'=true)->W9 W S us (c x)->RepI W S (mk us) (X x))
  {f:V->V->Option Int} {g:FuncId} (eg:∀args w,(callFunc g args).run P w=.ok (.enter g args) w) (hg:CmpG P g X f) {l r:List V} (h:qC l f=some r) :
  Sp P sg [.lent (.row t k (l.map c)),.im (.fn g [])] (.mk true [] [.lent (.row t k (r.map c))]):=by
 obtain⟨e6,h⟩:=J0 h;cases hT:totB f l with
 |false=>rw[hT]at h;cases h
 |true =>
 rw[hT]at h;injection h with h
 subst h;have T:=totB_iff hT;refine⟨he,λw S vs F hS hv hn hF=>?_⟩
 match vs,hv with
 |[v,u],⟨F1,F2,⟨hv1,inn,hrow,e1⟩,⟨F3,F4,⟨h4,e2⟩,h5,e3⟩,e4⟩ =>
  have h5:F4=[]:=h5;have e1:F1=(G3 v).toList:=e1;subst e1 e2 h5 e3;have e4:F=(G3 v).toList:=by rw[e4];simp
  subst e4;obtain⟨us,_,_,b3,a2,b8,h1,hr⟩:=hrow;rw[E1]at a2 b3
  have hu:u=.func (.func g) #[] #[]:=by
   generalize hx:IV.fn g []=x at h4;cases h4 with
   |fn f us cs hl hr =>
    injection hx with d4 d7
    subst d4 d7;have:=S9 hl;subst this;rfl
   |_=>cases hx
  subst hu
  have fin:∀(w':World) (a6:List Value),w'.ownsRow 0 t k v l.length a6->a6.length=((Y0 f l).map c).flatten.length->(∀u∈a6,u.oneCell'=true) ->
    Belo (λb=>b∈(G3 v).toList) w.heap.size w w'->(∀(i:Nat) u x,a6[i]?=some u->((Y0 f l).map c).flatten[i]?=some x->RepI w' (λb=>(S b\/w.heap.size<=b\/b∈(G3 v).toList)/\b<w'.heap.size/\b∉(G3 v).toList) u x) ->
    ∃(v1:Value) (F':List Nat),Ending.returned (.tuple #[])=.returned v1/\Belo (λb=>b∈(G3 v).toList) w.heap.size w w' /\
     ResOk w' (λb=>(S b\/w.heap.size<=b\/b∈(G3 v).toList)/\b<w'.heap.size/\b∉F') v1 (bxVs [v,.func (.func g) #[] #[]] [.lent (.row t k (l.map c)),.im (.fn g [])]) (.mk true [] [.lent (.row t k ((Y0 f l).map c))]) F'/\F'.Nodup/\∀b∈F',(w.heap.size<=b\/b∈(G3 v).toList)/\b<w'.heap.size:=by
   intro w' a6 ho d5 d6 hb e5;refine⟨_,(G3 v).toList,rfl,hb,⟨[],[],(G3 v).toList,rfl,rfl,⟨(G3 v).toList,[],⟨hv1,inn,⟨a6,hk0,λx hx=>?_,?_,?_,d5,d6,e5⟩,rfl⟩,rfl,by simp⟩,by simp⟩,hn,λb b2=>⟨.inr b2,kY (hF b b2).2 hb.size⟩⟩
   ·obtain⟨y,_,rfl⟩:=D8.1 hx;exact hk y
   ·rw[E1,(iN f l).length_eq];exact b3
   ·rw[E1,(iN f l).length_eq];exact ho
  by_cases b4:v=.slice none 0 0
  ·subst b4
   have a5:l.length=0:=by
    rcases a2.2 with⟨_,h0⟩|⟨_,_,_,e,_⟩
    ·exact h0
    ·cases e
   have a5:l=[]:=S9 a5;subst a5;refine(C.1 none 0 _ w).mono ?_;rintro e w' ⟨rfl,rfl⟩;have c6:us=[]:=S9 (by rw[b8];rfl);subst c6;exact fin w' [] a2 rfl (λu hu=>by cases hu) (Belo.refl _ _ _) λi u x hu=>by simp at hu
  ·obtain⟨blk,cap,rfl⟩:∃blk cap,v=.slice (some ⟨blk,0,none⟩) l.length cap:=by
    rcases a2.2 with⟨e0,_⟩|⟨g,cap,cur,e,_⟩
    ·exact absurd e0 b4
    ·exact⟨g,cap,e⟩
   have d0:blk<w.heap.size:=(hF blk (by simp[G3])).2;have b0:¬S blk:=(hF blk (by simp[G3])).1;obtain⟨zs,d2,b7⟩:=el_list (w:=w) (S:=S) (l:=l) hk l us (λx hx=>hx) b8 h1 hr;by_cases a5:l=[]
   ·subst a5;refine(C.1 (some ⟨blk,0,none⟩) cap _ w).mono ?_;rintro e w' ⟨rfl,rfl⟩;have c6:us=[]:=S9 (by rw[b8];rfl);subst c6;exact fin w' [] a2 rfl (λu hu=>by cases hu) (Belo.refl _ _ _) λi u x hu=>by simp at hu
   ·have d3:zs.length=l.length:=by have:=congrArg List.length b7;simpa using this
    obtain⟨z0,e8⟩:∃z,z∈zs:=by
     cases zs with
     |nil=>exact absurd (by simpa using b7.symm) a5
     |cons z zs=>exact⟨z,by simp⟩
    haveI:Inhabited (El w S k c l):=⟨z0⟩
    have a4:∀x:El w S k c l,(El.enc x).length=k:=λx=>x.property.1;have a8:∀d:Array (El w S k c l),Go.Sort.flatK El.enc k d=(d.toList.map El.enc).flatten.toArray:=flatK_list a4
    have a9:=C.2 (El w S k c l) El.enc (λx y=>cfv f x.wd y.wd) g blk cap zs.toArray w a4 (λx=>x.property.2.1) (el_swo T) eg (λm os dk _ x y=>by
      refine hg _ S _ _ x.wd y.wd _ (T.get _ x.property.2.2.2 _ y.property.2.2.2) (hX _ _ _ _ x.property.1 x.property.2.1 ⟨x.property.2.2.1.1,λi u z hu hz=>?_⟩) (hX _ _ _ _ y.property.1 y.property.2.1 ⟨y.property.2.2.1.1,λi u z hu hz=>?_⟩)
      ·exact(x.property.2.2.1.2 i u z hu hz).mono (λ_ h=>h) λp u hp hu=>put_cell (λe=>b0 (by rw[<- e];exact hp)) hu
      ·exact(y.property.2.2.1.2 i u z hu hz).mono (λ_ h=>h) λp u hp hu=>put_cell (λe=>b0 (by rw[<- e];exact hp)) hu)
     (by rw[a8];show Go.Sort.Holds id w blk 0 ((zs.map El.enc).flatten).toArray;rw[d2];exact holds_own a2) d0 (by simp;omega)
    have b9:zs.toArray.size=l.length:=by simpa using d3
    rw[b9]at a9;refine a9.mono ?_;rintro e w' ⟨rfl,d',n,os,hp,hs,rfl⟩;have b5:d'.size=l.length:=by rw[hp.1];exact b9
    have c0:=perm_of_in' (d:=zs.toArray) (by rw[b9];exact hp);have d1:=zq32 b5 hs
    have d8:d'.toList.map El.wd=Y0 f l:=by
     have c8:(d'.toList.map El.wd).Perm l:=(c0.map El.wd).trans (List.Perm.of_eq b7);refine zq55 (T.sub λx hx=>c8.mem_iff.1 hx) (c8.trans (iN f l).symm) ?_ (AE T);rw[sS];refine d1.imp λ{a b} hab=>?_;have c7:¬cfv f b.wd a.wd<0:=by simpa only[ltOf,decide_eq_false_iff_not]using hab
     exact c7
    rw[a8]
    have a3:((d'.toList.map El.enc).flatten).length=l.length*k:=by
     rw[U5 (k:=k) λx hx=>by obtain⟨y,_,rfl⟩:=D8.1 hx;exact a4 y];simp[b5]
    have b6:((Y0 f l).map c).flatten.length=l.length*k:=by
     rw[U5 (k:=k) λx hx=>by obtain⟨y,_,rfl⟩:=D8.1 hx;exact hk y,E1,(iN f l).length_eq]
    refine fin _ _ (own_put a2 a3) (by rw[a3,b6]) (λu hu=>?_) ⟨rfl,rfl,rfl,?_,λb hb d9=>put_block hb λe=>d9 (by simp[G3,e])⟩ λi u x hu hx=>?_
    ·obtain⟨e7,h2,h3⟩:=nO.1 hu;obtain⟨y,_,rfl⟩:=D8.1 h2;exact y.property.2.1 u h3
    ·simp[Sort.grow,putRow,mapBlock,Sort.ahead]
    ·have hi:i<l.length*k:=by rw[<- a3];exact(G4.1 hu).1
     have hq:i / k<l.length:=Nat.div_lt_of_lt_mul (by rwa [sL]at hi);have hm:i%k<k:=wR _ hk0;have c9:i / k*k+i%k=i:=by rw[sL];exact CE i k
     have a7:i / k<d'.size:=by rw[b5];exact hq
     have g1:=flat_get (es:=d'.toList.map El.enc) (i:=i / k) (j:=i%k) (e:=El.enc (d'[i / k]'a7)) (λx hx=>by obtain⟨y,_,rfl⟩:=D8.1 hx;exact a4 y) (by simp[a7]) hm;have g2:=flat_get (es:=(Y0 f l).map c) (i:=i / k) (j:=i%k) (e:=c (El.wd (d'[i / k]'a7))) (λx hx=>by obtain⟨y,_,rfl⟩:=D8.1 hx;exact hk y) (by rw[<- d8];simp[a7]) hm;rw[c9,hu]at g1;rw[c9,hx]at g2;refine((d'[i / k]'a7).property.2.2.1.2 _ _ _ g1.symm g2.symm).mono (λb hb=>⟨.inl hb,?_,?_⟩) λp u hp hu=>put_cell (λe=>b0 (by rw[<- e];exact hp)) hu
     ·have:w.heap.size<=(Sort.grow (putRow id (Sort.ahead w n) blk 0 ((d'.toList.map El.enc).flatten).toArray) os).heap.size:=by simp[Sort.grow,putRow,mapBlock,Sort.ahead]
      exact kY (hS b hb) this
     ·intro b2;have:b=blk:=by simpa[G3]using b2
      subst this;exact b0 hb
end model
end
end Go.Proofs.YtjmcbfbjajlbhaaGreatDoor.Sym
namespace Go.Proofs.YtjmcbfbjajlbhaaGreatDoor
def U9(d:Nat):UInt8:=if d<10 then UInt8.ofNat (48+d) else UInt8.ofNat (87+d)
def digsF:Nat->Nat->List UInt8
 |0,u=>[U9 u]
 |f+1,u=>if u<36 then [U9 u] else digsF f (u / 36)++[U9 (u%36)]
def digsF_more:∀(f g u:Nat),u<=f->u<=g->digsF f u=digsF g u
 |0,0,_,_,_=>rfl
 |0,g+1,u,h,_=>by
  have h0:u=0:=by omega
  subst h0;rfl
 |f+1,0,u,_,h=>by
  have h0:u=0:=by omega
  subst h0;rfl
 |f+1,g+1,u,h1,h2=>by
  unfold digsF;by_cases h:u<36
  ·rw[if_pos h,if_pos h]
  ·rw[if_neg h,if_neg h,digsF_more f g (u / 36) (by omega) (by omega)]
def digs(u:Nat):List UInt8:=digsF u u
def oT{u:Nat}(h:u<36):digs u=[U9 u]:=by
 unfold digs;cases u with
 |zero=>rfl
 |succ u=>unfold digsF;rw[if_pos h]
def tD{u:Nat}(h:36<=u):digs u=digs (u / 36)++[U9 (u%36)]:=by
 obtain⟨v,rfl⟩:∃v,u=v+1:=⟨u-1,by omega⟩;show digsF (v+1) (v+1)=digsF ((v+1) / 36) ((v+1) / 36)++[U9 ((v+1)%36)];rw[digsF,if_neg (by omega),digsF_more v ((v+1) / 36) ((v+1) / 36) (by omega) (Nat.le_refl _)]
def digs_len:∀(k u:Nat),u<36^(k+1)->(digs u).length<=k+1
 |0,u,h=>by rw[oT (by simpa using h)];simp
 |k+1,u,h=>by
  by_cases h1:u<36
  ·rw[oT h1];simp
  ·rw[tD (by omega),List.length_append];have:=digs_len k (u / 36) (by rw[Nat.div_lt_iff_lt_mul (by omega),<- Nat.pow_succ];exact h);simp;omega
def digs_len13{u:Nat}(h:u<18446744073709551616):(digs u).length<=13 :=
 digs_len 12 u (Nat.lt_of_lt_of_le h (by decide))
def digs_pos(u:Nat):0<(digs u).length:=by
 by_cases h1:u<36
 ·rw[oT h1];simp
 ·rw[tD (by omega)];simp
def undig(c:UInt8):Nat:=if c.toNat<58 then c.toNat-48 else c.toNat-87
def undig_dig{d:Nat}(h:d<36):undig (U9 d)=d:=by
 have:∀d:Fin 36,undig (U9 d.1)=d.1:=by decide
 exact this ⟨d,h⟩
def dig_char{d:Nat}(h:d<36):48<=(U9 d).toNat:=by
 have:∀d:Fin 36,48<=(U9 d.1).toNat:=by decide
 exact this ⟨d,h⟩
def undigs(l:List UInt8):Nat:=l.foldl (λn c=>n*36+undig c) 0
def IA(u:Nat):undigs (digs u)=u:=by
 induction u using Nat.strongRecOn with
 |_ u ih =>
  by_cases h1:u<36
  ·rw[oT h1];simp[undigs,undig_dig h1]
  ·rw[tD (by omega),undigs,List.foldl_append];have:=ih (u / 36) (by omega);rw[undigs]at this;simp only[List.foldl_cons,List.foldl_nil,this,undig_dig (Nat.mod_lt u (by omega))];omega
def digs_inj{u v:Nat}(h:digs u=digs v):u=v:=by rw[<- IA u,h,IA]
def tY(u:Nat):∀c∈digs u,48<=c.toNat:=by
 induction u using Nat.strongRecOn with
 |_ u ih =>
  by_cases h1:u<36
  ·rw[oT h1];intro c hc;simp at hc;rw[hc];exact dig_char h1
  ·rw[tD (by omega)];intro c hc;rw[List.mem_append]at hc;rcases hc with hc|hc
   ·exact ih (u / 36) (by omega) c hc
   ·simp at hc;rw[hc];exact dig_char (Nat.mod_lt u (by omega))
def aS(a:Int):List UInt8:=if a<0 then 45::digs a.natAbs else digs a.natAbs
def enc36_char(a:Int):∀c∈aS a,c≠32:=by
 intro c hc e;subst e;unfold aS at hc;split at hc
 ·simp only[List.mem_cons]at hc;rcases hc with hc|hc
  ·exact absurd hc (by decide)
  ·have:=tY _ _ hc;exact absurd this (by decide)
 ·have:=tY _ _ hc;exact absurd this (by decide)
def enc36_inj{a b:Int}(h:aS a=aS b):a=b:=by
 have a2:∀u v:Nat,45::digs u≠digs v:=λu v e=>by
  have:=tY v 45 (by rw[<- e];simp);exact absurd this (by decide)
 unfold aS at h;split at h<;>split at h
 ·injection h with _ h
  have:=digs_inj h;omega
 ·exact absurd h (a2 _ _)
 ·exact absurd h.symm (a2 _ _)
 ·have:=digs_inj h;omega
def enc36_len{a:Int}(h1:-9223372036854775808<=a)(h2:a<=9223372036854775807):(aS a).length<=14:=by
 have:=digs_len13 (u:=a.natAbs) (by omega);unfold aS;split<;>simp<;>omega
def keyL:List Int->List UInt8
 |[]=>[]
 |a::xs=>aS a++32::keyL xs
def zq21:∀xs ys:List Int,keyL (xs++ys)=keyL xs++keyL ys
 |[],_=>rfl
 |a::xs,ys=>by simp[keyL,zq21 xs ys]
def split_at{c:UInt8}:∀{xs ys rs ss:List UInt8},(∀d∈xs,d≠c)->(∀d∈ys,d≠c)->xs++c::rs=ys++c::ss->xs=ys/\rs=ss
 |[],[],rs,ss,_,_,h=>by simpa using h
 |[],y::ys,rs,ss,_,h2,h=>by
  simp at h;exact absurd h.1.symm (h2 y (by simp))
 |x::xs,[],rs,ss,h1,_,h=>by
  simp at h;exact absurd h.1 (h1 x (by simp))
 |x::xs,y::ys,rs,ss,h1,h2,h=>by
  simp only[List.cons_append,List.cons.injEq]at h;obtain⟨e1,e2⟩:=split_at (λd hd=>h1 d (by simp[hd])) (λd hd=>h2 d (by simp[hd])) h.2;exact⟨by rw[h.1,e1],e2⟩
def keyL_inj:∀{xs ys:List Int},keyL xs=keyL ys->xs=ys
 |[],[],_=>rfl
 |[],a::ys,h=>by simp[keyL]at h
 |a::xs,[],h=>by simp[keyL]at h
 |a::xs,b::ys,h=>by
  simp only[keyL]at h;obtain⟨e1,e2⟩:=split_at (enc36_char a) (enc36_char b) h;rw[enc36_inj e1,keyL_inj e2]
def xN:∀{xs:List Int},(∀x∈xs,-9223372036854775808<=x/\x<=9223372036854775807)->(keyL xs).length<=15*xs.length
 |[],_=>by simp[keyL]
 |a::xs,h=>by
  have h1:=xN (xs:=xs) λx hx=>h x (by simp[hx]);have h2:=h a (by simp);have h3:=enc36_len h2.1 h2.2;simp only[keyL,List.length_append,List.length_cons];omega
def Tryz.infoByte:(Tryz.prog.info? 5).map (λi=>(i.zero,i.size,i.bytes))=some (some (.int .u8 0),1,1):=by kernel_rfl
def bF(l:List UInt8):List Value:=l.map λb=>.int .u8 (b.toNat:Int)
def JR(l:List UInt8):(bF l).length=l.length:=by simp[bF]
def FH(l m:List UInt8):bF (l++m)=bF l++bF m:=by simp[bF]
def bcells_one(l:List UInt8):∀u∈bF l,u.oneCell'=true:=by
 intro u hu;simp only[bF,List.mem_map]at hu;obtain⟨b,_,rfl⟩:=hu;rfl
def OwnB(w:World)(base:Nat)(v:Value)(l:List UInt8):Prop:=w.ownsRow base 5 1 v l.length (bF l)
def OwnB.lt{w:World}{base:Nat}{v:Value}{l:List UInt8}(h:OwnB w base v l):∀k,v.ownBlock=some k->base<=k/\k<w.heap.size:=World.ownsRow.lt h
def OwnB.nil_(w:World)(base:Nat):OwnB w base (.slice none 0 0) []:=World.ownsRow_nil _ _ _ _
def MoreB(w:World)(base:Nat)(l:List UInt8)(e:Ending)(w':World):Prop:=∃v',e=.returned v'/\OwnB w' base v' l/\Below base w w'
def idx36(k:IntKind)(z:Int)(d:Nat)(hz:z=(d:Int))(hd:d<36)(w:World) :
  (Instr.index 9 (.string { data:=#[48,49,50,51,52,53,54,55,56,57,97,98,99,100,101,102,103,104,105,106,107,108,109,110,111,112,113,114,115,116,117,118,119,120,121,122] }) (.int k z)).run Tryz.prog w=.ok (.int .u8 ((U9 d).toNat:Int)) w:=by
 subst hz;rw[run_index_string w 9 _ k _ Tryz.underlying9,dif_pos ⟨by omega,by show(d:Int)<((36:Nat):Int);omega⟩];have:∀d:Fin 36,(({ data:=#[48,49,50,51,52,53,54,55,56,57,97,98,99,100,101,102,103,104,105,106,107,108,109,110,111,112,113,114,115,116,117,118,119,120,121,122] }:ByteArray)[d.1]'(by show d.1<36;exact d.2))=U9 d.1:=by decide
 have h:=this ⟨d,hd⟩;simp only[Int.toNat_natCast];rw[h]
def Dig(zs:List Value)(i:Nat)(l:List UInt8):Prop:=zs.length=65/\zs.drop i=bF l
def Dig.push{zs:List Value}{j:Nat}{m:List UInt8}(h:Dig zs (j+1) m)(hj:j<65)(c:UInt8):Dig (zs.set j (.int .u8 (c.toNat:Int))) j (c::m):=by
 obtain⟨h1,h2⟩:=h;refine⟨by simpa using h1,?_⟩;rw[List.drop_eq_getElem_cons (by simp;omega),List.getElem_set_self,List.drop_set_of_lt (by omega),h2];rfl
set_option maxRecDepth 100000 in
set_option maxHeartbeats 1600000 in
def formatBits_any{B u:Nat}{sv:Value}{l:List UInt8}{w:World}(hu:u<18446744073709551616)(hown:OwnB w B sv l)(hB:B<=w.heap.size)(hl:l.length<=1000000000) :
  Calls Tryz.prog 247 #[sv,.int .u64 u,.int .i64 36,.bool false,.bool true] w (λe w'=>∃v',e=.returned (.tuple #[v',.string ByteArray.empty])/\OwnB w' B v' (l++digs u)/\Below B w w'):=by
 obtain⟨i0,hi,c8,c6,b8⟩:=info_parts Tryz.infoByte;have b0:=Lib.hid hown;clear hown;have b6:(bits BinOp.and IntKind.i64 36 35==0)=false:=by decide
 go_enter Tryz.func247,Tryz.ntmps247
 go_wp2
 go_loopw [1,13,18] (λv i _ wr=>∃k j:Nat,∃m:List UInt8,∃zs,v=.int .u64 k/\i=.int .i64 j/\k<18446744073709551616/\j+m.length=65/\Hid (digs k++m=digs u)/\Hid (Dig zs j m)/\wr.ownsRow w.heap.size 299 1 (.slice (some ⟨w.heap.size,0,none⟩) 65 65) 65 zs/\Below w.heap.size w wr) (λv _ _ _=>(intOf v).toNat)
 case atStart=>exact⟨u,65,[],_,rfl,rfl,hu,rfl,Lib.hid (by simp),Lib.hid ⟨rfl,rfl⟩,World.ownsRow_lit w _ 65 (Nat.le_refl _) (by unfold maxLen;omega) rfl,(Below.refl _ _).alloc (Nat.le_refl _) _⟩
 case round =>
  obtain⟨k,j,m,zs,rfl,rfl,hk,hj,HD,HZ,a3,a5⟩:=hrel
  have d0:m.length<=12:=by
   have h1:=congrArg List.length HD.out;rw[List.length_append]at h1;have h2:=digs_pos k;have h3:=digs_len13 hu;omega
  obtain⟨j,rfl⟩:∃j':Nat,j=j'+1:=⟨j-1,by omega⟩;have a9:j<zs.length:=by rw[HZ.out.1];omega
  have q1:wr.cell? ⟨w.heap.size,j,none⟩=some (zs[j]):=by rw[a3.cellAt j (by omega)];exact List.getElem?_eq_getElem a9
  have q2:wr.frozen? ⟨w.heap.size,j,none⟩=false:=a3.frozenAt j;generalize zs[j]=z0 at q1;have HR:=Lib.hid a3;have HB:=Lib.hid a5;clear a3 a5 a9;by_cases h1:36<=k
  ·have e0:((j+1:Nat):Int)-1=(j:Int):=by omega
   have c9:=λW=>idx36 .u64 ((k:Int)-(k:Int) / 36*36) (k%36) (by omega) (by omega) W
   go_wp2
   go_roundw
   case rel =>
    obtain⟨s1,s2⟩:=HR.out.stored j (.int .u8 ((U9 (k%36)).toNat:Int));exact⟨k / 36,j,U9 (k%36)::m,_,by go_num,rfl,by omega,by simp;omega,Lib.hid (by rw[<- HD.out,tD h1];simp),Lib.hid (HZ.out.push (by omega) _),s1,HB.out.grown s2 HB.out.size (λg e=>by injection e with e;omega)⟩
   case measure=>simp[intOf]<;>omega
  ·have e0:((j+1:Nat):Int)-1=(j:Int):=by omega
   have c9:=λW=>idx36 .u64 (k:Int) k rfl (by omega) W;have b5:Tryz.prog.arrayLen 299=65:=by simp[Program.arrayLen,Tryz.underlying299]
   have d1:∀W,(Instr.sliceAt 299 (.pointer (some ⟨w.heap.size,0,none⟩)) (some (.int .i64 (j:Int))) none none).run Tryz.prog W=.ok (.slice (some ⟨w.heap.size,j,none⟩) (65-j) (65-j)) W:=λW=>by
    rw[run_sliceAt_array_l W 299 ⟨w.heap.size,0,none⟩ (by simp[Program.arrayLen,Program.elem,Tryz.underlying299]) .i64 (j:Int) (by omega) (by rw[b5];omega)]
    go_simp
    omega
   obtain⟨s1,s2⟩:=HR.out.stored j (.int .u8 ((U9 k).toNat:Int));have hb2:Below w.heap.size w (wr.setCell ⟨w.heap.size,j,none⟩ (.int .u8 ((U9 k).toNat:Int))):=HB.out.grown s2 HB.out.size (λg e=>by injection e with e;omega);have a2:OwnB (wr.setCell ⟨w.heap.size,j,none⟩ (.int .u8 ((U9 k).toNat:Int))) B sv l:=World.ownsRow.kept b0.out (grown_none hb2) (by cases sv.ownBlock<;>simp);have a8:=HZ.out.push (by omega) (U9 k)
   have b4:Src (wr.setCell ⟨w.heap.size,j,none⟩ (.int .u8 ((U9 k).toNat:Int))) (some ⟨w.heap.size,j,none⟩) (65-j) (bF (U9 k::m)):=by
    refine⟨by rw[JR];simp;omega,λ_=>⟨_,_,rfl,λi v hv=>?_⟩⟩;have hi:i<(bF (U9 k::m)).length:=(List.getElem?_eq_some_iff.1 hv).1;rw[JR,List.length_cons]at hi;rw[s1.cellAt (j+i) (by omega),<- hv,<- a8.2,List.getElem?_drop]
   have a7:=bcells_one (U9 k::m);have b9:l.length+(65-j)<=maxLen:=by unfold maxLen;omega
   have b7:(l.length+(65-j))*1<=140737488355328:=by omega
   have b2:B<=(wr.setCell ⟨w.heap.size,j,none⟩ (.int .u8 ((U9 k).toNat:Int))).heap.size:=Nat.le_trans hB hb2.size
   have a4:bF l++bF (U9 k::m)=bF (l++digs u):=by
    rw[<- FH,<- HD.out,oT (by omega)];rfl
   have b3:l.length+(65-j)=(l++digs u).length:=by
    rw[<- HD.out,oT (by omega)];simp;omega
   have HF:=Lib.hid (And.intro a4 b3);have c7:=Lib.hid hb2;clear s1 s2 a8 hb2 a4 b3 b5;unfold OwnB at a2
   go_wp2_with (at_builtin;refine GC rfl (.tmp 95) (.tmp 97) 246 rfl B 5 i0 (.int .u8 0) 1 Tryz.underlying246 hi c8 c6 b8 rfl sv _ _ rfl a2 _ (65-j) (65-j) _ rfl b4 a7 b9 b7 b2 ?_;intro v1 w1 a6 c0 hb1)
   go_ret2
   have d2:=a2;refine⟨_,rfl,?_,?_⟩
   ·unfold OwnB;rw[<- HF.out.1,<- HF.out.2];exact a6
   ·exact(c7.out.mono hB).grown c0 b2 λg e=>(OwnB.lt a2 g e).1
set_option maxRecDepth 100000 in
set_option maxHeartbeats 800000 in
def KF{B u:Nat}{sv:Value}{l:List UInt8}{w:World}(hu:u<18446744073709551616)(hown:OwnB w B sv l)(hB:B<=w.heap.size)(hl:l.length<=1000000000) :
  Calls Tryz.prog 238 #[sv,.int .u64 u,.int .i64 36] w (MoreB w B (l++digs u)):=by
 have a2:=formatBits_any hu hown hB hl;clear hown
 go_enter Tryz.func238,Tryz.ntmps238
 go_wp2_with (go_at_call 247;refine a2.mono ?_;rintro e w' ⟨v',rfl,a3,a4⟩)
 go_ret
 exact⟨_,rfl,a3,a4⟩
set_option maxRecDepth 100000 in
set_option maxHeartbeats 800000 in
def appendInt_any{B:Nat}{a:Int}{sv:Value}{l:List UInt8}{w:World}(ha1:-9223372036854775808<=a)(ha2:a<=9223372036854775807)(hown:OwnB w B sv l)(hB:B<=w.heap.size)(hl:l.length<=100000000) :
  Calls Tryz.prog 220 #[sv,.int .i64 a,.int .i64 36] w (MoreB w B (l++aS a)):=by
 obtain⟨i0,hi,b6,b9,b7⟩:=info_parts Tryz.infoByte;by_cases h1:a<0
 ·have b3:∀t,Src (w.alloc (.cells #[.int .u8 45] t)) (some ⟨w.heap.size,0,none⟩) 1 [.int .u8 45]:=λt=>src_one w _ t;have b0:∀u∈[Value.int .u8 45],u.oneCell'=true:=by intro u hu;simp at hu;subst hu;rfl
  have a4:∀o,(w.alloc o).ownsRow B 5 1 sv l.length (bF l):=λo=>World.ownsRow.alloc hown o;have b8:l.length+1<=maxLen:=by unfold maxLen;omega
  have b5:(l.length+1)*1<=140737488355328:=by omega
  have a7:∀o,B<=(w.alloc o).heap.size:=λo=>by simp;omega
  have c0:=OwnB.lt hown;have b4:∀o,Below B w (w.alloc o):=λo=>(Below.refl B w).alloc hB o;have b2:=Lib.hid hown;clear hown;have e1:(aS a)=45::digs a.natAbs:=by unfold aS;rw[if_pos h1]
  have HE:=Lib.hid e1;clear e1
  go_enter Tryz.func220,Tryz.ntmps220
  go_wp2_with (at_builtin;refine GC rfl (.tmp 12) (.tmp 13) 246 rfl B 5 i0 (.int .u8 0) 1 Tryz.underlying246 hi b6 b9 b7 rfl sv _ _ rfl (a4 _) _ 1 1 [.int .u8 45] rfl (b3 _) b0 b8 b5 (a7 _) ?_;intro v1 w1 a5 a8 hb1)
  have hw:IntKind.u64.wrap (-IntKind.u64.wrap a)=((a.natAbs:Nat):Int):=by
   rw[IntKind.wrap_u64,IntKind.wrap_u64];omega
  rw[hw]
  have a6:OwnB w1 B v1 (l++[45]):=by
   unfold OwnB;rw[FH,List.length_append];exact a5
  have hb2:Below B w w1:=(b4 _).grown a8 (a7 _) λg e=>(c0 g e).1;have a2:=KF (u:=a.natAbs) (by omega) a6 (Nat.le_trans hB (by have:=a8.size;simp at this;omega)) (by simp;omega);clear a5 a8 hb1 a6 a4 b3 a7;refine a2.mono ?_;rintro e w' ⟨v',rfl,a3,a9⟩
  go_wp2
  go_ret
  refine⟨_,rfl,?_,hb2.trans a9⟩;rw[HE.out];simpa using a3
 ·have b2:=Lib.hid hown;have e1:(aS a)=digs a.natAbs:=by unfold aS;rw[if_neg h1]
  have hw:IntKind.u64.wrap a=((a.natAbs:Nat):Int):=by
   rw[IntKind.wrap_u64];omega
  have a2:=KF (u:=a.natAbs) (by omega) hown hB (by omega);clear hown
  go_enter Tryz.func220,Tryz.ntmps220
  go_wp2_with (go_at_call 238;refine a2.mono ?_;rintro e w' ⟨v',rfl,a3,a9⟩)
  go_ret
  exact⟨_,rfl,by rw[e1];exact a3,a9⟩
set_option maxRecDepth 100000 in
def ztm{B:Nat}{a:Int}{sv:Value}{l:List UInt8}{w:World}(ha1:-9223372036854775808<=a)(ha2:a<=9223372036854775807)(hown:OwnB w B sv l)(hB:B<=w.heap.size)(hl:l.length<=100000000) :
  Calls Tryz.prog 187 #[sv,.int .i64 a,.int .i64 36] w (MoreB w B (l++aS a)):=by
 have a2:=appendInt_any ha1 ha2 hown hB hl;clear hown
 go_enter Tryz.func187,Tryz.ntmps187
 go_wp2_with (go_at_call 220;refine a2.mono ?_;rintro e w' ⟨v',rfl,a3,a4⟩)
 go_ret
 exact⟨_,rfl,a3,a4⟩
def keyL_take{xs:List Int}{k:Nat}{x:Int}(h:xs[k]?=some x):keyL (xs.take (k+1))=(keyL (xs.take k)++aS x)++[32]:=by
 rw[L9 h,zq21];simp[keyL]
def Rng(x:Int):Prop:=-9223372036854775808<=x/\x<=9223372036854775807
def KeyPost(w:World)(l:List UInt8)(e:Ending)(w':World):Prop:=e=.returned (.string ⟨l.toArray⟩)/\Below w.heap.size w w'
set_option maxRecDepth 100000 in
set_option maxHeartbeats 1600000 in
def key_any{A:Option Addr}{n c:Nat}{xs:List Int}{w:World}(hx:T0 w cU A n c xs)(hr:∀x∈xs,Rng x)(hn:n<=2000000) :
  Calls Tryz.prog 130 #[.slice A n c] w (KeyPost w (keyL xs)):=by
 have HL:=Lib.hid hx.len;have HR:=Lib.hid hr;obtain⟨i0,hi,c9,c8,c0⟩:=info_parts Tryz.infoByte;clear hr
 go_enter Tryz.func130,Tryz.ntmps130
 go_wp2
 go_loopw [3,5,8] (λv _ i wr=>∃k:Nat,k<=n/\i=.int .i64 k/\OwnB wr w.heap.size v (keyL (xs.take k))/\Below w.heap.size w wr) (λ_ _ i _=>n-(intOf i).toNat)
 case atStart=>exact⟨0,by omega,rfl,OwnB.nil_ _ _,Below.refl _ _⟩
 case round =>
  obtain⟨k,hk,rfl,a3,a4⟩:=hrel
  have d1:(keyL (xs.take k)).length<=15*k:=by
   have:=xN (xs:=xs.take k) λx hx=>HR.out x (List.mem_of_mem_take hx);rw[List.length_take]at this;omega
  by_cases h1:k<n
  ·obtain⟨b,o,x,rfl,a9,b6⟩:=hx.int_at h1;have hc:=Keeps.of_below a4 _ _ b6;have a8:=HR.out x (List.mem_of_getElem? a9);have HX:=Lib.hid a9;have HC:=Lib.hid (ztm a8.1 a8.2 a3 a4.size (by omega));have d0:=enc36_len a8.1 a8.2;have HB:=Lib.hid a4;clear a9 b6 a8 a3 a4;have b3:∀u∈[Value.int .u8 32],u.oneCell'=true:=by intro u hu;simp at hu;subst hu;rfl
   have c7:(keyL (xs.take k)++aS x).length+1<=maxLen:=by unfold maxLen;simp;omega
   have b8:((keyL (xs.take k)++aS x).length+1)*1<=140737488355328:=by simp;omega
   go_wp2_with (first|(go_at_call 187;refine HC.out.mono ?_;rintro e w1 ⟨v1,rfl,a5,hb1⟩;have HH:=Lib.hid (And.intro a5 hb1);have b7:=λt=>src_one w1 (.int .u8 32) t;have a6:=λo=>World.ownsRow.alloc a5 o;have b0:∀o,w.heap.size<=(w1.alloc o).heap.size:=(λo=>by have:=HB.out.size;have:=hb1.size;simp;omega);clear a5 hb1)|(at_builtin;refine GC rfl (.tmp 14) (.tmp 15) 246 rfl w.heap.size 5 i0 (.int .u8 0) 1 Tryz.underlying246 hi c9 c8 c0 rfl v1 _ _ rfl (a6 _) _ 1 1 [.int .u8 32] rfl (b7 _) b3 c7 b8 (b0 _) ?_;intro v2 w2 a7 b5 hb2))
   have b4:OwnB w2 w.heap.size v2 (keyL (xs.take (k+1))):=by
    unfold OwnB;rw[keyL_take HX.out,FH,List.length_append];exact a7
   have b2:Below w.heap.size w w2:=((HB.out.trans (HH.out.2.mono (Nat.le_refl _))).alloc (by have:=HB.out.size;have:=HH.out.2.size;omega) _).grown b5 (b0 _) λg e=>(OwnB.lt HH.out.1 g e).1;clear a7 b5 hb2 b7 a6 b0
   go_roundw
   case rel=>exact⟨k+1,by omega,by go_num,b4,b2⟩
   case measure=>simp[intOf]<;>omega
  ·rw[List.take_of_length_le (by rw[HL.out];omega)]at a3
   have c6:(convert 246 9 u3).run Tryz.prog wr=.ok (.string ⟨(keyL xs).toArray⟩) wr:=by
    rcases a3.2 with⟨rfl,h0⟩|⟨g,b9,cur,rfl,_,_,_⟩
    ·have a2:keyL xs=[]:=List.eq_nil_of_length_eq_zero h0;rw[a2];exact Lib.run_convert_nil_bytes wr _ _ _ 0 Tryz.underlying246 Tryz.underlying5 Tryz.underlying9
    ·refine run_convert_bytes_back wr _ _ _ ⟨g,0,none⟩ b9 (keyL xs) Tryz.underlying246 Tryz.underlying5 Tryz.underlying9 λj hj=>?_;rw[a3.cells (g:=g) rfl j (.int .u8 ((keyL xs)[j].toNat:Int)) (by simp[bF,hj])]
   clear a3
   go_wp2
   go_ret
   exact⟨rfl,a4⟩
end Go.Proofs.YtjmcbfbjajlbhaaGreatDoor
namespace Go.Proofs.YtjmcbfbjajlbhaaGreatDoor.Sym
def lN{w:World}{S:Nat->Prop}{v:Value}{l:A2}(h:RepI w S v (nL cI l)):∃A n c,v=.slice A n c/\T0 w cU A n c l:=by
 have h:RepI w S v (.sl (l.map cI)):=h;generalize he:l.map cI=es at h;cases h with
 |emp A c =>
  have:l=[]:=by simpa using he
  subst this;exact⟨A,0,c,rfl,rfl,F8 _,by omega,λh=>by omega⟩
 |sl b o c k n _ us hn hk hc hs hS hl h1 hu hr =>
  subst he
  have hf:(l.map cI).flatten=l.map λx=>nI x:=by
   clear hn hk hl hr h
   induction l with
   |nil=>rfl
   |cons x l ih=>rw[L0,V6,ih];rfl
  rw[hf]at hl hr;refine⟨_,_,_,rfl,by simpa using hn,hc,hs,λ_=>⟨b,o,rfl,λi x hx=>?_⟩⟩;have hi:i<us.length:=by rw[hl,E1];exact(G4.1 hx).1
  have hg:=L4 hi;refine⟨_,hu i _ hg,?_⟩;have:=hr i _ (nI x) hg (by rw[K5,hx];rfl);generalize us[i]=u at this;cases this with
  |val _=>rfl
def qX(l:A2):Option ByteArray:=chk (∀x∈l,inR x) (chk (l.length<=2000000) (some ⟨(keyL l).toArray⟩))
set_option maxRecDepth 100000 in
def EX(l:A2)(r:ByteArray)(h:qX l=some r):Sp Tryz.prog 130 [.im (nL cI l)] (.im (nS r)):=by
 obtain⟨h1,h⟩:=J0 h;obtain⟨h2,h⟩:=J0 h;injection h with h
 subst h;refine⟨λargs w=>fY rfl rfl rfl args w,λw S vs F hS hv hn hF=>?_⟩
 match vs,hv with
 |[v],⟨F1,F2,⟨h3,e1⟩,h4,e2⟩ =>
  have h4:F2=[]:=h4;subst e1 h4 e2;obtain⟨A,n,c,rfl,a2⟩:=lN h3;refine(key_any a2 h1 (by rw[<- a2.1];exact h2)).mono ?_;rintro e w' ⟨rfl,hb⟩;exact⟨_,[],rfl,.of hb,⟨[_],[],[],rfl,⟨[],[],⟨.val _,rfl⟩,rfl,rfl⟩,rfl,rfl⟩,gP,λb hb=>by simp at hb⟩
end Go.Proofs.YtjmcbfbjajlbhaaGreatDoor.Sym

/- Parts of the proof. -/
import Derived.Test.YtkeplokjplkcmaaGreatM1
import Derived.Maps.Own
import Derived.Laws.StructEq
import Derived.ChangeKeysEq
import Derived.Great.BuildSlice
import Derived.Orders
import Derived.Scope
import Derived.Test.YtkeplokjplkcmaaGreatRows
import Derived.ProofKit
import Derived.OpenShut
import Derived.JoinedCond
import Derived.Deep.DeepHandedRow
import Derived.Deep.Slices
import Derived.Lib.Hide
import Derived.Lib.AppendZeros
set_option linter.all false
set_option maxRecDepth 100000
set_option maxHeartbeats 4000000
open Go.RowKit
namespace Go.Proofs.YtkeplokjplkcmaaGreat.Sym
section
open Go.RowKit Go.ChangeMaps
def ba_eq{a b:ByteArray}(h:(a==b)=true):a=b:=by
 have h:ByteArray.beq a b=true:=h;unfold ByteArray.beq at h;cases a;cases b;simp at h;rw[h]
def ba_rfl(a:ByteArray):(a==a)=true:=by
 show ByteArray.beq a a=true;unfold ByteArray.beq;simp
section
variable {P:Program}{B:Base}{o:Oper}{X:St}{K:Fx->Prop}
def aNilCheck_ok{x:Operand}(hop:o.op=.nilCheck x)(hd:J0 B.n o=true)(h:aNilCheck o X K x):∃fx,K fx/\Eff P B o fx.rd X fx.wr:=False.elim h
def lM{V:Type}(z:List V):∀(l j:Nat),(List.replicate l z).flatten[j]?=if j<l*z.length then z[j%z.length]? else none
 |0,j=>by simp
 |l+1,j=>by
  rw[List.replicate_succ,V4,Q0,lM z l];by_cases h:j<z.length
  ·rw[if_pos h,if_pos (by rw[Nat.add_mul];omega),yI h]
  ·have e:j%z.length=(j-z.length)%z.length:=Nat.mod_eq_sub_mod (by omega);rw[if_neg h,e];by_cases h2:j-z.length<l*z.length
   ·rw[if_pos h2,if_pos (by rw[Nat.add_mul];omega)]
   ·rw[if_neg h2,if_neg (by rw[Nat.add_mul];omega)]
def made_take(z:Array Value)(l c:Nat)(h:l<=c)(hz:0<z.size):(madeCells z (c*z.size)).toList.take (l*z.size)=(List.replicate l z.toList).flatten:=by
 apply aA;intro j;rw[lM,aC];have hm:l*z.size<=c*z.size:=bC _ h;simp only[Array.length_toList];by_cases hj:j<l*z.size
 ·rw[if_pos hj,if_pos hj];have a2:j%z.size<z.size:=fC _ hz;unfold madeCells;rw[fF,H1,Array.toList_range,P4 (by omega)];simp only[J4];rw[getElem!_pos z (j%z.size) a2,R4,rO a2]
 ·rw[if_neg hj,if_neg hj]
def cap_bytes{c by_:Nat}(h:B4 c by_):(by_:Int)*(c:Int)<=281474976710656:=by
 have h1:=h.1;have:((by_*c:Nat):Int)<=281474976710656:=by rw[jD];omega
 rwa [Int.natCast_mul]at this
def mkZ_rep{w:World}{S:Nat->Prop}(own:List Nat)(d:Nat)(v:Value):RepI w S v (mkZ own d v):=by
 unfold mkZ;split
 ·exact .val v
 ·exact iP (.val v)
def aMakeSlice_ok{own:List Nat}{t:TypeId}{len cap:Operand}(hop:o.op=.makeSlice t len cap)(hd:J0 B.n o=true)(h:vW P own o X K t len cap):∃fx,K fx/\Eff P B o fx.rd X fx.wr:=by
 unfold vW at h;split at h
 ·rename_i d et a3 d7;have c9:=Z8 d7;split at h
  ·rename_i l c k z by_ hl hc hk hz d8;obtain⟨a5,h⟩:=h.ok;simp only[O2]at a5;have d5:=aK a5.1.1;obtain⟨i,zv,hi,c6,b6,a9,c0⟩:=iS a5.1.2 hk d8
   have c8:zv.cells.toList=z:=by
    unfold zeroOf at hz;simp only[hi,c6,J4,D6]at hz;exact hz
   have e0:∀u∈z,u.oneCell'=true:=λu hu=>R3.1 a5.2 u hu;have a2:z.length=k:=by rw[<- c8];simpa using c0
   obtain⟨⟨h0,e7,b2⟩,h⟩:=h.out;have e8:(c.toNat:Int)=c:=oO (by omega);have b8:l.toNat<=c.toNat:=by omega
   have e6:c.toNat<=17592186044416:=b2.2
   have F8:∀X' a w Y,SatR B X' a w Y->(∀y∈opd len++opd cap,X' y=X y)->(execOp a.eval o).run P w=.ok (.value (.slice (some ⟨w.heap.size,0,none⟩) l.toNat c.toNat)) (w.alloc (.cells (madeCells zv.cells (c.toNat*k)) et)):=λX' a w Y hs hag=>by
    have h1:=E6 hs len;rw[E5 (G3 hag)]at h1;have h2:=E6 hs cap;rw[E5 (I1 hag)]at h2;have hb:=cap_bytes b2;rw[<- a9,e8]at hb;have hr:=run_make (P:=P) w t et i zv c9 hi c6 .i64 .i64 l c h0 e7 hb (by omega);rw[b6]at hr;simp[execOp,hop,U4 hl h1,U4 hc h2,hr]
   have a8:∀w:World,(w.alloc (.cells (madeCells zv.cells (c.toNat*k)) et)).ownsRow 0 et k (.slice (some ⟨w.heap.size,0,none⟩) l.toNat c.toNat) l.toNat (List.replicate l.toNat z).flatten:=λw=>by
    refine⟨?_,.inr ⟨w.heap.size,c.toNat,_,rfl,D8 _,heap_alloc_new w _,b8,by unfold maxLen;omega,size_madeCells _ _,?_⟩⟩
    ·rw[R1 (k:=k) (λx hx=>by rw[eH hx];exact a2),K7]
    ·rw[<- c8,<- c0];exact made_take zv.cells _ _ b8 (by omega)
   have a7:∀u∈(List.replicate l.toNat z).flatten,u.oneCell'=true:=λu hu=>by
    obtain⟨x,hx,d1⟩:=rP.1 hu;rw[eH hx]at d1;exact e0 u d1
   have m:∀(X':St) (w:World) (Y:Ly),jK X' w (w.alloc (.cells (madeCells zv.cells (c.toNat*k)) et)) Y none (.slice (some ⟨w.heap.size,0,none⟩) l.toNat c.toNat) none:=λX' w Y =>
    ⟨World.grownBy_alloc w _ none,(λb e=>by cases e),λb e=>.inr (by simp only[F6,D6]at e;omega)⟩
   split at h
   ·split at h
    ·rename_i e' e9;split at h
     ·rename_i k' f3;obtain⟨a4,h⟩:=h.ok;simp only[O2]at a4;have c7:k=1:=by simpa using a4.1.1
      have d4:=aK a4.2
      have b3:z=[.slice none 0 0]:=by
       have:=a4.1.2;split at this
       ·rfl
       ·cases this
      have h:=h.out;refine⟨_,h,λX' hag a w ⟨Y,hs⟩ K' Q hK=>?_⟩;unfold Oper.wp;rw[F8 X' a w Y hs (G3 hag),Oper.upon_value,a3];have hg:X'.gn d=X.gn d:=S2 (I1 hag (.gen d) (by simp));have d2:X'.ig d=X.ig d:=fN (I1 hag (.ign d) (by simp));obtain⟨e1,e2,e3,e4,e5⟩:=mkK_eqs X' X d (.grid et e' k' (List.replicate l.toNat [IV.sl []]) none)
      let v:Value:=.slice (some ⟨w.heap.size,0,none⟩) l.toNat c.toNat
      let X2:=app X' (X5 X d (.grid et e' k' (List.replicate l.toNat [IV.sl []]) none))
      let Y2:Ly:=setK Y X2 d v (List.replicate l.toNat (.slice none 0 0)) (.grid et e' k' (List.replicate l.toNat [IV.sl []]) none)
      have d0:fpv v (List.replicate l.toNat (.slice none 0 0))=[w.heap.size]:=by
       unfold fpv;simp only[gB,v,F6];congr 1;exact List.filterMap_eq_nil_iff.2 λx hx=>by rw[eH hx];rfl
      have b9:∀b,Owns X2 Y2 d b->b=w.heap.size:=λb hb=>by
       unfold Owns at hb;rw[e1,if_pos rfl]at hb;simp only[Y2,setK,if_pos]at hb;have hb:b∈fpv v (List.replicate l.toNat (.slice none 0 0)):=hb;rw[d0]at hb;simpa using hb
      have a6:=World.grownBy_alloc w (.cells (madeCells zv.cells (c.toNat*k)) et) none
      obtain⟨b5,_,_⟩:=hs.step (X':=X2) (Y':=Y2) (w':=w.alloc (.cells (madeCells zv.cells (c.toNat*k)) et)) (λo=>o=d) e4
       (λo hd=>⟨by show X2.kd o=_;rw[e1,if_neg hd],by show X2.gn o=_;rw[e2,if_neg hd],λi=>e5 o i,by simp[Y2,setK,hd],by simp[Y2,setK,hd],by show X2.ig o=_;rw[e3,if_neg (λe=>hd e.1)];exact(hs.igs o).symm⟩)
       (λo hd=>by
        subst hd
        refine⟨⟨by rw[e2,if_pos rfl,hg];omega,λe=>by rw[e2,if_pos rfl,hg]at e;omega⟩,?_,λe=>?_⟩
        ·show _<=X2.ig o
         rw[e3,hs.igs,d2,if_pos ⟨rfl,rfl⟩];omega
        ·have e:X2.ig o=Y.ig o:=e
         rw[e3,hs.igs,d2,if_pos ⟨rfl,rfl⟩]at e;omega)
       (λo=>rfl) ⟨a6.os,a6.tape,a6.output,a6.size,λb hb _=>a6.block b hb (by simp)⟩ (λo b hd ho=>by subst hd;rw[b9 b ho];exact .inl (F9 _)) (λo p b hd hp _ _=>hd.trans hp.symm) λhI hA o hd=>by
        subst hd;rw[e1,if_pos rfl];show cY _ _ (Y2 o) (Y2.inn o) _ _ _ _ _;simp only[Y2,setK,if_pos];refine⟨by show(fpv v (List.replicate l.toNat (.slice none 0 0))).Nodup;rw[d0];simp,by simp[innK],(List.replicate l.toNat z).flatten,by simp;omega,?_,a7,λi u hu=>.inr ⟨?_,[],?_,?_⟩⟩
        ·have:=a8 w;rw[c7]at this;rw[K7];rw[c7];exact this
        ·have hu:(List.replicate l.toNat (.slice none 0 0))[i]?=some u:=hu;rw[lM,b3];rw[Y8]at hu;split at hu
         ·rename_i b4;injection hu with hu
          subst hu;simp[b4,Nat.mod_one]
         ·cases hu
        ·have hu:(List.replicate l.toNat (Value.slice none 0 0))[i]?=some u:=hu;rw[Y8]at hu ⊢;split at hu
         ·rename_i b4;rw[if_pos b4]
         ·cases hu
        ·have hu:(List.replicate l.toNat (Value.slice none 0 0))[i]?=some u:=hu;rw[Y8]at hu;split at hu
         ·injection hu with hu
          subst hu;exact⟨[],d4,by simp,by simp,World.ownsRow_nil _ _ _ _,rfl,by simp,by simp⟩
         ·cases hu
      refine hK _ _ ⟨Y2,?_⟩;rw[L5];refine b5.put (d:=some d) (λt e=>by injection e with e;subst e;exact U6 hd a3) (.osl _ _ _ rfl ?_ λ_=>?_)
      ·show _<=X2.gn d;rw[e2,if_pos rfl];exact F9 _
      ·simp[Y2,setK,v]
     ·exact h.elim
    ·exact h.elim
   ·split at h
    ·have h:=h.out;refine⟨_,h,λX' hag a w ⟨Y,hs⟩ K' Q hK=>?_⟩;unfold Oper.wp;rw[F8 X' a w Y hs hag,Oper.upon_value,a3];have d3:Below w.heap.size w (w.alloc (.cells (madeCells zv.cells (c.toNat*k)) et)):=(Below.refl _ _).alloc (F9 _) _;obtain⟨d6,hI⟩:=hs.world d3;refine hK _ _ ⟨Y,?_⟩;show SatR B (app X' [(.tmp d,.av (.im (.sl (List.replicate l.toNat (z.map λv=>nz1 (.val v))))))]) _ _ _;refine d6.put (d:=some d) (λt e=>by injection e with e;subst e;exact U6 hd a3) (.im _ _ ?_);refine .sl w.heap.size 0 c.toNat k l.toNat _ (List.replicate l.toNat z).flatten (by rw[K7]) (λx hx=>by rw[eH hx,B7,a2]) b8 (by omega) ⟨.inr (.inl hs.bel.size),by simp,λp d9=>?_,λhz=>?_⟩ ?_ a7 (λi u hu=>?_) λi u x hu hx=>?_
     ·have:=(hs.own p _ d9).2;omega
     ·have:=(hs.res _ hz).1.2;omega
     ·rw[R1 (k:=k) (λx hx=>by rw[eH hx];exact a2),R1 (k:=k) (λx hx=>by rw[eH hx,B7,a2])];simp
     ·have:=(a8 w).cells (g:=w.heap.size) rfl i u hu;rw[addr_add,E8]at this;rw[E8];exact this
     ·rw[lM]at hu hx;rw[B7]at hx;split at hu
      ·rename_i b7;rw[if_pos b7,H1,hu]at hx;injection hx with hx
       subst hx;exact iP (.val u)
      ·cases hu
    ·have h:=h.out;refine⟨_,h,λX' hag a w ⟨Y,hs⟩ K' Q hK=>?_⟩;unfold Oper.wp;rw[F8 X' a w Y hs (G3 hag),Oper.upon_value,a3];refine hK _ _ ⟨setY Y d (.slice (some ⟨w.heap.size,0,none⟩) l.toNat c.toNat),?_⟩;have hg:X'.gn d=X.gn d:=S2 (I1 hag (.gen d) (by simp))
     have b5:=hs.new (d:=d) (k:=.row et k (List.replicate l.toNat (z.map λv=>mkZ own d v))) (cs:=[]) (m X' w Y) rfl λhI _=>by
      refine⟨(List.replicate l.toNat z).flatten,d5,λx hx=>by rw[eH hx,B7,a2],by rw[K7];omega,?_,?_,a7,λi u x hu hx=>?_⟩
      ·simp only[setY,if_pos,K7];exact a8 w
      ·rw[R1 (k:=k) (λx hx=>by rw[eH hx];exact a2),R1 (k:=k) (λx hx=>by rw[eH hx,B7,a2])];simp
      ·rw[lM]at hu hx;rw[B7]at hx;split at hu
       ·rename_i b7;rw[if_pos b7,H1,hu]at hx;injection hx with hx
        subst hx;exact mkZ_rep own d u
       ·cases hu
     have:=jP (X:=X) (X':=X') (k:=.row et k (List.replicate l.toNat (z.map λv=>mkZ own d v))) (cs:=[]) (v:=.osl d (X.gn d+1)) hg;simp only[Q1,W8]at this;show SatR B (app X' (L9 X d (.row et k (List.replicate l.toNat (z.map λv=>mkZ own d v)))++[(.tmp d,.av (.osl d (X.gn d+1)))])) _ _ _;rw[this,<- hg];exact pZ b5 rfl (U6 hd a3)
  ·exact h.elim
 ·exact h.elim
def aMakeMap_ok{t:TypeId}{r:Option Operand}(hop:o.op=.makeMap t r)(hd:J0 B.n o=true)(h:aMakeMap o X K t r):∃fx,K fx/\Eff P B o fx.rd X fx.wr:=by
 unfold aMakeMap at h;split at h
 ·rename_i d a2;refine⟨_,h,λX' hag a w ⟨Y,hs⟩ K' Q hK=>?_⟩;have hg:X'.gn d=X.gn d:=S2 (hag (.gen d) (by simp))
  have run:(execOp a.eval o).run P w=.ok (.value (.map (some w.heap.size))) (w.alloc (.map #[] 0)):=by
   simp[execOp,hop,Instr.makeMap]
  unfold Oper.wp;rw[run,Oper.upon_value,a2]
  have m:jK X' w (w.alloc (.map #[] 0)) Y none (.map (some w.heap.size)) none :=
   ⟨World.grownBy_alloc w _ none,(λb e=>by cases e),λb e=>.inr (by simp only[F6,D6]at e;omega)⟩
  refine hK _ _ ⟨setY Y d (.map (some w.heap.size)),?_⟩;have a3:=hs.new (d:=d) (k:=.map []) (cs:=[]) m rfl λhI _=>⟨w.heap.size,0,#[],by simp[setY],heap_alloc_new w _,rfl,eM.nil 0⟩;have:=jP (X:=X) (X':=X') (k:=.map []) (cs:=[]) (v:=.osl d (X.gn d+1)) hg;simp only[Q1,W8]at this;rw[this,<- hg];exact pZ a3 rfl (U6 hd a2)
 ·exact h.elim
def sS{w:World}{S:Nat->Prop}{Y:Ly}{E:Nat->Nat}{v:Value}{x:AV}{u:Value}(e:asVal x=some u)(h:RepA w S Y E v x):v=u:=by
 unfold asVal at e;split at e
 ·injection e with e
  subst e;have h:=h.im_inv;cases h;rfl
 ·cases e
def sW{t k e:TypeId}(h:gH P t=some (k,e)):P.underlying t=some (.map k e):=by
 unfold gH at h;split at h
 ·rename_i k' e' hu;simp only[D6,H5]at h;rw[hu,h.1,h.2]
 ·cases h
def vN{kt:TypeId}{D:TypeDesc}(h:keyD P kt=some D):P.underlying kt=some D/\((∃k,D=.int k)\/D=.string\/D=.bool):=by
 unfold keyD at h;split at h
 ·rename_i k hu;injection h with h;subst h;exact⟨hu,.inl ⟨k,rfl⟩⟩
 ·rename_i hu;injection h with h;subst h;exact⟨hu,.inr (.inl rfl)⟩
 ·rename_i hu;injection h with h;subst h;exact⟨hu,.inr (.inr rfl)⟩
 ·cases h
def uY{kt:TypeId}{D:TypeDesc}(h:keyD P kt=some D)(em:Bool)(v:Value)(w:World):(Instr.checkKey em 10000 kt v).run P w=.ok () w:=by
 obtain⟨hu,hD⟩:=vN h;unfold Instr.checkKey;rw[Sem.run_bind,run_underlying hu];simp only[Result.andThen_ok];rcases hD with⟨k,rfl⟩|rfl|rfl<;>rfl
def zP(D:TypeDesc)(k:Value):∀(es:List MapEntry) (i:Nat),(Instr.findNow D k es i).map (·.map (·.2))=findV D k (es.map λe=>(e.key,e.val))
 |[],i=>rfl
 |e::es,i=>by
  unfold Instr.findNow;rw[M2];unfold findV;simp only;cases Instr.sameNow D k e.key with
  |none=>rfl
  |some b=>cases b with
   |true=>rfl
   |false=>exact zP D k es (i+1)
def find_run{kt:TypeId}{D:TypeDesc}(h:keyD P kt=some D){k:Value}{es:List MapEntry}{r:Option (Nat×Value)}(hf:Instr.findNow D k es 0=some r)(w:World):(Instr.findKey kt k es).run P w=.ok r w:=by
 unfold Instr.findKey;rw[Sem.run_bind,run_underlying (vN h).1];simp only[Result.andThen_ok,hf,Sem.run_pure]
def aLookup_ok{t:TypeId}{x i:Operand}{ok:Bool}(hop:o.op=.lookup t x i ok)(hd:J0 B.n o=true)(h:aLookup P o X K t x i ok):∃fx,K fx/\Eff P B o fx.rd X fx.wr:=by
 unfold aLookup at h;split at h
 ·rename_i kt et b g kv a9 hx hi;have a5:=sW a9;split at h
  ·rename_i l D z b7 a6 hz;obtain⟨hg,r,hr,h⟩:=h.out;have h:=h.out
   have a4:∀X',(∀y∈opd x++opd i++[.gen b,.knd b],X' y=X y)->∀a w,Sat B X' a w->(execOp a.eval o).run P w=.ok (.value (if ok=true then .tuple #[r.getD z,.bool r.isSome] else r.getD z)) w:=λX' hag a w ⟨Y,hs⟩=>by
    obtain⟨ha,hg',b6,_⟩:=V2 hag;have h1:=E6 hs x;have h2:=E6 hs i;rw[E5 (G3 ha),hx]at h1;rw[E5 (I1 ha)]at h2;have b2:=sS hi h2;have ho:=hs.obs b;rw[b6.trans b7]at ho;obtain⟨q,a8,es,e1,e2,e3,b9⟩:=ho
    have b4:a.eval x=.map (some q):=by
     generalize a.eval x=v at h1;cases h1 with
     |osl _ _ _ _ _ hh=>rw[hh (hg'.trans hg),e1]
    have a2:=zP D kv es.toList 0;rw[e3,hr]at a2
    obtain⟨r0,a7,a3⟩:∃r0,Instr.findNow D kv es.toList 0=some r0/\r0.map (·.2)=r:=by
     cases hc:Instr.findNow D kv es.toList 0 with
     |none=>rw[hc]at a2;cases a2
     |some r0=>rw[hc]at a2;simp only[J4,D6]at a2;exact⟨r0,rfl,a2⟩
    have b5:∀w,(zeroValue et).run P w=.ok z w:=λw=>by
     unfold zeroV at hz;split at hz
     ·rename_i it b3;simp[zeroValue,typeInfo,b3,hz]
     ·cases hz
    have b8:=MapKept.run_getObj_map (P:=P) e2;simp only[execOp,hop,b4,b2,Instr.lookup,Sem.run_bind,run_underlying a5,Result.andThen_ok,b8,Sem.run_pure,uY a6,find_run a6 a7];cases r0 with
    |none =>
     simp only[oR]at a3;subst a3;cases ok<;>simp[b5]
    |some p =>
     simp only[J4]at a3;subst a3;cases ok<;>simp
   split at h
   ·have h:=h.out;refine⟨_,h,Eff.pure hd λX' hag a w Y hs=>⟨_,a4 X' hag a w ⟨Y,hs⟩,?_⟩⟩;simp only[if_true]
    exact .tup [r.getD z,.bool r.isSome] _ rfl λj u y hu hy=>by
     match j with
     |0=>simp at hu hy;rw[<- hu,<- hy];exact Q2 _
     |1=>simp at hu hy;rw[<- hu,<- hy];exact vB_rep _
     |j+2=>simp at hu
   ·refine⟨_,h,Eff.pure hd λX' hag a w Y hs=>⟨_,a4 X' hag a w ⟨Y,hs⟩,?_⟩⟩;simp only[uD,if_false];exact Q2 _
  ·exact h.elim
 ·exact h.elim
def setV_eq(D:TypeDesc)(hD:(∃k,D=.int k)\/D=.string\/D=.bool)(k v:Value):∀(es:List MapEntry) (i:Nat) (l:List (Value×Value)),setV D k v (es.map λe=>(e.key,e.val))=some l ->
  (Instr.findNow D k es i=some none/\l=(es.map λe=>(e.key,e.val))++[(k,v)])\/∃j e,Instr.findNow D k es i=some (some (i+j,e.val))/\es[j]?=some e/\Instr.sameBits 10000 e.key k=true/\l=(es.set j { e with key:=k,val:=v }).map λe=>(e.key,e.val)
 |[],i,l,h=>by
  simp only[rH,setV,D6]at h;exact .inl ⟨rfl,by rw[<- h];rfl⟩
 |e::es,i,l,h=>by
  rw[M2]at h;unfold setV at h;unfold Instr.findNow;simp only at h;cases hs:Instr.sameNow D k e.key with
  |none=>rw[hs]at h;cases h
  |some b =>
   rw[hs]at h;cases b with
   |true =>
    simp only[D6]at h;refine .inr ⟨0,e,rfl,rfl,?_,by rw[<- h];rfl⟩;unfold Instr.sameNow at hs;split at hs
    ·rename_i k1 a k2 b hk;split at hs
     ·rename_i he;simp only[D6]at hs;rw[hk];have hab:a=b:=by simpa using hs
      subst he hab;simp[Instr.sameBits]
     ·cases hs
    ·rename_i a b hk;simp only[D6]at hs;rw[hk,ba_eq hs];exact ba_rfl _
    ·rename_i a b hk;simp only[D6]at hs;have hab:a=b:=by simpa using hs
     rw[hk,hab];simp[Instr.sameBits]
    ·cases hs
   |false =>
    cases hr:setV D k v (es.map λe=>(e.key,e.val)) with
    |none=>simp only[hr]at h;cases h
    |some l' =>
     simp only[hr,J4,D6]at h;rcases setV_eq D hD k v es (i+1) l' hr with⟨h1,h2⟩|⟨j,e',h1,h2,h3,h4⟩
     ·exact .inl ⟨h1,by rw[<- h,h2];rfl⟩
     ·exact .inr ⟨j+1,e',by rw[h1,Y7,jC 1 j],by simpa using h2,h3,by rw[<- h,h4];rfl⟩
def aMapUpdate_ok{t:TypeId}{x i y:Operand}(hop:o.op=.mapUpdate t x i y)(hd:J0 B.n o=true)(h:vV P o X K t x i y):∃fx,K fx/\Eff P B o fx.rd X fx.wr:=by
 unfold vV at h;split at h
 ·rename_i kt et b g kv v c6 hx hi hy;have a6:=sW c6;split at h
  ·rename_i l D a9 a5;obtain⟨hg,l',b8,h⟩:=h.out;refine⟨_,h,λX' hag a w ⟨Y,hs⟩ K' Q hK=>?_⟩;obtain⟨ha,hg',a8,_⟩:=V2 hag;have h1:=E6 hs x;have h2:=E6 hs i;have h3:=E6 hs y;rw[E5 (G3 (G3 ha)),hx]at h1;rw[E5 (I1 (G3 ha))]at h2;rw[E5 (I1 ha)]at h3;have b2:=sS hi h2;have hv:=sS hy h3;have ho:=hs.obs b;rw[a8.trans a9]at ho;obtain⟨q,a3,es,e1,e2,e3,b5⟩:=ho
   have b3:a.eval x=.map (some q):=by
    generalize a.eval x=u at h1;cases h1 with
    |osl _ _ _ _ _ hh=>rw[hh (hg'.trans hg),e1]
   rw[<- e3]at b8;have b9:=MapKept.run_getObj_map (P:=P) e2;have a7:live X' b:=by unfold live;rw[a8.trans a9];exact λz=>by cases z
   have c7:F6 (Y b)=some q:=by rw[e1];rfl
   have c0:∀(a4:Array MapEntry) (a2:Nat),(a4.toList.map λe=>(e.key,e.val))=l'->eM a4 a2->(execOp a.eval o).run P w=.ok .skip (setBlock w q (.map a4 a2))->o.wp P a w K' Q:=λa4 a2 c9 b6 b4=>by
    unfold Oper.wp;rw[b4,Oper.upon_skip];refine hK _ _ ⟨Y,?_⟩
    have c8:=hs.turn (b:=b) (q:=q) (w':=setBlock w q (.map a4 a2)) (k':=.map l') a7 c7 ⟨rfl,rfl,rfl,by simp[setBlock],λi _ hi=>heap_setBlock_other e2 _ (λe=>hi (by rw[e]))⟩ (λc hc=>by unfold Owns;rw[a8.trans a9];exact hc) λhI =>
     ⟨q,a2,a4,e1,heap_setBlock_same e2 _,c9,b6⟩
    rw[O0];exact c8.put (eN hd) (Q2 _)
   rcases setV_eq D (vN a5).2 kv v es.toList 0 l' b8 with⟨f1,f2⟩|⟨j,e,f1,f2,f3,f4⟩
   ·refine c0 (es.push { key:=kv,val:=v,born:=a3 }) (a3+1) (by rw[f2];simp) (b5.push _ _) ?_;simp only[execOp,hop,b3,b2,hv,Instr.mapUpdate,Sem.run_bind,run_underlying a6,Result.andThen_ok,b9,Sem.run_pure,uY a5,find_run a5 f1,MapKept.run_setObj_map _ e2];rfl
   ·have hj:es[j]?=some e:=by rw[<- R4];exact f2
    have b7:j<es.size:=(iJ.1 hj).1;refine c0 (es.modify j λe=>{ e with key:=kv,val:=v }) a3 ?_ (b5.modify _ _ λ_=>rfl) ?_
    ·rw[f4];congr 1;apply aA;intro n;rw[R4,rL,oM];by_cases hn:j=n
     ·subst hn;rw[if_pos rfl,if_pos rfl,if_pos (by simpa using b7),hj];rfl
     ·rw[if_neg hn,if_neg hn,R4]
    ·rw[E8]at f1;simp only[execOp,hop,b3,b2,hv,Instr.mapUpdate,Sem.run_bind,run_underlying a6,Result.andThen_ok,b9,Sem.run_pure,uY a5,find_run a5 f1,MapKept.run_setObj_map _ e2,hj,Instr.keyThatStays,J4,E7,f3,if_true];rfl
  ·exact h.elim
 ·exact h.elim
def aDelete_ok{c:Call}{t t':TypeId}{x i:Operand}(hop:o.op=.call c)(hc:c.callee=.builtin .delete)(ha:c.args.toList=[x,i])(ht:c.argTypes.toList=[t,t'])(hd:J0 B.n o=true)(h:aDelete P o X K t x i):∃fx,K fx/\Eff P B o fx.rd X fx.wr:=False.elim h
end
end
section
section
variable {P:Program}{B:Base}{o:Oper}{X:St}{K:Fx->Prop}
def uZ{a:Act}{w:World}{Y:Ly}(hs:SatR B X a w Y){y:Operand}{n:Int}{k:IntKind}(hy:Sym.asInt (evA X y)=some (k,n)){m:Nat}{c:BoundsCode}(h0:0<=n)(hm:n<=m):(Instr.sliceBound (a.eval y) m c).run P w=.ok n.toNat w:=by
 have h3:0<=n/\n<=m:=⟨h0,hm⟩;simp only[U4 hy (E6 hs y),Instr.sliceBound,asIntOf,Sem.run_bind,Sem.run_pure,Result.andThen_ok,if_pos h3]
def rX{a:Act}{w:World}{Y:Ly}(hs:SatR B X a w Y){b k:Nat}{t:TypeId}{es:List (List IV)}(hk:X.kd b=.row t k es)(hn:0<es.length) :
  ∃(q cap:Nat) (cur:Array Value) (us:List Value),Y b=.slice (some ⟨q,0,none⟩) es.length cap/\w.heap[q]?=some (.cells cur t (0,0))/\es.length<=cap/\cap<=maxLen/\cur.size=cap*k/\cur.toList.take (es.length*k)=us/\0<k/\(∀x∈es,x.length=k)/\es.length<=17592186044416/\us.length=es.flatten.length /\
   (∀u∈us,u.oneCell'=true)/\∀(i:Nat) u x,us[i]?=some u->es.flatten[i]?=some x->RepI w (Imm B X Y w) u x:=by
 have ho:=hs.obs b;rw[hk]at ho;obtain⟨us,h1,h2,h3,h4,h5,h6,h7⟩:=ho;rcases h4.2 with⟨_,h0⟩|⟨q,cap,cur,e1,_,e3,e4,e5,e6,e7⟩
 ·omega
 ·exact⟨q,cap,cur,us,e1,e3,e4,e5,e6,e7,h1,h2,h3,h5,h6,h7⟩
def aSliceV_ok{t:TypeId}{x lo:Operand}{b g:Nat}(hop:o.op=.slice t x (some lo) none none)(hx:evA X x=.osl b g)(hd:J0 B.n o=true)(h:aSliceV P o X K t x b g lo):∃fx,K fx/\Eff P B o fx.rd X fx.wr:=by
 unfold aSliceV at h;split at h
 ·rename_i et kk l b4 k es b3 a9 b2;have hu:=Z8 b3;split at h
  ·rename_i k' a8;obtain⟨a3,h'⟩:=h.ok;clear h;have a3:=O5 a3;subst a3;obtain⟨⟨hg,h0,hl,hn⟩,h⟩:=h'.out;refine⟨_,h,Eff.pure hd λX' hag a w Y hs=>?_⟩;obtain⟨a6,hg',a7,_⟩:=V2 hag;have h1:=E6 hs x;rw[E5 (G3 a6),hx]at h1;have a5:Sym.asInt (evA X' lo)=some (kk,l):=by rw[E5 (I1 a6)];exact a9
   obtain⟨q,a4,cur,us,e1,e2,e3,_⟩:=rX hs (a7.trans b2) hn;have hb:=λc=>uZ (P:=P) (w:=w) hs a5 (m:=es.length) (c:=c) h0 (by omega);have hz:=bF a8 w;generalize hv:a.eval x=v at h1;cases h1 with
   |osl _ _ _ a2 hgg hh =>
    rw[hh (hg'.trans hg),e1]at hv;refine⟨.slice (if a4=l.toNat then some ⟨q,0,none⟩ else some ⟨q,l.toNat*k,none⟩) (es.length-l.toNat) (a4-l.toNat),?_,.osv _ b g l.toNat k (by rfl) hgg λ_=>⟨q,_,a4,e1,hl,rfl⟩⟩;simp only[execOp,hop,hv,Instr.sliceAt,Instr.slice,Sem.run_bind,Sem.run_pure,Result.andThen_ok,run_underlying hu,oR,J4,hz];unfold Instr.sliceBounds;simp[hb,addr_add,hz]
  ·exact h.elim
 ·exact h.elim
def aSlice3_ok{t:TypeId}{x:Operand}{lo hi:Option Operand}{mx:Operand}(hop:o.op=.slice t x lo hi (some mx))(hd:J0 B.n o=true)(h:aSlice3 P o X K t x lo hi mx):∃fx,K fx/\Eff P B o fx.rd X fx.wr:=False.elim h
def aLenV_ok{c:Call}{t:TypeId}{ts:List TypeId}{x:Operand}{b g k m:Nat}(hop:o.op=.call c)(hc:c.callee=.builtin .len)(ha:c.args.toList=[x])(ht:c.argTypes.toList=t::ts){e:TypeId}(he:R7 P t=some e)(hx:evA X x=.osv b g k m)(hd:J0 B.n o=true)(h:aLenV o X K x b g k):∃fx,K fx/\Eff P B o fx.rd X fx.wr:=by
 have a4:c.argTypes[0]?=some t:=by rw[<- R4,ht];rfl
 have a7:∀a:Act,(c.args.map a.eval)[0]?=some (a.eval x):=λa=>by rw[<- R4,fF,ha];rfl
 have hu:=Z8 he
 have run:∀(a:Act) w A n cp,a.eval x=.slice A n cp->(execOp a.eval o).run P w=.ok (.value (.int .i64 n)) w:=λa w A n cp hv=>by
  simp only[execOp,hop,resolve,hc,invoke,builtin,Builtin.len_,a4,a7,Sem.run_bind,Sem.run_pure,Result.andThen_ok,run_underlying hu,hv,goInt]
 unfold aLenV at h;split at h
 ·rename_i t' kk es a5;obtain⟨hg,h⟩:=h.out;have h:=h.out;refine⟨_,h,Eff.pure hd λX' hag a w Y hs=>?_⟩;obtain⟨a6,hg',a3,_⟩:=V2 hag;have h1:=E6 hs x;rw[E5 a6,hx]at h1;obtain⟨A,cp,hY⟩:=zI hs (a3.trans a5);generalize hv:a.eval x=v at h1;cases h1 with
  |osv _ _ _ _ _ a2 hgg hh =>
   obtain⟨q,n,c',e1,e2,e3⟩:=hh (hg'.trans hg);rw[hY]at e1;injection e1 with _ e1 _
   subst e1;rw[e3]at hv;exact⟨_,run a w _ _ _ hv,Q2 _⟩
 ·exact h.elim
def aIndexV_ok{t:TypeId}{x i:Operand}{b g k m:Nat}(hop:o.op=.indexAddr t x i)(hx:evA X x=.osv b g k m)(hd:J0 B.n o=true)(h:aIndexV P o X K t x i b g k m):∃fx,K fx/\Eff P B o fx.rd X fx.wr:=by
 unfold aIndexV at h;split at h
 ·rename_i kk n et t' k' es hi a5 a7;have hu:=Z8 a5;split at h
  ·rename_i m' hm;obtain⟨a3,h'⟩:=h.ok;clear h;have a3:=O5 a3;subst a3;obtain⟨⟨h0,hg,a9⟩,h⟩:=h'.out;have h:=h.out;refine⟨_,h,Eff.pure hd λX' hag a w Y hs=>?_⟩;obtain⟨a4,hg',a6,_⟩:=V2 hag;have h1:=E6 hs x;have h2:=E6 hs i;rw[E5 (G3 a4),hx]at h1;rw[E5 (I1 a4)]at h2;have hn:=U4 hi h2;obtain⟨q,a8,cur,us,e1,e2,e3,_⟩:=rX hs (a6.trans a7) (by omega);generalize hv:a.eval x=v at h1;cases h1 with
   |osv _ _ _ _ _ a2 hgg hh =>
    obtain⟨q',n',c',f1,f2,f3⟩:=hh (hg'.trans hg);have b2:=f1;rw[e1]at f1;injection f1 with f1 f4 f5
    injection f1 with f1
    injection f1 with f1
    subst f1 f4 f5;rw[f3,if_neg (by omega)]at hv;have hz:=bF hm w;have h3:0<=n/\n<(es.length-k:Nat):=⟨h0,by omega⟩;refine⟨.pointer (some ⟨q,(k+n.toNat)*m,none⟩),?_,.elt _ b g m (k+n.toNat) 0 rfl hgg λ_=>⟨q,0,_,a8,e1,by rw[V8,E8]⟩⟩;simp only[execOp,hop,hv,hn,Instr.indexAt,asIntOf,Sem.run_bind,Sem.run_pure,Result.andThen_ok,run_underlying hu,if_pos h3,hz,addr_add];rw[Nat.add_mul]
  ·exact h.elim
 ·exact h.elim
def aSliceT_ok{t:TypeId}{x hi:Operand}{b g:Nat}(hop:o.op=.slice t x none (some hi) none)(hx:evA X x=.osl b g)(hd:J0 B.n o=true)(h:aSliceT P o X K t x b g hi):∃fx,K fx/\Eff P B o fx.rd X fx.wr:=by
 unfold aSliceT at h;split at h
 ·rename_i et kk l a3 k es d c9 c6 b4 a5;have hu:=Z8 c9;split at h
  ·rename_i k' b9;obtain⟨b2,h'⟩:=h.ok;clear h;have b2:=O5 b2;subst b2;obtain⟨⟨hg,h0,hl,hn⟩,h⟩:=h'.out;have h:=h.out;refine⟨_,h,λX' hag a w ⟨Y,hs⟩ K' Q hK=>?_⟩;obtain⟨b8,hg',b3,d0⟩:=V2 hag;have h1:=E6 hs x;rw[E5 (G3 b8),hx]at h1;have b5:Sym.asInt (evA X' hi)=some (kk,l):=by rw[E5 (I1 b8)];exact c6
   obtain⟨q,cap,cur,us,e1,e2,e3,e4,e5,e6,e7,e8,e9,a2,a6,a7⟩:=rX hs (b3.trans b4) hn;have hb:=λc=>uZ (P:=P) (w:=w) hs b5 (m:=cap) (c:=c) h0 (by omega);have hz:=bF b9 w
   have hv:a.eval x=.slice (some ⟨q,0,none⟩) es.length cap:=by
    generalize a.eval x=v at h1;cases h1 with
    |osl _ _ _ a8 hgg hh=>rw[hh (hg'.trans hg),e1]
   have run:(execOp a.eval o).run P w=.ok (.value (.slice (some ⟨q,0,none⟩) l.toNat cap)) w:=by
    simp only[execOp,hop,hv,Instr.sliceAt,Instr.slice,Sem.run_bind,Sem.run_pure,Result.andThen_ok,run_underlying hu,oR,J4,hz];unfold Instr.sliceBounds;have:¬cap=0:=by omega
    simp[hb,addr_add,hz,this]
   unfold Oper.wp;rw[run,Oper.upon_value,a5];refine hK _ _ ⟨setY Y b (.slice (some ⟨q,0,none⟩) l.toNat cap),?_⟩;have a4:Owns X' Y b q:=.root (kX (b3.trans b4)) (by rw[e1];rfl);have m:jK X' w w Y (some b) (.slice (some ⟨q,0,none⟩) l.toNat cap) (some q):=⟨World.grownBy.refl _ _,λc hc=>by injection hc with hc;subst hc;exact⟨b,rfl,a4⟩,λc hc=>.inl (by injection hc with hc;rw[<- hc])⟩;have a9:(es.take l.toNat).length=l.toNat:=by rw[M3];omega
   have b7:(es.take l.toNat).flatten=es.flatten.take (l.toNat*k):=sK e8;have d1:=R1 e8;have b6:l.toNat*k<=es.length*k:=bC _ hl
   have c0:=hs.new (d:=b) (k:=.row a3 k (es.take l.toNat)) (cs:=[]) m rfl λhI _=>by
    refine⟨us.take (l.toNat*k),e7,λy hy=>e8 y (aD hy),by rw[a9];omega,?_,by rw[b7,M3,M3,a2],λu hu=>a6 u (aD hu),λi u y hu hy=>?_⟩
    ·rw[a9];refine⟨by rw[M3];omega,.inr ⟨q,cap,cur,by simp[setY],D8 _,e2,by omega,e4,e5,?_⟩⟩;rw[<- e6,yC,fD b6]
    ·rw[b7,aC]at hy;rw[aC]at hu;split at hu
     ·rename_i c7;rw[if_pos c7]at hy;exact hI _ _ (a7 i u y hu hy)
     ·cases hu
   have c8:app X' ((.knd b,.kd .dead)::(L9 X b (.row a3 k (es.take l.toNat))++[(.tmp d,.av (.osl b (X.gn b+1)))]))=app (N9 X' (some b) b (.row a3 k (es.take l.toNat)) []) [(.tmp d,.av (.osl b (X'.gn b+1)))]:=by
    rw[O0,L5];unfold N9 L9;rw[hg'];rfl
   show SatR B (app X' ((.knd b,.kd .dead)::(L9 X b (.row a3 k (es.take l.toNat))++[(.tmp d,.av (.osl b (X.gn b+1)))]))) _ _ _;rw[c8];exact nN c0 rfl (U6 hd a5)
  ·exact h.elim
 ·exact h.elim
def aSliceQ_ok{t:TypeId}{x lo:Operand}{b g:Nat}(hop:o.op=.slice t x (some lo) none none)(hx:evA X x=.osl b g)(hd:J0 B.n o=true)(h:aSliceQ P o X K t x b g lo):∃fx,K fx/\Eff P B o fx.rd X fx.wr:=by
 unfold aSliceQ at h;split at h
 ·rename_i et kk l a3 k es d c7 c6 b2 a4;have hu:=Z8 c7;split at h
  ·rename_i k' c9;obtain⟨a5,h'⟩:=h.ok;clear h;have a5:=O5 a5;subst a5;obtain⟨⟨hg,h0,hl⟩,h⟩:=h'.out;have h:=h.out;refine⟨_,h,λX' hag a w ⟨Y,hs⟩ K' Q hK=>?_⟩;obtain⟨b7,hg',a8,d8⟩:=V2 hag;have h1:=E6 hs x;rw[E5 (G3 b7),hx]at h1;have b6:Sym.asInt (evA X' lo)=some (kk,l):=by rw[E5 (I1 b7)];exact c6
   have ho:=hs.obs b;rw[a8.trans b2]at ho;have hQ:aH w (Imm B X' Y w) (Y b) a3 k es:=ho;obtain⟨us,k0,hk,d6,b4,b9,d0,hv⟩:=hQ
   have a6:a.eval x=Y b:=by
    generalize a.eval x=v at h1;cases h1 with
    |osl _ _ _ _ _ hh=>exact hh (hg'.trans hg)
   have hb:=λc=>uZ (P:=P) (w:=w) hs b6 (m:=es.length) (c:=c) h0 (by omega);have hz:=bF c9 w
   have key:∃v',(execOp a.eval o).run P w=.ok (.value v') w/\(∀q,F6 v'=some q->F6 (Y b)=some q)/\v'.oneCell'=true/\∀S',(∀u x,RepI w (Imm B X' Y w) u x->RepI w S' u x)->aH w S' v' a3 k (es.drop l.toNat):=by
    have b3:(es.drop l.toNat).flatten=es.flatten.drop (l.toNat*k):=uX hk;have d5:l.toNat*k<=es.length*k:=bC _ hl;have c8:=R1 hk
    have mk:∀v',((v'=.slice none 0 0/\es.drop l.toNat=[])\/∃(q off a2:Nat) (cur:Array Value),v'=.slice (some ⟨q,off,none⟩) (es.drop l.toNat).length a2/\w.heap[q]?=some (.cells cur a3 (0,0))/\(es.drop l.toNat).length<=a2/\a2<=maxLen/\off+a2*k<=cur.size/\∀(j:Nat) u,(us.drop (l.toNat*k))[j]?=some u->cur[off+j]?=some u)->∀S',(∀u x,RepI w (Imm B X' Y w) u x->RepI w S' u x)->aH w S' v' a3 k (es.drop l.toNat):=λv' d2 S' hI=>by
     refine⟨us.drop (l.toNat*k),k0,λx hx=>hk x (bX hx),by rw[V7];omega,by rw[b3,V7,V7,b4],λu hu=>b9 u (bX hu),λi u x hu hx=>?_,d2⟩;rw[b3,aB]at hx;rw[aB]at hu;exact hI _ _ (d0 _ u x hu hx)
    rcases hv with⟨e1,e2⟩|⟨q,off,a2,cur,e1,e2,e3,e4,e5,e6⟩
    ·have c0:l.toNat=0:=by rw[e2]at hl;simpa using hl
     refine⟨.slice none 0 0,?_,(λq (hq:none=some q)=>nomatch hq),rfl,mk _ (.inl ⟨rfl,by rw[e2];simp⟩)⟩;have d4:es.length=0:=by rw[e2];rfl
     rw[d4]at hb;simp only[execOp,hop,a6,e1,Instr.sliceAt,Instr.slice,Sem.run_bind,Sem.run_pure,Result.andThen_ok,run_underlying hu,oR,J4,hz];unfold Instr.sliceBounds;simp[hb,hz,c0]
    ·refine⟨.slice (if a2=l.toNat then some ⟨q,off,none⟩ else some ⟨q,off+l.toNat*k,none⟩) (es.length-l.toNat) (a2-l.toNat),?_,λp hp=>?_,by rfl,mk _ (.inr ?_)⟩
     ·simp only[execOp,hop,a6,e1,Instr.sliceAt,Instr.slice,Sem.run_bind,Sem.run_pure,Result.andThen_ok,run_underlying hu,oR,J4,hz];unfold Instr.sliceBounds;simp[hb,addr_add,hz]
     ·rw[e1];split at hp<;>exact hp
     ·by_cases hc:a2=l.toNat
      ·rw[if_pos hc];refine⟨q,off,a2-l.toNat,cur,by rw[V7],e2,by rw[V7];omega,by omega,by rw[hc,T7,dG];omega,λj u hu=>?_⟩
       have:(us.drop (l.toNat*k)).length=0:=by
        have:es.length=l.toNat:=by omega
        rw[V7,b4,c8,this];omega
       rw[V0 this]at hu;cases hu
      ·rw[if_neg hc];have d7:l.toNat*k+(a2-l.toNat)*k=a2*k:=by rw[<- Nat.add_mul];congr 1;omega
       refine⟨q,off+l.toNat*k,a2-l.toNat,cur,by rw[V7],e2,by rw[V7];omega,by omega,by omega,λj u hu=>?_⟩;rw[aB]at hu;rw[Y7];exact e6 _ u hu
   obtain⟨v',a7,b5,a9,d3⟩:=key;unfold Oper.wp;rw[a7,Oper.upon_value,a4];refine hK _ _ ⟨setY Y b v',?_⟩;have b8:=hs.qued (w':=w) (used:=some b) (row:=F6 (Y b)) (d:=b) (v':=v') (e:=a3) (k:=k) (es:=es.drop l.toNat) (λq hq=>⟨b,rfl,.root (live_que (a8.trans b2)) hq⟩) (World.grownBy.refl _ _) (λq hq=>.inl (b5 q hq)) d3
   have d1:app X' ((.knd b,.kd .dead)::(L9 X b (.que a3 k (es.drop l.toNat))++[(.tmp d,.av (.osl b (X.gn b+1)))]))=app (N9 X' (some b) b (.que a3 k (es.drop l.toNat)) []) [(.tmp d,.av (.osl b (X'.gn b+1)))]:=by
    rw[O0,L5];unfold N9 L9;rw[hg'];rfl
   show SatR B (app X' ((.knd b,.kd .dead)::(L9 X b (.que a3 k (es.drop l.toNat))++[(.tmp d,.av (.osl b (X.gn b+1)))]))) _ _ _;rw[d1];exact nN b8 a9 (U6 hd a4)
  ·exact h.elim
 ·exact h.elim
def aClear_ok{c:Call}{t:TypeId}{ts:List TypeId}{x:Operand}(hop:o.op=.call c)(hc:c.callee=.builtin .clear)(ha:c.args.toList=[x])(ht:c.argTypes.toList=t::ts)(hd:J0 B.n o=true)(h:aClear P o X K t x):∃fx,K fx/\Eff P B o fx.rd X fx.wr:=by
 have b9:c.argTypes[0]?=some t:=by rw[<- R4,ht];rfl
 have c9:∀a:Act,(c.args.map a.eval)[0]?=some (a.eval x):=λa=>by rw[<- R4,fF,ha];rfl
 unfold aClear at h;split at h
 ·rename_i et b g k m d5 hx;have hu:=Z8 d5;split at h
  ·rename_i b3 k' es m' z d7 d9 hz;obtain⟨b4,h'⟩:=h.ok;clear h;simp only[O2]at b4;obtain⟨⟨⟨⟨c1,c2⟩,c3⟩,c4⟩,c5⟩:=b4;have c1:=O5 c1;have c2:=O5 c2;have c4:=O5 c4;subst c1 c2;have c3:=aK c3;obtain⟨⟨hg,f7⟩,h⟩:=h'.out;have h:=h.out;refine⟨_,h,λX' hag a w ⟨Y,hs⟩ K' Q hK=>?_⟩;obtain⟨d8,hg',d6,_⟩:=V2 hag;have h1:=E6 hs x;rw[E5 d8,hx]at h1;have a4:=d6.trans d7;by_cases hn:k=es.length
   ·-- nothing to clear
    have e0:es.take k++List.replicate (es.length-k) (z.map λv=>nz1 (.val v))=es:=by rw[hn];simp
    obtain⟨A,cp,hY⟩:=zI hs a4
    have run:(execOp a.eval o).run P w=.ok (.value (.tuple #[])) w:=by
     generalize hv:a.eval x=v at h1;cases h1 with
     |osv _ _ _ _ _ a6 hgg hh =>
      obtain⟨q,n,c',f1,f2,f3⟩:=hh (hg'.trans hg);rw[hY]at f1;injection f1 with _ f1 _
      subst f1;have:es.length-k=0:=by omega
      rw[f3,this]at hv;generalize (if c'=k then some (⟨q,0,none⟩:Addr) else some ⟨q,k*k',none⟩)=AA at hv;simp only[execOp,hop,resolve,hc,invoke,builtin,Builtin.clear_,b9,c9,Sem.run_bind,Sem.run_pure,Result.andThen_ok,run_underlying hu,hv];cases AA<;>simp
    unfold Oper.wp;rw[run,Oper.upon_value];refine hK _ _ ⟨Y,?_⟩;rw[e0]
    have b6:SatR B (upd X' (.knd b) (.kd (.row b3 k' es))) a w Y:=(hs.step (λ_=>False) (λt=>bE X' b t _) (λo _=>⟨by
      rw[U1]
      by_cases e:o=b
      ·rw[if_pos e,e,a4]
      ·rw[if_neg e],W2 X' b o _,λi=>cC X' b o i _,rfl,rfl,rfl⟩) (λ_ h=>h.elim) (λo=>by rw[cD];exact hs.igs o) (Belo.refl _ _ _) (λ_ _ h=>h.elim) (λ_ _ _ h=>h.elim) (λ_ _ _ h=>h.elim)).1
    rw[O0];exact b6.put (λt e=>eN hd t e) (.im _ _ (.any _))
   ·obtain⟨q,d0,cur,us,e1,e2,e3,e4,e5,e6,e7,e8,e9,a2,a7,a8⟩:=rX hs a4 (by omega)
    obtain⟨zv,d4,c0⟩:∃zv:Value,(∀w,(zeroValue et).run P w=.ok zv w)/\zv.cells.toList=z:=by
     unfold zeroOf at hz;split at hz
     ·rename_i i hi;cases hz0:i.zero with
      |none=>rw[hz0]at hz;cases hz
      |some zz =>
       rw[hz0]at hz;simp only[J4,D6]at hz;exact⟨zz,λw=>by simp[zeroValue,typeInfo,hi,hz0],hz⟩
     ·cases hz
    have f6:zv.cells.size=k':=by rw[<- c4,<- c0];simp
    have b8:(Builtin.zeroCells zv.cells (es.length-k)).toList=(List.replicate (es.length-k) z).flatten:=by
     have:=made_take zv.cells (es.length-k) (es.length-k) (F9 _) (by omega);rw[fG (by simp[madeCells])]at this;rw[<- c0];exact this
    have a3:((List.replicate (es.length-k) z).flatten).length=(es.length-k)*k':=by
     rw[R1 (k:=k') (λx hx=>by rw[eH hx];exact c4),K7]
    have b2:∀u∈(List.replicate (es.length-k) z).flatten,u.oneCell'=true:=λu hu=>by
     obtain⟨y,hy,hu⟩:=rP.1 hu;rw[eH hy]at hu;exact R3.1 c5 u hu
    have b7:k*k'+(es.length-k)*k'=es.length*k':=by rw[<- Nat.add_mul];congr 1;omega
    have d3:es.length*k'<=d0*k':=bC _ e3;have a5:=run_storeCells_at (P:=P) q (k*k') b3 ((List.replicate (es.length-k) z).flatten) 0 cur w e2 (by omega) b2;simp only[V8]at a5
    have run:(execOp a.eval o).run P w=.ok (.value (.tuple #[])) (w.setRow q (splice cur.toList (k*k') ((List.replicate (es.length-k) z).flatten)).toArray):=by
     generalize hv:a.eval x=v at h1;cases h1 with
     |osv _ _ _ _ _ a6 hgg hh =>
      obtain⟨q',n',c',f1,f2,f3⟩:=hh (hg'.trans hg);rw[e1]at f1;injection f1 with f1 f4 f5
      injection f1 with f1
      injection f1 with f1
      subst f1 f4 f5;obtain⟨p,hp⟩:∃p,es.length-k=p+1:=⟨es.length-k-1,by omega⟩;rw[f3,if_neg (by omega)]at hv;rw[hp]at hv a5 b8 ⊢;simp only[execOp,hop,resolve,hc,invoke,builtin,Builtin.clear_,b9,c9,Sem.run_bind,Sem.run_pure,Result.andThen_ok,run_underlying hu,hv,d4,b8,a5];rfl
    unfold Oper.wp;rw[run,Oper.upon_value];refine hK _ _ ⟨Y,?_⟩;have c6:us.length=es.length*k':=by rw[a2,R1 e8]
    have c8:(es.take k).length=k:=by rw[M3];omega
    have b5:(es.take k++List.replicate (es.length-k) (z.map λv=>nz1 (.val v))).flatten=es.flatten.take (k*k')++(List.replicate (es.length-k) (z.map λv=>nz1 (.val v))).flatten:=by
     rw[kI,sK e8]
    have d2:((List.replicate (es.length-k) (z.map λv=>nz1 (.val v))).flatten).length=(es.length-k)*k':=by
     rw[R1 (k:=k') (λx hx=>by rw[eH hx];simpa using c4),K7]
    have b6:=hs.turn (w':=w.setRow q (splice cur.toList (k*k') ((List.replicate (es.length-k) z).flatten)).toArray) (k':=.row b3 k' (es.take k++List.replicate (es.length-k) (z.map λv=>nz1 (.val v)))) (kX a4) (q:=q) (by rw[e1];rfl)
     ⟨rfl,rfl,rfl,by simp,λk _ hk=>setRow_other w q k _ (λe=>hk (by rw[e]))⟩ (λc hc=>by unfold Owns;rw[a4];exact hc) λhI=>by
      refine⟨us.take (k*k')++(List.replicate (es.length-k) z).flatten,e7,λy hy=>?_,by rw[H4,c8,K7];omega,?_,?_,λu hu=>?_,λn u y hu hy=>?_⟩
      ·rcases I2.1 hy with hy|hy
       ·exact e8 y (aD hy)
       ·rw[eH hy];simpa using c4
      ·have d1:(es.take k++List.replicate (es.length-k) (z.map λv=>nz1 (.val v))).length=es.length:=by rw[H4,c8,K7];omega
       rw[d1];refine⟨by rw[H4,M3,a3,c6];omega,.inr ⟨q,d0,_,e1,D8 _,setRow_heap w q cur _ b3 _ e2,e3,e4,?_,?_⟩⟩
       ·rw[lS,fA _ _ _ (by rw[a3];simp;omega)];simpa using e5
       ·rw[uF,tC _ _ _ _ (by rw[a3];omega) (by simp;omega),e6];unfold splice;rw[a3,b7,rM (by omega),W8]
      ·rw[b5,H4,H4,M3,M3,a3,d2,a2]
      ·rcases I2.1 hu with hu|hu
       ·exact a7 u (aD hu)
       ·exact b2 u hu
      ·rw[b5,Q0,M3,<- a2,fD (by omega)]at hy;rw[Q0,M3,fD (by omega)]at hu;split at hu
       ·rename_i a9;rw[if_pos a9,aC,if_pos a9]at hy;rw[aC,if_pos a9]at hu;exact hI _ _ (a8 n u y hu hy)
       ·rename_i a9;rw[if_neg a9,lM]at hy;rw[lM]at hu;split at hu
        ·rename_i c7;rw[B7,if_pos c7,H1,hu]at hy;simp only[J4,D6]at hy;rw[<- hy];exact iP (.val _)
        ·cases hu
    rw[O0];exact b6.put (λt e=>eN hd t e) (.im _ _ (.any _))
  ·exact h.elim
 ·exact h.elim
def aCopy_ok{c:Call}{t t':TypeId}{x y:Operand}(hop:o.op=.call c)(hc:c.callee=.builtin .copy)(ha:c.args.toList=[x,y])(ht:c.argTypes.toList=[t,t'])(hd:J0 B.n o=true)(h:aCopy P o X K t x y):∃fx,K fx/\Eff P B o fx.rd X fx.wr:=False.elim h
end
end
section
variable {t:TypeId}{w:World}{a:Act}{e:TypeId}{v:Value}{c:Call}
section
variable {P:Program}{B:Base}{o:Oper}{X:St}{K:Fx->Prop}
def sR{inn:List Value}(h:(fpv v inn).Nodup){i q:Nat}{u:Value}(hu:inn[i]?=some u)(hq:F6 u=some q):F6 v≠some q/\∀j u',j≠i->inn[j]?=some u'->F6 u'≠some q:=by
 unfold fpv List.Nodup at h;rw[EF]at h;rw[bW]at h;obtain⟨h1,h2⟩:=h;obtain⟨hi,rfl⟩:=E0.1 hu;refine⟨λe=>h1 _ (M8 hi) q e q hq rfl,λj u' hj a3 e=>?_⟩;obtain⟨a2,rfl⟩:=E0.1 a3;have h3:=dL.1 h2;rcases J3 j i with a4|a5
 ·exact h3 j i a2 hi a4 q e q hq rfl
 ·exact h3 i j hi a2 (by omega) q hq q e rfl
def gT{Y:Ly}(hs:SatR B X a w Y){b k:Nat}{e e':TypeId}{gs:List (List IV)}(hk:X.kd b=.grid e e' k gs none) :
  ∃us:List Value,(fpv (Y b) (Y.inn b)).Nodup/\(Y.inn b).length=gs.length/\gs.length<=17592186044416/\w.ownsRow 0 e 1 (Y b) gs.length us/\(∀u∈us,u.oneCell'=true)/\us.length=gs.length /\
   ∀(i:Nat) u,(Y.inn b)[i]?=some u->us[i]?=some u/\∃es,gs[i]?=some [.sl es]/\T9 w (Imm B X Y w) u e' k es:=by
 have ho:=hs.obs b;rw[hk]at ho;obtain⟨h0,h1,us,h2,h3,h4,h5⟩:=ho;refine⟨us,h0,h1,h2,h3,h4,by rw[h3.1,fH],λi u hu=>?_⟩;rcases h5 i u hu with⟨h6,_⟩|h6
 ·cases h6
 ·exact h6
def zY{Y:Ly}(hs:SatR B X a w Y){b k:Nat}{e e':TypeId}{gs:List (List IV)}{hole:Option Nat}(hk:X.kd b=.grid e e' k gs hole) :
  ∃us:List Value,(fpv (Y b) (Y.inn b)).Nodup/\(Y.inn b).length=gs.length/\gs.length<=17592186044416/\w.ownsRow 0 e 1 (Y b) gs.length us/\(∀u∈us,u.oneCell'=true)/\us.length=gs.length /\
   ∀(i:Nat) u,(Y.inn b)[i]?=some u->(hole=some i/\u=undef)\/(us[i]?=some u/\∃es,gs[i]?=some [.sl es]/\T9 w (Imm B X Y w) u e' k es):=by
 have ho:=hs.obs b;rw[hk]at ho;obtain⟨h0,h1,us,h2,h3,h4,h5⟩:=ho;exact⟨us,h0,h1,h2,h3,h4,by rw[h3.1,fH],h5⟩
def inn_at{Y:Ly}{b n i:Nat}(h:(Y.inn b).length=n)(hi:i<n):∃u,(Y.inn b)[i]?=some u:=⟨_,K8 (by omega)⟩
def T9.form{S:Nat->Prop}{k:Nat}{es:List (List IV)}(h:T9 w S v e k es)(hn:0<es.length) :
  ∃(q cap:Nat) (cur:Array Value) (us:List Value),v=.slice (some ⟨q,0,none⟩) es.length cap/\w.heap[q]?=some (.cells cur e (0,0))/\es.length<=cap/\cap<=maxLen/\cur.size=cap*k/\cur.toList.take (es.length*k)=us/\0<k/\(∀x∈es,x.length=k)/\es.length<=17592186044416/\us.length=es.flatten.length /\
   (∀u∈us,u.oneCell'=true)/\(∀(i:Nat) u x,us[i]?=some u->es.flatten[i]?=some x->RepI w S u x)/\w.ownsRow 0 e k v es.length us:=by
 obtain⟨us,h1,h2,h3,h4,h5,h6,h7⟩:=h;rcases h4.2 with⟨_,h0⟩|⟨q,cap,cur,e1,_,e3,e4,e5,e6,e7⟩
 ·omega
 ·exact⟨q,cap,cur,us,e1,e3,e4,e5,e6,e7,h1,h2,h3,h5,h6,h7,h4⟩
def sE{k n q cap:Nat}{us:List Value}(h:w.ownsRow 0 e k v n us)(hv:v=.slice (some ⟨q,0,none⟩) n cap){p:Nat}{u:Value}(hu:us[p]?=some u):w.cell? ⟨q,p,none⟩=some u:=by
 have:=h.cells (g:=q) (by rw[hv];rfl) p u hu
 rwa [addr_add,E8]at this
def aIndexG_ok{x i:Operand}{b g:Nat}(hop:o.op=.indexAddr t x i)(hx:evA X x=.osl b g)(hd:J0 B.n o=true)(h:aIndexG P o X K t x i b g):∃fx,K fx/\Eff P B o fx.rd X fx.wr:=by
 unfold aIndexG at h;split at h
 ·rename_i kk n et e e' k' gs hole hi a9 a8;have hu:=Z8 a9;split at h
  ·rename_i m hm;obtain⟨a4,h'⟩:=h.ok;clear h;have a4:=O5 a4;subst a4;obtain⟨⟨h0,hg,b3⟩,h⟩:=h'.out;refine⟨_,h,Eff.pure hd λX' hag a w Y hs=>?_⟩;obtain⟨a6,hg',a7,_⟩:=V2 hag;have h1:=E6 hs x;have h2:=E6 hs i;rw[E5 (G3 a6),hx]at h1;rw[E5 (I1 a6)]at h2;have hn:=U4 hi h2;obtain⟨us,_,_,_,a5,_⟩:=zY hs (a7.trans a8);obtain⟨q,b2,a3⟩:=World.ownsRow.form a5 (by omega);generalize hv:a.eval x=v at h1;cases h1 with
   |osl _ _ _ a2 hgg hh =>
    rw[hh (hg'.trans hg),a3.1]at hv;have hz:=bF hm w;have h3:0<=n/\n<gs.length:=⟨h0,by omega⟩;refine⟨.pointer (some ⟨q,n.toNat*1,none⟩),?_,.elt _ b g 1 n.toNat 0 rfl hgg λ_=>⟨q,0,_,b2,a3.1,by rw[V8,E8]⟩⟩;simp only[execOp,hop,hv,hn,Instr.indexAt,asIntOf,Sem.run_bind,Sem.run_pure,Result.andThen_ok,run_underlying hu,if_pos h3,hz,addr_add,E8]
  ·exact h.elim
 ·exact h.elim
def rV{X':St}{l:List Loc}{b:Nat}(h:∀x∈l++[.ign b,.knd b],X' x=X x):(∀x∈l,X' x=X x)/\X'.ig b=X.ig b/\X'.kd b=X.kd b :=
 ⟨G3 h,fN (I1 h _ (by simp)),kS (I1 h _ (by simp))⟩
def aIndexS_ok{x i:Operand}{b g j:Nat}(hop:o.op=.indexAddr t x i)(hx:evA X x=.sub b g j)(hd:J0 B.n o=true)(h:aIndexS P o X K t x i b g j):∃fx,K fx/\Eff P B o fx.rd X fx.wr:=by
 unfold aIndexS at h;split at h
 ·rename_i kk n et e e' k gs hi a9 b4;have hu:=Z8 a9;split at h
  ·rename_i m hm;obtain⟨a5,h'⟩:=h.ok;clear h;have a5:=O5 a5;subst a5;obtain⟨es,⟨h0,hg,a8,b8⟩,h⟩:=h';refine⟨_,h,Eff.pure hd λX' hag a w Y hs=>?_⟩;obtain⟨a7,hg',b3⟩:=rV hag;have h1:=E6 hs x;have h2:=E6 hs i;rw[E5 (G3 a7),hx]at h1;rw[E5 (I1 a7)]at h2;have hn:=U4 hi h2;obtain⟨us,_,_,_,_,_,_,b2⟩:=gT hs (b3.trans b4);generalize hv:a.eval x=v at h1;cases h1 with
   |sub _ _ _ _ a2 hgg hh =>
    have b5:Y.ig b=g:=by rw[hs.igs,hg',hg]
    have a4:=hh b5;obtain⟨_,b7,a3,a6⟩:=b2 j v a4;rw[a8]at a3;injection a3 with a3
    injection a3 with a3
    injection a3 with a3
    subst a3;obtain⟨q,b6,cur,b9,e1,_⟩:=a6.form (by omega);have hz:=bF hm w;have h3:0<=n/\n<es.length:=⟨h0,by omega⟩;refine⟨.pointer (some ⟨q,n.toNat*m,none⟩),?_,.elt2 _ b g j m n.toNat 0 rfl hgg λ_=>⟨q,_,b6,by rw[a4,e1],by rw[V8]⟩⟩;rw[e1]at hv;simp only[execOp,hop,hv,hn,Instr.indexAt,asIntOf,Sem.run_bind,Sem.run_pure,Result.andThen_ok,run_underlying hu,if_pos h3,hz,addr_add,E8]
  ·exact h.elim
 ·exact h.elim
def aLoadG_ok{p:Operand}{b g k i j:Nat}(hop:o.op=.load t p)(hp:evA X p=.elt b g k i j)(hd:J0 B.n o=true)(h:aLoadG P o X K t p b g k i j):∃fx,K fx/\Eff P B o fx.rd X fx.wr:=by
 have run:∀(a:Act) w v,(Instr.loadAt t (a.eval p)).run P w=.ok v w->(execOp a.eval o).run P w=.ok (.value v) w:=λa w v hv=>by simp[execOp,hop,hv]
 unfold aLoadG at h;split at h
 ·rename_i e e' k' gs a6 b8;obtain⟨a3,h'⟩:=h.ok;clear h;rw[O2]at a3;have b4:=O5 a3.1;have b7:=O5 a3.2;subst b4 b7;obtain⟨⟨hg,c0⟩,h⟩:=h'.out;refine⟨_,h,Eff.pure hd λX' hag a w Y hs=>?_⟩;have a7:∀x∈opd p++(.gen b::.knd b::[.ign b]),X' x=X x:=λx hx=>hag x (by simpa using hx);obtain⟨c6,hg',b6,b3⟩:=V2 a7;have b9:X'.ig b=X.ig b:=fN (b3 (.ign b) (by simp));have h1:=E6 hs p;rw[E5 c6,hp]at h1;obtain⟨us,_,b2,_,a5,a8,_,b5⟩:=gT hs (b6.trans b8);obtain⟨u,hu⟩:=inn_at b2 c0;obtain⟨a9,_⟩:=b5 i u hu;generalize hv:a.eval p=v at h1;cases h1 with
  |elt _ _ _ _ _ _ a2 hgg hh =>
   obtain⟨q,z,n,c,e1,e2⟩:=hh (hg'.trans hg);obtain⟨q',c7,a4⟩:=World.ownsRow.form a5 (by omega);rw[a4.1]at e1;injection e1 with e1 _ _
   injection e1 with e1
   injection e1 with e1 e3
   subst e1 e3;rw[e2,fH,V8,E8]at hv;refine⟨u,run a w u (by rw[hv];exact mO a6 (sE a5 a4.1 a9)),.sub _ b _ i (a8 u (G6 a9)) ?_ λ_=>hu⟩;rw[hs.igs,b9];exact F9 _
 ·exact h.elim
def aLoadS_ok{p:Operand}{b g i k j c:Nat}(hop:o.op=.load t p)(hp:evA X p=.elt2 b g i k j c)(hd:J0 B.n o=true)(h:aLoadS P o X K t p b g i k j c):∃fx,K fx/\Eff P B o fx.rd X fx.wr:=by
 have run:∀(a:Act) w v,(Instr.loadAt t (a.eval p)).run P w=.ok v w->(execOp a.eval o).run P w=.ok (.value v) w:=λa w v hv=>by simp[execOp,hop,hv]
 unfold aLoadS at h;split at h
 ·rename_i e e' k' gs a9 b3;obtain⟨a5,h'⟩:=h.ok;clear h;have c6:=O5 a5;subst c6;obtain⟨es,el,x,⟨hg,b8,he,hx⟩,h⟩:=h';refine⟨_,h,Eff.pure hd λX' hag a w Y hs=>?_⟩;obtain⟨c0,hg',b2⟩:=rV hag;have h1:=E6 hs p;rw[E5 c0,hp]at h1;obtain⟨us,_,_,_,_,_,_,c8⟩:=gT hs (b2.trans b3);generalize hv:a.eval p=v at h1;cases h1 with
  |elt2 _ _ _ _ _ _ _ a2 hgg hh =>
   have b5:Y.ig b=g:=by rw[hs.igs,hg',hg]
   obtain⟨q,n,cp,a8,e2⟩:=hh b5;obtain⟨_,d1,a3,a7⟩:=c8 i _ a8;rw[b8]at a3;injection a3 with a3
   injection a3 with a3
   injection a3 with a3
   subst a3;have d3:=(E0.1 he).1;obtain⟨q',d2,cur,b7,e1,_,_,_,_,_,c9,a6,_,b6,d0,b9,a4⟩:=a7.form (by omega);have b4:=e1;injection e1 with e1 _ _
   injection e1 with e1
   injection e1 with e1
   subst e1;have c7:c<k':=by rw[<- a6 el (G6 he)];exact(E0.1 hx).1
   have hf:=flat_get a6 he c7;rw[hx]at hf;obtain⟨u,hu⟩:∃u,b7[j*k'+c]?=some u:=⟨_,K8 (by rw[b6];exact(E0.1 hf).1)⟩;exact⟨u,run a w u (by rw[hv,e2];exact mO a9 (sE a4 b4 hu)),.im _ _ (b9 _ u x hu hf)⟩
 ·exact h.elim
def aLenG_ok{ts:List TypeId}{x:Operand}{b g:Nat}(hop:o.op=.call c)(hc:c.callee=.builtin .len)(ha:c.args.toList=[x])(ht:c.argTypes.toList=t::ts)(he:R7 P t=some e)(hx:evA X x=.osl b g)(hd:J0 B.n o=true)(h:aLenG o X K x b g):∃fx,K fx/\Eff P B o fx.rd X fx.wr:=by
 have a5:c.argTypes[0]?=some t:=by rw[<- R4,ht];rfl
 have a8:∀a:Act,(c.args.map a.eval)[0]?=some (a.eval x):=λa=>by rw[<- R4,fF,ha];rfl
 have hu:=Z8 he
 have run:∀(a:Act) w A n cp,a.eval x=.slice A n cp->(execOp a.eval o).run P w=.ok (.value (.int .i64 n)) w:=λa w A n cp hv=>by
  simp only[execOp,hop,resolve,hc,invoke,builtin,Builtin.len_,a5,a8,Sem.run_bind,Sem.run_pure,Result.andThen_ok,run_underlying hu,hv,goInt]
 unfold aLenG at h;split at h
 ·rename_i e1 e2 k gs a7;obtain⟨hg,h⟩:=h.out;have h:=h.out;refine⟨_,h,Eff.pure hd λX' hag a w Y hs=>?_⟩;obtain⟨a9,hg',a4,_⟩:=V2 hag;have h1:=E6 hs x;rw[E5 a9,hx]at h1;obtain⟨us,_,_,_,a3,_⟩:=gT hs (a4.trans a7)
  obtain⟨A,cp,hY⟩:∃A c,Y b=.slice A gs.length c:=by
   rcases a3.2 with⟨e,h0⟩|⟨g,a6,cur,e,_⟩
   ·exact⟨none,0,by rw[e,h0]⟩
   ·exact⟨_,a6,e⟩
  generalize hv:a.eval x=v at h1;cases h1 with
  |osl _ _ _ a2 hgg hh =>
   rw[hh (hg'.trans hg),hY]at hv;exact⟨_,run a w _ _ _ hv,Q2 _⟩
 ·exact h.elim
def aLenS_ok{ts:List TypeId}{x:Operand}{b g i:Nat}(hop:o.op=.call c)(hc:c.callee=.builtin .len)(ha:c.args.toList=[x])(ht:c.argTypes.toList=t::ts)(he:R7 P t=some e)(hx:evA X x=.sub b g i)(hd:J0 B.n o=true)(h:aLenS o X K x b g i):∃fx,K fx/\Eff P B o fx.rd X fx.wr:=by
 have a7:c.argTypes[0]?=some t:=by rw[<- R4,ht];rfl
 have b4:∀a:Act,(c.args.map a.eval)[0]?=some (a.eval x):=λa=>by rw[<- R4,fF,ha];rfl
 have hu:=Z8 he
 have run:∀(a:Act) w A n cp,a.eval x=.slice A n cp->(execOp a.eval o).run P w=.ok (.value (.int .i64 n)) w:=λa w A n cp hv=>by
  simp only[execOp,hop,resolve,hc,invoke,builtin,Builtin.len_,a7,b4,Sem.run_bind,Sem.run_pure,Result.andThen_ok,run_underlying hu,hv,goInt]
 unfold aLenS at h;split at h
 ·rename_i e1 e2 k gs a8;obtain⟨es,⟨hg,b2⟩,h⟩:=h;have h:=h.out;refine⟨_,h,Eff.pure hd λX' hag a w Y hs=>?_⟩;obtain⟨b6,hg',a6⟩:=rV hag;have h1:=E6 hs x;rw[E5 b6,hx]at h1;obtain⟨us,_,_,_,_,_,_,b5⟩:=gT hs (a6.trans a8);generalize hv:a.eval x=v at h1;cases h1 with
  |sub _ _ _ _ a2 hgg hh =>
   have a9:Y.ig b=g:=by rw[hs.igs,hg',hg]
   obtain⟨_,b7,a3,a5⟩:=b5 i v (hh a9);rw[b2]at a3;injection a3 with a3
   injection a3 with a3
   injection a3 with a3
   subst a3;obtain⟨b8,_,_,_,a4,_⟩:=a5
   obtain⟨A,cp,hY⟩:∃A c,v=.slice A es.length c:=by
    rcases a4.2 with⟨e,h0⟩|⟨g,b3,cur,e,_⟩
    ·exact⟨none,0,by rw[e,h0]⟩
    ·exact⟨_,b3,e⟩
   rw[hY]at hv;exact⟨_,run a w _ _ _ hv,Q2 _⟩
 ·exact h.elim
def SatR.turnA{w w':World}{Y:Ly}(h:SatR B X a w Y){b q:Nat}{k':Kd}(hq:Owns X Y b q)(hg:w.grownBy w' (some q))(hk':∀c,c∈fpk (Y b) (Y.inn b) k'->Owns X Y b c)
  (hob:(∀v x,RepI w (Imm B X Y w) v x->RepI w' (Imm B (upd X (.knd b) (.kd k')) Y w') v x)->aU B (upd X (.knd b) (.kd k')) Y w' b k'):SatR B (upd X (.knd b) (.kd k')) a w' Y:=by
 refine(h.step (λo=>o=b) (λt=>bE X b t _) (λo hd=>⟨by rw[U1,if_neg hd],W2 X b o _,λi=>cC X b o i _,rfl,rfl,rfl⟩) (λo _=>⟨⟨by rw[W2];exact F9 _,λ_=>rfl⟩,F9 _,λ_=>rfl⟩)
  (λo=>by rw[cD];exact h.igs o) ⟨hg.os,hg.tape,hg.output,hg.size,λc hc hn=>hg.block c hc λe=>?_⟩ (λo c hd ho=>?_) (λo p c hd hp _ _=>hd.trans hp.symm) λhI hA o hd=>?_).1
 ·injection e with e
  subst e;exact hn ⟨b,rfl,hq⟩
 ·subst hd;unfold Owns at ho;rw[U1,if_pos rfl]at ho;exact .inr ⟨o,rfl,hk' c ho⟩
 ·subst hd;rw[U1,if_pos rfl];exact hob hI
def aStoreS_ok{p x:Operand}{b g i k j c:Nat}(hop:o.op=.store t p x)(hp:evA X p=.elt2 b g i k j c)(hd:J0 B.n o=true)(h:aStoreS P o X K t p x b g i k j c):∃fx,K fx/\Eff P B o fx.rd X fx.wr:=by
 unfold aStoreS at h;split at h
 ·rename_i m cs e e' k' gs hm e8 c0;split at h
  ·rename_i xs f9;obtain⟨a9,h'⟩:=h.ok;clear h;simp only[O2]at a9;obtain⟨⟨⟨c1,c2⟩,c3⟩,c4⟩:=a9;have e0:cs.length=m:=by simpa using c1
   have i3:=aK c2;have i4:=gQ c3;have g8:k'=k:=by simpa using c4
   subst g8;obtain⟨es,el,⟨hg,f6,a8⟩,h⟩:=h';have h:=h.out;refine⟨_,h,λX' hag a w ⟨Y,hs⟩ K' Q hK=>?_⟩;obtain⟨e7,hg',b8⟩:=rV hag;have h1:=E6 hs p;have h2:=E6 hs x;rw[E5 (G3 e7),hp]at h1;rw[E5 (I1 e7)]at h2;have hr:=lD e8 h2;have b3:=lC e8 h2;have e5:=mE hs (bs':=[]) (by simp) hr (mT f9 λl hl=>by simp[frd]at hl) (by simp);obtain⟨us,d4,c8,b6,d0,b7,h8,d9⟩:=gT hs (b8.trans c0);have g4:Y.ig b=g:=by rw[hs.igs,hg',hg]
   obtain⟨q,cap,u0,a3,f4,a7⟩:∃q cap u0,(Y.inn b)[i]?=some u0/\a.eval p=.pointer (some ⟨q,j*k'+c,none⟩)/\∃n,u0=.slice (some ⟨q,0,none⟩) n cap:=by
    generalize a.eval p=v at h1;cases h1 with
    |elt2 _ _ _ _ _ _ _ a2 hgg hh =>
     obtain⟨q,n,cp,a3,e2⟩:=hh g4;exact⟨q,cp,_,a3,e2,n,rfl⟩
   obtain⟨h9,i0,a4,d5⟩:=d9 i u0 a3;rw[f6]at a4;injection a4 with a4
   injection a4 with a4
   injection a4 with a4
   subst a4;have h7:=(E0.1 a8).1;obtain⟨q',b2,cur,e6,e1,e3,d7,d6,c9,h5,f3,a6,e4,c7,d3,g9,g5⟩:=d5.form (by omega);obtain⟨n,a7⟩:=a7
   have f8:q'=q:=by
    rw[a7]at e1;injection e1 with e1 _ _
    injection e1 with e1
    injection e1 with e1
    exact e1.symm
   subst f8;have b5:(a.eval x).cells.toList.length=m:=by rw[hr.1,e0]
   have f7:xs.length=m:=by rw[<- e5.1,b5]
   have d8:(j+1)*k'<=es.length*k':=bC _ h7;have h6:es.length*k'<=b2*k':=bC _ d7;rw[Nat.add_mul,lQ]at d8;have a5:=run_storeCells_at (P:=P) q' (j*k'+c) e' (a.eval x).cells.toList 0 cur w e3 (by omega) b3;simp only[V8]at a5;have hz:=bF hm w;have g6:(a.eval x).cells.size=m:=by rw[<- b5];simp
   have run:(execOp a.eval o).run P w=.ok .skip (w.setRow q' (splice cur.toList (j*k'+c) (a.eval x).cells.toList).toArray):=by
    simp only[execOp,hop,Instr.storeAt,f4,Instr.sureAddr,storeVar,Sem.run_bind,Sem.run_pure,Result.andThen_ok,hz,g6];rw[if_neg (by simp),a5];rfl
   unfold Oper.wp;rw[run,Oper.upon_skip];refine hK _ _ ⟨Y,?_⟩;have c6:e6.length=es.length*k':=by rw[c7,R1 a6]
   have d1:el.length=k':=a6 el (G6 a8);have b4:F6 u0=some q':=by rw[a7];rfl
   obtain⟨h0,f5⟩:=sR d4 a3 b4;have d2:∀r,r≠q'->(w.setRow q' (splice cur.toList (j*k'+c) (a.eval x).cells.toList).toArray).heap[r]?=w.heap[r]?:=λr hr=>setRow_other w q' r _ hr
   have e9:=hs.turnA (w':=w.setRow q' (splice cur.toList (j*k'+c) (a.eval x).cells.toList).toArray) (b:=b) (q:=q') (k':=.grid e e' k' (gs.set i [.sl (es.set j (splice el c xs))]) none)
    (by unfold Owns;rw[b8.trans c0];exact fpk_inn a3 b4)
    ⟨rfl,rfl,rfl,by simp,λk _ hk=>setRow_other w q' k _ (λe=>hk (by rw[e]))⟩ (λr hr=>by unfold Owns;rw[b8.trans c0];exact hr) λhI=>by
     refine⟨d4,by rw[P2];exact c8,us,by rw[P2];exact b6,?_,b7,λi' u hu=>.inr ?_⟩
     ·rw[P2];exact qJ d0 λr hr=>d2 r λe=>h0 (by rw[<- e];exact hr)
     ·obtain⟨g1,g7,g2,g3⟩:=d9 i' u hu;refine⟨g1,?_⟩;by_cases b9:i'=i
      ·subst b9;rw[a3]at hu;injection hu with hu
       subst hu;refine⟨es.set j (splice el c xs),by rw[P5 (by rw[<- c8];exact(E0.1 a3).1)],splice e6 (j*k'+c) (a.eval x).cells.toList,f3,λy hy=>?_,by rw[P2];exact e4,?_,?_,λu hu=>?_,λn u y hu hy=>?_⟩
       ·rcases oT hy with hy|hy
        ·exact a6 y hy
        ·rw[hy,fA _ _ _ (by omega),d1]
       ·rw[P2];refine⟨by rw[fA _ _ _ (by omega),c6],.inr ⟨q',b2,_,e1,D8 _,setRow_heap w q' cur _ e' _ e3,d7,d6,?_,?_⟩⟩
        ·rw[lS,fA _ _ _ (by simp;omega)];simpa using c9
        ·rw[uF,tC _ _ _ _ (by omega) (by simp;omega),h5]
       ·rw[pC a6 a8 (by omega),fA _ _ _ (by omega),fA _ _ _ (by omega),c7]
       ·unfold splice at hu;rcases I2.1 hu with hu|hu
        ·rcases I2.1 hu with hu|hu
         ·exact d3 u (aD hu)
         ·exact b3 u hu
        ·exact d3 u (bX hu)
       ·rw[pC a6 a8 (by omega)]at hy;rcases AU c7 (by rw[b5,f7]) (by omega) hu hy with⟨n',h3,h4⟩|⟨n',h3,h4⟩
        ·exact hI _ _ (g9 n' u y h3 h4)
        ·exact hI _ _ (e5.2 n' u y h3 h4)
      ·exact⟨g7,by rw[O3 (λe=>b9 e.symm)];exact g2,g3.mono (λr hr=>d2 r λe=>f5 i' u b9 hu (by rw[<- e];exact hr)) hI⟩
   rw[O0];exact e9.put (eN hd) (Q2 _)
  ·exact h.elim
 ·exact h.elim
def fpv_set{v x:Value}{inn:List Value}{i:Nat}(h:(fpv v inn).Nodup)(hx:∀q,F6 x=some q->q∉fpv v inn):(fpv v (inn.set i x)).Nodup:=by
 have hm:∀u q,u=v\/u∈inn->F6 u=some q->q∈fpv v inn:=λu q hu hq=>dK.2 ⟨u,by rcases hu with rfl|hu<;>simp[*],hq⟩
 unfold fpv List.Nodup at h ⊢;rw[EF,bW]at h ⊢;obtain⟨h1,h2⟩:=h;refine⟨λa' a4 c hc c' a2 e=>?_,?_⟩
 ·rcases oT a4 with h3|h3
  ·exact h1 a' h3 c hc c' a2 e
  ·subst h3 e;exact hx c a2 (hm v c (.inl rfl) hc)
 ·rw[dL]at h2 ⊢;intro j k hj hk a3 c hc c' a2 e;rw[P2]at hj hk;rw[List.getElem_set]at hc a2;subst e;split at hc
  ·split at a2
   ·omega
   ·exact hx c hc (hm _ c (.inr (M8 hk)) a2)
  ·split at a2
   ·exact hx c a2 (hm _ c (.inr (M8 hj)) hc)
   ·exact h2 j k hj hk a3 c hc c a2 rfl
def splice_one{V:Type}{l:List V}{i:Nat}(h:i<l.length)(v:V):splice l i [v]=l.set i v:=by
 rw[List.set_eq_take_append_cons_drop,if_pos h];unfold splice;simp
def aStoreG_ok{p x:Operand}{b g k i j:Nat}(hop:o.op=.store t p x)(hp:evA X p=.elt b g k i j)(hd:J0 B.n o=true)(h:aStoreG P o X K t p x b g k i j):∃fx,K fx/\Eff P B o fx.rd X fx.wr:=by
 unfold aStoreG at h;split at h
 ·rename_i m r gr e e' k' gs hole hm hx a8;split at h
  ·rename_i e2 k2 es d6;obtain⟨a9,h'⟩:=h.ok;clear h;simp only[O2]at a9;obtain⟨⟨⟨⟨⟨c1,c2⟩,c3⟩,c4⟩,c5⟩,c6⟩:=a9;have c1:=O5 c1;have c2:=O5 c2;have c3:=O5 c3;have c4:=O5 c4;have c5:=O5 c5;have a4:r≠b:=λe=>by rw[e]at c6;simp at c6
   subst c1 c2 c3 c4 c5;obtain⟨⟨hg,f6,h0,d8⟩,h⟩:=h'.out;have h:=h.out;refine⟨_,h,λX' hag a w ⟨Y,hs⟩ K' Q hK=>?_⟩;have e0:∀x_1∈(opd p++opd x)++(.gen b::.knd b::[.ign b,.gen r,.knd r]),X' x_1=X x_1:=λy hy=>hag y (by simpa using hy);obtain⟨e4,hg',a7,b6⟩:=V2 e0;have g6:X'.ig b=X.ig b:=fN (b6 (.ign b) (by simp));have d2:X'.gn r=X.gn r:=S2 (b6 (.gen r) (by simp));have b2:X'.kd r=X.kd r:=kS (b6 (.knd r) (by simp));have h1:=E6 hs p;have h2:=E6 hs x;rw[E5 (G3 e4),hp]at h1;rw[E5 (I1 e4),hx]at h2;obtain⟨us,d7,f4,c0,c9,c7,d3,e7⟩:=zY hs (a7.trans a8);have b7:=hs.obs r;rw[b2.trans d6]at b7;have d1:T9 w (Imm B X' Y w) (Y r) e2 k2 es:=b7;obtain⟨h3,_,_,_,r4,_⟩:=b7;have a3:(Y r).oneCell'=true:=row_one r4;have e9:(Y r).cells=#[Y r]:=by revert a3;cases Y r<;>simp[Value.oneCell',Value.cells]
   rcases c9.2 with⟨_,hn⟩|⟨q,g9,cur,e1,_,e3,g4,d9,b3,d4⟩
   ·omega
   have e6:a.eval p=.pointer (some ⟨q,i,none⟩):=by
    generalize a.eval p=v at h1;cases h1 with
    |elt _ _ _ _ _ _ _ _ hh =>
     obtain⟨b',z,n,c,f1,f2⟩:=hh (hg'.trans hg);rw[e1]at f1;injection f1 with f1
     injection f1 with f1
     injection f1 with f1 f3
     rw[f2,f1,<- f3,fH,V8,E8]
   have f5:a.eval x=Y r:=by
    generalize a.eval x=v at h2;cases h2 with
    |osl _ _ _ _ _ hh=>exact hh (d2.trans f6)
   rw[fH]at b3 d4;have a6:=run_storeCells_at (P:=P) q i e [Y r] 0 cur w e3 (by simp;omega) (by simpa using a3);simp only[V8]at a6;have hz:=bF hm w
   have run:(execOp a.eval o).run P w=.ok .skip (w.setRow q (splice cur.toList i [Y r]).toArray):=by
    simp only[execOp,hop,Instr.storeAt,e6,f5,Instr.sureAddr,storeVar,Sem.run_bind,Sem.run_pure,Result.andThen_ok,hz,e9];rw[if_neg (by simp),a6];rfl
   unfold Oper.wp;rw[run,Oper.upon_skip]
   let Y2:Ly:=⟨Y.root,λo=>if o=b then(Y.inn b).set i (Y r) else Y.inn o,λo=>if o=b then Y.ig b+1 else Y.ig o⟩
   let U:St:=app X' [(.knd r,.kd .dead),(.ign b,.n (X.ig b+1)),(.knd b,.kd (.grid e e2 k2 (gs.set i [.sl es]) none))]
   have a2:∀o,U.kd o=if o=b then .grid e e2 k2 (gs.set i [.sl es]) none else if o=r then .dead else X'.kd o:=λo=>by
    show(app X' _).kd o=_;simp only[O0,Z5];rw[U1,kd_ign,U1]
   have d0:∀o,U.gn o=X'.gn o:=λo=>by
    show(app X' _).gn o=_;simp only[O0,Z5];rw[W2,gn_ign,W2]
   have g7:∀o,U.ig o=if o=b then X.ig b+1 else X'.ig o:=λo=>by
    show(app X' _).ig o=_;simp only[O0,Z5];rw[cD,ig_ign,cD]
   have e8:∀t,U.av t=X'.av t:=λt=>by
    show(app X' _).av t=_;simp only[O0,Z5];rw[bE,av_ign,bE]
   have f7:∀o i,U.ce o i=X'.ce o i:=λo i=>by
    show(app X' _).ce o i=_;simp only[O0,Z5];rw[cC,ce_ign,cC]
   have b4:Owns X' Y b q:=.root (by unfold live;rw[a7.trans a8];exact λz=>by cases z) (by rw[e1];rfl);have c8:live X' r:=kX (b2.trans d6);have f9:∀c,F6 (Y r)=some c->c≠q:=λc hc e=>a4 (hs.dis r b c (.root c8 hc) (e ▸ b4));have b9:∀c,c≠q->(w.setRow q (splice cur.toList i [Y r]).toArray).heap[c]?=w.heap[c]?:=λc hc=>setRow_other w q c _ hc;have d5:∀(j:Nat) u,(Y.inn b)[j]?=some u->∀c,F6 u=some c->c≠q:=λj u hu c hc e=>(sR d7 hu hc).1 (by rw[e1,e];rfl)
   obtain⟨e5,_⟩:=hs.step (X':=U) (Y':=Y2) (w':=w.setRow q (splice cur.toList i [Y r]).toArray) (λo=>o=b\/o=r) e8
    (λo ho=>⟨by rw[a2,if_neg (λe=>ho (.inl e)),if_neg (λe=>ho (.inr e))],d0 o,f7 o,rfl,by simp only[Y2];rw[if_neg (λe=>ho (.inl e))],by simp only[Y2];rw[if_neg (λe=>ho (.inl e))]⟩)
    (λo ho=>by
     refine⟨⟨by rw[d0];exact F9 _,λ_=>rfl⟩,?_,λe=>?_⟩
     ·show Y.ig o<=(if o=b then Y.ig b+1 else Y.ig o)
      split
      ·rename_i e;rw[e];omega
      ·exact F9 _
     ·have e:(if o=b then Y.ig b+1 else Y.ig o)=Y.ig o:=e
      show(if o=b then(Y.inn b).set i (Y r) else Y.inn o)=_
      split at e
      ·rename_i e2;rw[e2]at e;omega
      ·rename_i e2;rw[if_neg e2])
    (λo=>by
     show(if o=b then Y.ig b+1 else Y.ig o)=_
     rw[g7]
     split
     ·rw[hs.igs,g6]
     ·exact hs.igs o)
    ⟨rfl,rfl,rfl,by simp,λc hc hn=>b9 c λe=>hn ⟨b,.inl rfl,e ▸ b4⟩⟩
    (λo c ho hc=>by
     rcases ho with rfl|rfl
     ·unfold Owns at hc
      rw[a2,if_pos rfl]at hc
      have hc:c∈fpv (Y o) (if o=o then(Y.inn o).set i (Y r) else Y.inn o):=hc
      rw[if_pos rfl]at hc
      obtain⟨u,hu,b8⟩:=dK.1 hc
      rcases M4.1 hu with rfl|hu
      ·exact .inr ⟨o,.inl rfl,.root b4.lv b8⟩
      ·rcases oT hu with hu|rfl
       ·obtain⟨n,hn⟩:=iI hu
        exact .inr ⟨o,.inl rfl,by unfold Owns;rw[a7.trans a8];exact fpk_inn hn b8⟩
       ·exact .inr ⟨r,.inr rfl,.root c8 b8⟩
     ·exact absurd (by rw[a2,if_neg a4,if_pos rfl]) hc.lv)
    (λo p c ho hp f8 g5=>by
     rcases ho with rfl|rfl
     ·rcases hp with rfl|rfl
      ·rfl
      ·exact absurd (by rw[a2,if_neg a4,if_pos rfl]) g5.lv
     ·exact absurd (by rw[a2,if_neg a4,if_pos rfl]) f8.lv)
    λhI _ o ho=>by
     by_cases b5:o=b
     ·subst b5;rw[a2,if_pos rfl];show cY _ _ (Y o) (if o=o then(Y.inn o).set i (Y r) else Y.inn o) _ _ _ _ _;rw[if_pos rfl];refine⟨fpv_set d7 λc hc hm=>?_,by rw[P2,P2];exact f4,us.set i (Y r),by rw[P2];exact c0,?_,λu hu=>?_,λi' u hu=>.inr ?_⟩
      ·exact a4 (hs.dis r o c (.root c8 hc) (by unfold Owns;rw[a7.trans a8];exact hm))
      ·rw[P2];refine⟨by rw[P2,d3,fH],.inr ⟨q,g9,_,e1,D8 _,setRow_heap w q cur _ e _ e3,g4,d9,?_,?_⟩⟩
       ·rw[lS,fA _ _ _ (by simp;omega),fH];simpa using b3
       ·rw[uF,fH,tC _ _ _ _ (by simp;omega) (by simp;omega),d4,splice_one (by omega)]
      ·rcases oT hu with hu|rfl
       ·exact c7 u hu
       ·exact a3
      ·by_cases a5:i'=i
       ·subst a5;rw[P5 (by omega)]at hu;injection hu with hu
        subst hu;exact⟨P5 (by omega),es,P5 (by omega),d1.mono (λc hc=>b9 c (f9 c hc)) hI⟩
       ·rw[O3 (λe=>a5 e.symm)]at hu
        obtain⟨g1,g8,g2,g3⟩:=(e7 i' u hu).resolve_left λhh=>by
         rw[hh.1]at d8;exact a5 d8
        exact⟨by rw[O3 (λe=>a5 e.symm)];exact g1,g8,by rw[O3 (λe=>a5 e.symm)];exact g2,g3.mono (λc hc=>b9 c (d5 i' u hu c hc)) hI⟩
     ·rw[a2,if_neg b5,if_pos (ho.resolve_left b5)];trivial
   refine hK _ _ ⟨Y2,?_⟩;show SatR B (app X' ([(.knd r,.kd .dead),(.ign b,.n (X.ig b+1)),(.knd b,.kd (.grid e e2 k2 (gs.set i [.sl es]) none))]++wrT o.dst (.im (.val undef)))) _ _ _;rw[L5];exact e5.put (eN hd) (Q2 _)
  ·exact h.elim
 ·exact h.elim
def SatR.takeout{Y:Ly}(hs:SatR B X a w Y){b d i k:Nat}{e e':TypeId}{gs es:List (List IV)}{u:Value}(hkd:X.kd b=.grid e e' k gs none)(hdb:d≠b)(hu:(Y.inn b)[i]?=some u)(hes:gs[i]?=some [.sl es]) :
  let Y2:Ly:=⟨λo=>if o=d then u else Y o,λo=>if o=b then(Y.inn b).set i undef else Y.inn o,λo=>if o=b then Y.ig b+1 else Y.ig o⟩
  SatR B (app X (R0 X b d i e e' k gs es)) a w Y2/\∀v x,RepI w (Imm B X Y w) v x->RepI w (Imm B (app X (R0 X b d i e e' k gs es)) Y2 w) v x:=by
 intro Y2;obtain⟨us,b2,c8,b3,b7,b5,d8,c6⟩:=gT hs hkd;obtain⟨d9,a9,a8,b9⟩:=c6 i u hu;have d1:a9=es:=by rw[hes]at a8;simpa using a8.symm
 subst d1
 let U:St:=app X (R0 X b d i e e' k gs a9)
 have a5:∀o,U.kd o=if o=d then .row e' k a9 else if o=b then .grid e e' k gs (some i) else X.kd o:=λo=>by
  show(app X _).kd o=_;unfold R0;simp only[O0,Z5];rw[U1,kd_gen,U1,kd_ign]
 have b4:∀o,U.gn o=if o=d then X.gn d+1 else X.gn o:=λo=>by
  show(app X _).gn o=_;unfold R0;simp only[O0,Z5];rw[W2,gn_gen,W2,gn_ign]
 have d4:∀o,U.ig o=if o=b then X.ig b+1 else X.ig o:=λo=>by
  show(app X _).ig o=_;unfold R0;simp only[O0,Z5];rw[cD,ig_gen,cD,ig_ign]
 have d7:∀t,U.av t=X.av t:=λt=>by
  show(app X _).av t=_;unfold R0;simp only[O0,Z5];rw[bE,av_gen,bE,av_ign]
 have d2:∀o j,U.ce o j=X.ce o j:=λo j=>by
  show(app X _).ce o j=_;unfold R0;simp only[O0,Z5];rw[cC,ce_gen,cC,ce_ign]
 have a7:F6 undef=none:=rfl
 have b6:∀c,c∈fpv (Y b) ((Y.inn b).set i undef)->c∈fpv (Y b) (Y.inn b)/\F6 u≠some c:=λc hc=>by
  obtain⟨x,hx,a3⟩:=dK.1 hc;rcases M4.1 hx with rfl|hx
  ·exact⟨dK.2 ⟨_,U9 ..,a3⟩,λe=>(sR b2 hu e).1 a3⟩
  ·obtain⟨j,hj⟩:=iI hx;rw[oM]at hj;split at hj
   ·split at hj
    ·injection hj with hj
     rw[<- hj,a7]at a3;cases a3
    ·cases hj
   ·rename_i d5;exact⟨dK.2 ⟨x,M7 _ (G6 hj),a3⟩,λe=>(sR b2 hu e).2 j x (λe=>d5 e.symm) hj a3⟩
 have d0:∀c,c∈fpv (Y b) (Y.inn b)->Owns X Y b c:=λc hc=>by unfold Owns;rw[hkd];exact hc
 have a4:∀c,Owns U Y2 b c->c∈fpv (Y b) ((Y.inn b).set i undef):=λc hc=>by
  unfold Owns at hc;rw[a5,if_neg hdb.symm,if_pos rfl]at hc;have hc:c∈fpv (if b=d then u else Y b) (if b=b then(Y.inn b).set i undef else Y.inn b):=hc
  rwa [if_neg hdb.symm,if_pos rfl]at hc
 have a6:∀c,Owns U Y2 d c->F6 u=some c:=λc hc=>by
  unfold Owns at hc;rw[a5,if_pos rfl]at hc;have hc:c∈(F6 (if d=d then u else Y d)).toList:=hc;rw[if_pos rfl]at hc;simpa using hc
 obtain⟨c9,hI,_⟩:=hs.step (X':=U) (Y':=Y2) (w':=w) (λo=>o=b\/o=d) d7
  (λo ho=>⟨by rw[a5,if_neg (λe=>ho (.inr e)),if_neg (λe=>ho (.inl e))],by rw[b4,if_neg (λe=>ho (.inr e))],d2 o,by simp only[Y2];rw[if_neg (λe=>ho (.inr e))],by simp only[Y2];rw[if_neg (λe=>ho (.inl e))],by simp only[Y2];rw[if_neg (λe=>ho (.inl e))]⟩)
  (λo ho=>by
   refine⟨⟨?_,λe=>?_⟩,?_,λe=>?_⟩
   ·rw[b4];split
    ·rename_i e;subst e;omega
    ·exact F9 _
   ·rw[b4]at e
    by_cases a2:o=d
    ·subst a2;rw[if_pos rfl]at e;omega
    ·simp only[Y2];rw[if_neg a2]
   ·show Y.ig o<=(if o=b then Y.ig b+1 else Y.ig o)
    split
    ·rename_i e;rw[e];omega
    ·exact F9 _
   ·have e:(if o=b then Y.ig b+1 else Y.ig o)=Y.ig o:=e
    show(if o=b then(Y.inn b).set i undef else Y.inn o)=_
    split at e
    ·rename_i e2;rw[e2]at e;omega
    ·rename_i e2;rw[if_neg e2])
  (λo=>by
   show(if o=b then Y.ig b+1 else Y.ig o)=_
   rw[d4]
   split
   ·rw[hs.igs]
   ·exact hs.igs o)
  (Belo.refl _ _ _)
  (λo c ho hc=>by
   rcases ho with rfl|rfl
   ·exact .inr ⟨o,.inl rfl,d0 c (b6 c (a4 c hc)).1⟩
   ·exact .inr ⟨b,.inl rfl,by unfold Owns;rw[hkd];exact fpk_inn hu (a6 c hc)⟩)
  (λo p c ho hp c0 c7=>by
   rcases ho with rfl|rfl
   ·rcases hp with rfl|rfl
    ·rfl
    ·exact absurd (a6 c c7) (b6 c (a4 c c0)).2
   ·rcases hp with rfl|rfl
    ·exact absurd (a6 c c0) (b6 c (a4 c c7)).2
    ·rfl)
  λhI _ o ho=>by
   by_cases a2:o=d
   ·subst a2;rw[a5,if_pos rfl];show T9 _ _ (if o=o then u else Y o) _ _ _;rw[if_pos rfl];exact b9.mono (λ_ _=>rfl) hI
   ·have b8:=ho.resolve_right a2;subst b8;rw[a5,if_neg a2,if_pos rfl];show cY _ _ (if o=d then u else Y o) (if o=o then(Y.inn o).set i undef else Y.inn o) _ _ _ _ _;rw[if_neg a2,if_pos rfl];refine⟨fpv_set b2 (λc hc=>by rw[a7]at hc;cases hc),by rw[P2];exact c8,us,b3,b7,b5,λj x hx=>?_⟩;rw[oM]at hx;split at hx
    ·rename_i d3;split at hx
     ·injection hx with hx
      exact .inl ⟨by rw[d3],hx.symm⟩
     ·cases hx
    ·obtain⟨g1,d6,g2,g3⟩:=c6 j x hx;exact .inr ⟨g1,d6,g2,g3.mono (λ_ _=>rfl) hI⟩
 exact⟨c9,hI⟩
def aAppendS_ok{x y:Operand}{b g i:Nat}(hop:o.op=.call c)(hc:c.callee=.builtin .append)(hargs:c.args=#[x,y])(hts:c.argTypes=#[t,t])(hx:evA X x=.sub b g i)(hd:J0 B.n o=true)(h:aAppendS P o X K t x y b g i):∃fx,K fx/\Eff P B o fx.rd X fx.wr:=by
 unfold aAppendS at h;split at h
 ·rename_i d et e e' k' gs a9 e7 f4;have d2:=Z8 e7;split at h
  ·rename_i k by_ new hk d7 hy
   have c0:∀(a:Act) w v' w',(Builtin.append_ #[t,t] o.type #[a.eval x,a.eval y]).run P w=.ok v' w'->(execOp a.eval o).run P w=.ok (.value v') w':=λa w v' w' hv=>by
    simp[execOp,hop,resolve,hc,hargs,hts,invoke,builtin,hv]
   obtain⟨a8,h'⟩:=h.ok;clear h;simp only[O2]at a8;obtain⟨⟨⟨⟨c1,c2⟩,c3⟩,c4⟩,c5⟩:=a8;have c7:=aK c1;have b9:e'=et:=O5 c2;have f5:k'=k:=O5 c3;have d5:d≠b:=λe=>by rw[e]at c5;simp at c5
   subst b9 f5;obtain⟨it,z,hi,hz,b4,a6,e4⟩:=iS c4 hk d7;obtain⟨es,⟨c6,e2,a3,a4⟩,h⟩:=h';have h:=h.out;refine⟨_,h,λX' hag a w ⟨Y,hs⟩ K' Q hK=>?_⟩;have ha:∀z∈opd x++opd y,X' z=X z:=G3 hag;have b2:X'.ig b=X.ig b:=fN (I1 hag (.ign b) (by simp));have e9:X'.kd b=X.kd b:=kS (I1 hag (.knd b) (by simp));have hg':X'.gn d=X.gn d:=S2 (I1 hag (.gen d) (by simp));have h1:=E6 hs x;have h2:=E6 hs y;rw[E5 (G3 ha),hx]at h1
   have e6:fz X' (evA X' y)=some (.sl new,[]):=by
    rw[E5 (I1 ha)];exact jQ hy λl hl=>by simp[frd]at hl
   have h2:=gC hs (bs':=[]) (by simp) h2 e6 (by simp)
   have d8:(Y.inn b)[i]?=some (a.eval x):=by
    generalize a.eval x=v at h1;cases h1 with
    |sub _ _ _ _ _ _ hh=>exact hh ((hs.igs b).trans (b2.trans c6))
   obtain⟨c9,f3⟩:=hs.takeout (d:=d) (e9.trans f4) d5 d8 e2;have d6:=f3 _ _ h2;obtain⟨A,cp,news,hv,b7,d1,e5,a5,b8⟩:=kJ d6 a3;have e8:=R1 a3
   have b3:(app X' (R0 X' b d i e e' k' gs es)).kd d=.row e' k' es:=by
    unfold R0;simp only[O0,Z5];rw[U1,if_pos rfl]
   have ho:=c9.obs d;rw[b3]at ho;obtain⟨us,_,f7,_,a2,d9,e3,f6⟩:=ho;simp only[if_pos]at a2;obtain⟨v',w',c8,a7,b5,b6⟩:=lJ (P:=P) (w:=w) 0 t o.type e' it z k' by_ d2 hi hz b4 a6 e4 c7 (a.eval x) es.length us a2 A new.length cp news (by rw[b7,e8]) a5 d1 (by unfold maxLen;unfold B4 at a4;omega) a4.1 (D8 _);unfold Oper.wp;rw[c0 a w v' w' (by rw[hv];exact c8),Oper.upon_value,a9];have d4:=c9.rowed (used:=some d) (d:=d) (λq hq=>⟨d,rfl,.root (kX b3) (by simp only[if_pos];exact hq)⟩) c7 f7 a3 a4.2 a2 a7 b5 b6 d9 b7 e3 d1 f6 b8
   have d0:(app X' (R0 X' b d i e e' k' gs es)).gn d=X.gn d+1:=by
    unfold R0;simp only[O0,Z5];rw[W2,gn_gen,if_pos rfl,hg']
   have e0:R0 X' b d i e e' k' gs es=R0 X b d i e e' k' gs es:=by unfold R0;rw[b2,hg']
   have e1:app X' (R0 X b d i e e' k' gs es++((.knd d,.kd .dead)::([(.gen d,.n (X.gn d+2)),(.knd d,.kd (.row e' k' (es++new)))]++[(.tmp d,.av (.osl d (X.gn d+2)))])))=app (N9 (app X' (R0 X' b d i e e' k' gs es)) (some d) d (.row e' k' (es++new)) []) [(.tmp d,.av (.osl d ((app X' (R0 X' b d i e e' k' gs es)).gn d+1)))]:=by
    rw[L5,<- e0,O0,L5];unfold N9;rw[d0];rfl
   have d3:=nN d4 (row_one a7) (U6 hd a9);rw[<- e1]at d3;exact hK _ _ ⟨_,d3⟩
  ·exact h.elim
 ·exact h.elim
def row_src{S:Nat->Prop}{es:List (List IV)}{k:Nat}(h:T9 w S v e k es) :
  ∃(A:Option Addr) (c:Nat) (us:List Value),v=.slice A es.length c/\us.length=es.flatten.length/\(∀u∈us,u.oneCell'=true)/\es.length<=17592186044416 /\
   (0<es.length->∃b q,A=some ⟨b,q,none⟩/\∀(j:Nat) u,us[j]?=some u->w.cell? ⟨b,q+j,none⟩=some u)/\∀(i:Nat) u x,us[i]?=some u->es.flatten[i]?=some x->RepI w S u x:=by
 rcases dJ es.length with h0|h0
 ·obtain⟨us,_,_,h3,h4,h5,h6,h7⟩:=h;have he:es=[]:=V0 h0;subst he;rcases h4.2 with⟨e1,_⟩|⟨q,a3,cur,e1,_⟩
  ·exact⟨none,0,us,e1,h5,h6,h3,λh=>absurd h (by simp),h7⟩
  ·exact⟨_,a3,us,e1,h5,h6,h3,λh=>absurd h (by simp),h7⟩
 ·have h':=h;obtain⟨_,_,_,h3,_⟩:=h';obtain⟨q,a3,cur,us,e1,_,_,_,_,_,_,_,_,e7,e8,e9,a2⟩:=h.form h0;exact⟨_,a3,us,e1,e7,e8,h3,λ_=>⟨q,0,rfl,λj u hu=>by rw[E8];exact sE a2 e1 hu⟩,e9⟩
def aAppendT_ok{x y:Operand}{b g i b2 g2 j:Nat}(hop:o.op=.call c)(hc:c.callee=.builtin .append)(hargs:c.args=#[x,y])(hts:c.argTypes=#[t,t])(hx:evA X x=.sub b g i)(hy0:evA X y=.sub b2 g2 j)(hd:J0 B.n o=true)(h:aAppendT P o X K t x y b g i b2 g2 j):∃fx,K fx/\Eff P B o fx.rd X fx.wr:=by
 unfold aAppendT at h;split at h
 ·rename_i d et e e' k' gs b4 g1 e0;have d9:=Z8 g1;split at h
  ·rename_i k by_ hk e7
   have d1:∀(a:Act) w v' w',(Builtin.append_ #[t,t] o.type #[a.eval x,a.eval y]).run P w=.ok v' w'->(execOp a.eval o).run P w=.ok (.value v') w':=λa w v' w' hv=>by
    simp[execOp,hop,resolve,hc,hargs,hts,invoke,builtin,hv]
   obtain⟨a9,h'⟩:=h.ok;clear h;simp only[O2]at a9;obtain⟨⟨⟨⟨⟨c1,c2⟩,c3⟩,c4⟩,c5⟩,c6⟩:=a9;have f6:b=b2:=(O5 c6).symm;have d3:=aK c1;have d0:e'=et:=O5 c2;have g5:k'=k:=O5 c3;have e5:d≠b:=λe=>by rw[e]at c5;simp at c5
   subst d0 g5 f6;obtain⟨it,z,hi,hz,b7,a7,f8⟩:=iS c4 hk e7;obtain⟨es,new,⟨d2,c7,g8,f5,e3,a5⟩,h⟩:=h';have h:=h.out;refine⟨_,h,λX' hag a w ⟨Y,hs⟩ K' Q hK=>?_⟩;have ha:∀z∈opd x++opd y,X' z=X z:=G3 hag;have a4:X'.ig b=X.ig b:=fN (I1 hag (.ign b) (by simp));have d8:X'.kd b=X.kd b:=kS (I1 hag (.knd b) (by simp));have hg':X'.gn d=X.gn d:=S2 (I1 hag (.gen d) (by simp));have h1:=E6 hs x;have h2:=E6 hs y;rw[E5 (G3 ha),hx]at h1;rw[E5 (I1 ha),hy0]at h2
   have e8:(Y.inn b)[i]?=some (a.eval x):=by
    generalize a.eval x=v at h1;cases h1 with
    |sub _ _ _ _ _ _ hh=>exact hh ((hs.igs b).trans (a4.trans d2))
   have e2:(Y.inn b)[j]?=some (a.eval y):=by
    generalize a.eval y=v at h2;cases h2 with
    |sub _ _ _ _ _ _ hh=>exact hh ((hs.igs b).trans (a4.trans c7))
   obtain⟨_,_,_,_,_,_,_,e6⟩:=gT hs (d8.trans e0);obtain⟨_,g9,a2,b3⟩:=e6 j _ e2;rw[e3]at a2;injection a2 with a2
   injection a2 with a2 _
   injection a2 with a2
   subst a2
   have b5:∀e∈new,e.length=k':=by
    obtain⟨_,_,q,_⟩:=b3;exact q
   obtain⟨d5,g4⟩:=hs.takeout (d:=d) (d8.trans e0) e5 e8 f5;obtain⟨A,cp,news,hv,c8,d7,f9,a6,b8⟩:=row_src b3;have c9:∀(i:Nat) u x,news[i]?=some u->new.flatten[i]?=some x->RepI w _ u x:=λi u x h1 h2=>g4 _ _ (b8 i u x h1 h2);have g3:=R1 b5
   have b6:(app X' (R0 X' b d i e e' k' gs es)).kd d=.row e' k' es:=by
    unfold R0;simp only[O0,Z5];rw[U1,if_pos rfl]
   have ho:=d5.obs d;rw[b6]at ho;obtain⟨us,_,g7,_,a3,e9,f7,g6⟩:=ho;simp only[if_pos]at a3;obtain⟨v',w',d4,a8,b9,c0⟩:=lJ (P:=P) (w:=w) 0 t o.type e' it z k' by_ d9 hi hz b7 a7 f8 d3 (a.eval x) es.length us a3 A new.length cp news (by rw[c8,g3]) a6 d7 (by unfold maxLen;unfold B4 at a5;omega) a5.1 (D8 _);unfold Oper.wp;rw[d1 a w v' w' (by rw[hv];exact d4),Oper.upon_value,b4];have e4:=d5.rowed (used:=some d) (d:=d) (λq hq=>⟨d,rfl,.root (kX b6) (by simp only[if_pos];exact hq)⟩) d3 g7 b5 a5.2 a3 a8 b9 c0 e9 c8 f7 d7 g6 c9
   have d6:(app X' (R0 X' b d i e e' k' gs es)).gn d=X.gn d+1:=by
    unfold R0;simp only[O0,Z5];rw[W2,gn_gen,if_pos rfl,hg']
   have f3:R0 X' b d i e e' k' gs es=R0 X b d i e e' k' gs es:=by unfold R0;rw[a4,hg']
   have f4:app X' (R0 X b d i e e' k' gs es++((.knd d,.kd .dead)::([(.gen d,.n (X.gn d+2)),(.knd d,.kd (.row e' k' (es++new)))]++[(.tmp d,.av (.osl d (X.gn d+2)))])))=app (N9 (app X' (R0 X' b d i e e' k' gs es)) (some d) d (.row e' k' (es++new)) []) [(.tmp d,.av (.osl d ((app X' (R0 X' b d i e e' k' gs es)).gn d+1)))]:=by
    rw[L5,<- f3,O0,L5];unfold N9;rw[d6];rfl
   have e1:=nN e4 (row_one a8) (U6 hd b4);rw[<- f4]at e1;exact hK _ _ ⟨_,e1⟩
  ·exact h.elim
 ·exact h.elim
def aMoves_ok{own:List Nat}{x:Operand}(hop:o.op=.move x\/o.op=.assign x)(hd:J0 B.n o=true)(h:aMoves own o X K x):∃fx,K fx/\Eff P B o fx.rd X fx.wr:=by
 have a3:=aMove_ok (P:=P) (B:=B) (X:=X) hop hd;unfold aMoves at h;split at h
 ·rename_i d a2;split at h
  ·split at h
   ·rename_i y bs a8;obtain⟨a5,h⟩:=h.out;refine⟨_,h,λX' hag a w ⟨Y,hs⟩ K' Q hK=>?_⟩;have a4:N3 X X' bs:=I1 hag
    have a7:∀p∈bs,X'.gn p.1=p.2:=λp hp=>by
     rw[<- a5 p hp];exact S2 (a4 (.gen p.1) (by unfold frd;exact fE.2 ⟨p,hp,by simp⟩))
    have h1:=E6 hs x;have hf:=gC hs (bs':=bs) a7 h1 (by rw[E5 (G3 hag)];exact jQ a8 a4) λ_ h=>h;obtain⟨a6,_⟩:=hs.kills bs;have run:(execOp a.eval o).run P w=.ok (.value (a.eval x)) w:=by rcases hop with e|e<;>simp[execOp,e]
    unfold Oper.wp;rw[run,Oper.upon_value,a2];refine hK _ _ ⟨Y,?_⟩;show SatR B (app X' (fwr bs++[(.tmp d,.av (.im y))])) _ _ _;rw[L5];exact a6.put (d:=some d) (λt e=>by injection e with e;subst e;exact U6 hd a2) (.im _ _ hf)
   ·exact h.elim
  ·exact⟨_,h,by rw[a2]at a3;exact a3⟩
 ·rename_i a2;exact⟨_,h,by rw[a2]at a3;exact a3⟩
def BQ{a:Act}{Y:Ly}{S:Nat->Prop}{E:Nat->Nat}{d:Nat}{us vs:List Value}:∀(fs:List Field) (i:Nat) (xs ys:List AV) (r:Bool),fs.length=xs.length->intFs P i fs=true->eqCs xs ys=some r ->
  (∀(j:Nat) x,xs[j]?=some x->∃u,us[i+j]?=some u/\RepA w S Y E u x)->(∀(j:Nat) x,ys[j]?=some x->∃u,vs[i+j]?=some u/\RepA w S Y E u x)->(Op.eqFields (d+1) us.toArray vs.toArray fs).run P w=.ok r w
 |[],i,xs,ys,r,hl,_,he,_,_=>by
  have hx:xs=[]:=V0 hl.symm;subst hx;cases ys with
  |nil =>
   simp only[eqCs,D6]at he;subst he;simp[Op.eqFields]
  |cons y ys=>simp[eqCs]at he
 |f::fs,i,[],ys,r,hl,_,_,_,_=>by simp at hl
 |f::fs,i,x::xs,[],r,_,_,he,_,_=>by simp[eqCs]at he
 |f::fs,i,x::xs,y::ys,r,hl,hF,he,hx,hy=>by
  simp only[eqCs]at he;split at he
  ·rename_i k n k' m r' ex ey er;split at he
   ·rename_i hk;have hk:=of_decide_eq_true hk;subst hk;injection he with he
    subst he;simp only[intFs,intF,O2,decide_eq_true_eq]at hF;obtain⟨⟨⟨hname,hoff⟩,hty⟩,hF⟩:=hF;have hoff:=O5 hoff
    obtain⟨k0,hu⟩:∃k0,P.underlying f.type=some (.int k0):=by
     split at hty
     ·exact⟨_,by assumption⟩
     ·cases hty
    have hp:P.plainKey f.type=true:=by unfold Program.plainKey;rw[hu]
    obtain⟨u,a3,a5⟩:=hx 0 x rfl;obtain⟨v,a2,a4⟩:=hy 0 y rfl;rw[V8]at a3 a2;have e1:=U4 ex a5;have e2:=U4 ey a4;subst e1 e2;have p1:=run_part_plain (P:=P) w hp (xs:=us.toArray) (off:=f.offset) (v:=.int k n) (by rw[hoff];simpa using a3);have p2:=run_part_plain (P:=P) w hp (xs:=vs.toArray) (off:=f.offset) (v:=.int k m) (by rw[hoff];simpa using a2);have p3:=run_equalIn_int (P:=P) w d f.type k k0 n m hu
    have ih:=BQ (a:=a) (d:=d) fs (i+1) xs ys r' (by simpa using hl) hF er (λj z hz=>by
     have:=hx (j+1) z (by simpa using hz)
     rwa [show i+(j+1)=i+1+j by omega]at this) (λj z hz=>by
     have:=hy (j+1) z (by simpa using hz)
     rwa [show i+(j+1)=i+1+j by omega]at this)
    simp only[Op.eqFields,if_pos hname,Sem.run_bind,p1,p2,p3,Result.andThen_ok];by_cases h:n=m
    ·subst h;simp[ih]
    ·have:(n==m)=false:=by simpa using h
     simp[this,h]
   ·cases he
  ·cases he
def aBinS_ok{op:BinOp}{t z:TypeId}{x y:Operand}(hop:o.op=.binOp op t x y z)(hd:J0 B.n o=true)(h:aBinS P o X K op t x y):∃fx,K fx/\Eff P B o fx.rd X fx.wr:=by
 unfold aBinS at h;split at h
 ·rename_i xs ys hx hy;split at h
  ·rename_i r hr;obtain⟨hT,h⟩:=h.out
   obtain⟨fs,hu,a6,hF,a7,a4⟩:∃fs,P.underlying t=some (.struct fs)/\fs.toList.length=xs.length/\intFs P 0 fs.toList=true/\P.stoodInHeld t=false/\P.eqGuardType P.depth t=false:=by
    unfold eqT at hT;split at hT
    ·rename_i fs hu;simp only[O2,rQ]at hT;exact⟨fs,hu,O5 hT.1.1.1,hT.1.1.2,hT.1.2,hT.2⟩
    ·cases hT
   have a5:P.fieldsOf t=fs:=by unfold Program.fieldsOf;rw[hu]
   have a3:∀X' (a:Act) w Y,SatR B X' a w Y->(∀l∈opd x++opd y,X' l=X l)->∃us vs:List Value,a.eval x=.agg us.toArray/\a.eval y=.agg vs.toArray/\(Op.equalIn 10000 t (.agg us.toArray) (.agg vs.toArray)).run P w=.ok r w:=λX' a w Y hs hag=>by
    have g1:=E6 hs x;have g2:=E6 hs y;rw[E5 (G3 hag)]at g1;rw[E5 (I1 hag)]at g2;obtain⟨us,e1,r1,_⟩:=aggCs_rep hx g1;obtain⟨vs,e2,r2,_⟩:=aggCs_rep hy g2;refine⟨us,vs,e1,e2,?_⟩;rw[run_equalIn_agg w 9999 t _ _ (by rw[a5];exact hu) a7,a5]
    have get:∀{us:List Value} {xs:List AV},Reps w (Imm B X' Y w) Y X'.gn us xs->∀(j:Nat) x,xs[j]?=some x->∃u,us[0+j]?=some u/\RepA w (Imm B X' Y w) Y X'.gn u x:=λ{us xs} hr j x hx=>by
     have hj:=(E0.1 hx).1;rw[<- hr.1]at hj;exact⟨us[j],by rw[E8];exact K8 hj,hr.2 j _ x (K8 hj) hx⟩
    exact BQ (a:=a) (d:=9998) fs.toList 0 xs ys r a6 hF hr (get r1) (get r2)
   split at h
   ·have h:=h.out;refine⟨_,h,Eff.pure hd λX' hag a w Y hs=>⟨.bool r,?_,Q2 _⟩⟩;obtain⟨us,vs,e1,e2,a2⟩:=a3 X' a w Y hs hag;simp only[execOp,hop,e1,e2,Sem.run_bind,run_eqGuard_agg w _ t x y _ _ a4,Result.andThen_ok,run_eql_struct,a2,Sem.run_pure]
   ·have h:=h.out;refine⟨_,h,Eff.pure hd λX' hag a w Y hs=>⟨.bool (!r),?_,Q2 _⟩⟩;obtain⟨us,vs,e1,e2,a2⟩:=a3 X' a w Y hs hag;simp only[execOp,hop,e1,e2,Sem.run_bind,run_eqGuard_agg w _ t x y _ _ a4,Result.andThen_ok,run_neq_struct,a2,Sem.run_pure]
   ·exact h.elim
  ·exact h.elim
 ·exact h.elim
end
end
section
section
variable {P:Program}{B:Base}{o:Oper}{X:St}{K:Fx->Prop}
def CB{X':St}{a:Act}{w:World}{Y:Ly}(h:SatR B X' a w Y){bs':G4}(hgk:∀p∈bs',X'.gn p.1=p.2):∀{l:List (Nat×Operand)} {i:Nat} {vs:List IV} {bs:G4},oW X i l=some (vs,bs)->(∀y∈opdL (l.map (·.2)),X' y=X y)->N3 X X' bs->(∀b∈bs,b∈bs') ->
  (l.map λp=>(p.1,a.eval p.2))=(((l.map λp=>a.eval p.2).zipIdx i).map λx=>(x.2,x.1))/\X3 w (Imm B (app X' (fwr bs')) Y w) (l.map λp=>a.eval p.2) vs
 |[],i,vs,bs,e,_,_,_=>by
  simp only[oW,D6,H5]at e;rw[<- e.1];exact⟨rfl,rfl,λi u x hu=>by simp at hu⟩
 |(j,x)::l,i,vs,bs,e,hag,hsame,hs=>by
  simp only[oW]at e;split at e
  ·rename_i hij;subst hij;split at e
   ·rename_i v b1 vs1 bs1 h1 h2;simp only[D6,H5]at e;obtain⟨rfl,rfl⟩:=e;have hx:evA X' x=evA X x:=E5 λy hy=>hag y (by simp only[M2,opdL,S6];exact K9 _ hy);have r1:=gC h hgk (E6 h x) (x:=v) (bs:=b1) (by rw[hx];exact jQ h1 hsame.left) λb hb=>hs b (K9 _ hb);obtain⟨r2,r3⟩:=CB h hgk h2 (λy hy=>hag y (by simp only[M2,opdL,S6];exact L2 _ hy)) hsame.right λb hb=>hs b (L2 _ hb);refine⟨by rw[M2,r2];rfl,by simpa using r3.1,λn u y hu hy=>?_⟩;cases n with
    |zero=>simp at hu hy;rw[<- hu,<- hy];exact r1
    |succ n=>exact r3.2 n u y (by simpa using hu) (by simpa using hy)
   ·cases e
  ·cases e
def cellsI_rep{w:World}{S:Nat->Prop}{v:Value}{x:IV}(h:RepI w S v x)(h0:0<(X4 x).length):X3 w S v.cells.toList (X4 x)/\∀u∈v.cells.toList,u.oneCell'=true:=by
 have one:v.oneCell'=true->X4 x=[x]->X3 w S v.cells.toList (X4 x)/\∀u∈v.cells.toList,u.oneCell'=true:=λh1 hx=>by
  have:v.cells=#[v]:=by revert h1;cases v<;>simp[Value.oneCell',Value.cells]
  rw[this,hx];refine⟨⟨rfl,λi u y hu hy=>?_⟩,λu hu=>by simp at hu;rw[hu];exact h1⟩;cases i with
  |zero=>simp at hu hy;rw[<- hu,<- hy];exact h
  |succ i=>simp at hu
 have h':=h;cases h' with
 |val _ =>
  simp only[X4]at h0;split at h0
  ·rename_i h1;exact one h1 (by simp only[X4];rw[if_pos h1])
  ·simp at h0
 |any _=>simp[X4]at h0
 |ex _ h1=>exact one h1 rfl
 |emp _ _=>exact one rfl rfl
 |sl _ _ _ _ _ _ _ _ _ _ _ _ _ _ _ _=>exact one rfl rfl
 |agg us cs hl h1 hr=>exact⟨⟨by simpa[Value.cells,X4]using hl,λi u y hu hy=>hr i u y (by simpa[Value.cells]using hu) hy⟩,λu hu=>h1 u (by simpa[Value.cells]using hu)⟩
 |ref _ _ _ _ _ _ _ _ _=>exact one rfl rfl
 |fn _ _ _ _ _=>exact one rfl rfl
 |nsl _ _ _ _ _=>exact one rfl rfl
def flat_reps{w:World}{S:Nat->Prop}{k:Nat}(hk0:0<k):∀{us:List Value} {vs:List IV},X3 w S us vs->(∀v∈vs,(X4 v).length=k) ->
  (∀u∈us,u.cells.size=k)/\X3 w S (us.flatMap λu=>u.cells.toList) (vs.map X4).flatten/\∀u∈us.flatMap λu=>u.cells.toList,u.oneCell'=true
 |[],[],_,_=>⟨by simp,⟨rfl,by simp⟩,by simp⟩
 |u::us,v::vs,h,hk=>by
  obtain⟨r1,r2⟩:=cellsI_rep (h.2 0 u v rfl rfl) (by rw[hk v (by simp)];exact hk0);obtain⟨r3,r4,r5⟩:=flat_reps hk0 (us:=us) (vs:=vs) ⟨by simpa using h.1,λi u x hu hx=>h.2 (i+1) u x (by simpa using hu) (by simpa using hx)⟩ λv hv=>hk v (by simp[hv]);have hl:u.cells.toList.length=k:=by rw[r1.1,hk v (by simp)]
  refine⟨λx hx=>?_,⟨by simp only[S6,M2,V4,H4,r1.1,r4.1],λi x y hx hy=>?_⟩,λx hx=>?_⟩
  ·rcases M4.1 hx with rfl|hx
   ·simpa using hl
   ·exact r3 x hx
  ·rw[S6,Q0]at hx;rw[M2,V4,Q0]at hy;rw[r1.1]at hx;split at hx
   ·rename_i a2;rw[if_pos a2]at hy;exact r1.2 i x y hx hy
   ·rename_i a2;rw[if_neg a2]at hy;exact r4.2 _ x y hx hy
  ·rw[S6]at hx;rcases I2.1 hx with hx|hx
   ·exact r2 x hx
   ·exact r5 x hx
 |[],_::_,h,_=>by have:=h.1;simp at this
 |_::_,[],h,_=>by have:=h.1;simp at this
def CV{t et len k:Nat}{w:World}{parts:Array (Nat×Value)}{us:List Value}(hu:P.underlying t=some (.slice et))(hk:szOf P et=some k)(hz:eB P et k=true)(hb:∃b,byteOf P et=some b)(hk0:0<k)(hsm:len*k<=65536)(hl:us.length=len)(hp:parts.toList=(us.zipIdx 0).map λx=>(x.2,x.1))(hus:∀u∈us,u.cells.size=k) :
  (Instr.buildSlice t len parts).run P w=.ok (.slice (some ⟨w.heap.size,0,none⟩) len len) (w.alloc (.cells (us.flatMap λu=>u.cells.toList).toArray et)):=by
 obtain⟨b,hb⟩:=hb;obtain⟨i,z,hi,a5,a4,_,a6⟩:=iS hz hk hb
 have a2:∀cells:Array Value,cells.size=len*k->Instr.fill (λj=>some (j*k,k)) cells parts.toList=some (us.flatMap λu=>u.cells.toList).toArray:=λcells hc=>by
  rw[hp];exact Great.fill_whole hk0 us cells hus (by rw[hl,hc])
 by_cases h0:len*k=0
 ·have hf:=a2 ((Array.range (len*k)).map ((#[]:Array Value)[·%(#[]:Array Value).size]!)) (by simp);have a3:¬len*k > 2^24:=by omega
  simp[Instr.buildSlice,run_underlying hu,bF hk,a3,h0,newRow];simp[h0]at hf;rw[hf];simp
 ·have:=run_buildSlice (P:=P) w t et len parts (us.flatMap λu=>u.cells.toList).toArray i z hu hi a5 (by rw[a4];omega) (by rw[a4];exact h0) (by rw[a4];exact a2 _ (by simp));exact this
def zue{own:List Nat}{t:TypeId}{len:Nat}{parts:Array (Nat×Operand)}(hop:o.op=.buildSlice t len parts)(hd:J0 B.n o=true)(hbyt:∀et,R7 P t=some et->∃b,byteOf P et=some b)(h:tF P own o X K t len parts):∃fx,K fx/\Eff P B o fx.rd X fx.wr:=by
 unfold tF at h;split at h
 ·rename_i d et a2 c0;have c7:=Z8 c0;split at h
  ·rename_i k vs bs hk b3;obtain⟨b4,h⟩:=h.ok;simp only[O2]at b4;obtain⟨⟨⟨⟨c1,c2⟩,c3⟩,c4⟩,c5⟩:=b4;have a6:vs.length=len:=by simpa using c1
   have c6:=gQ c2;have b2:=aK c3;have b7:∀v∈vs,(X4 v).length=k:=λv hv=>by simpa using R3.1 c5 v hv
   obtain⟨b9,h⟩:=h.out
   have F8:∀X' a w Y,SatR B X' a w Y->(∀y∈opdL (parts.toList.map (·.2)),X' y=X y)->N3 X X' bs->∃us:List Value,(execOp a.eval o).run P w=.ok (.value (.slice (some ⟨w.heap.size,0,none⟩) len len)) (w.alloc (.cells us.toArray et)) /\
     us.length=len*k/\X3 w (Imm B (app X' (fwr bs)) Y w) us (vs.map X4).flatten/\(∀u∈us,u.oneCell'=true):=λX' a w Y hs hag1 hsame=>by
    have c9:∀p∈bs,X'.gn p.1=p.2:=λp hp=>by
     rw[<- b9 p hp];exact S2 (hsame (.gen p.1) (by unfold frd;exact fE.2 ⟨p,hp,by simp⟩))
    obtain⟨r1,r2⟩:=CB hs c9 b3 hag1 hsame (λ_ h=>h);obtain⟨r3,r4,r5⟩:=flat_reps b2 r2 b7;have b8:=CV (P:=P) (w:=w) (parts:=parts.map λp=>(p.1,a.eval p.2)) c7 hk c4 (hbyt et c0) b2 c6 (by rw[r2.1,a6]) (by rw[fF];exact r1) r3;refine⟨_,?_,?_,r4,r5⟩
    ·simp only[execOp,hop,Sem.run_bind,b8,Result.andThen_ok,Sem.run_pure]
    ·rw[r4.1,R1 (k:=k) (λx hx=>by obtain⟨v,hv,rfl⟩:=H0.1 hx;exact b7 v hv),B7,a6]
   have a5:∀x∈vs.map X4,x.length=k:=λx hx=>by obtain⟨v,hv,rfl⟩:=H0.1 hx;exact b7 v hv
   have d0:len<=65536:=aP (Nat.le_mul_of_pos_right len b2) c6;split at h
   ·refine⟨_,h,λX' hag a w ⟨Y,hs⟩ K' Q hK=>?_⟩;obtain⟨us,run,a8,a4,a7⟩:=F8 X' a w Y hs (G3 (G3 hag)) (I1 (G3 hag));obtain⟨a3,_⟩:=hs.kills bs;unfold Oper.wp;rw[run,Oper.upon_value,a2];refine hK _ _ ⟨setY Y d (.slice (some ⟨w.heap.size,0,none⟩) len len),?_⟩
    have hg:(app X' (fwr bs)).gn d=X.gn d:=by
     rw[iL];exact S2 (I1 hag (.gen d) (by simp))
    have m:jK (app X' (fwr bs)) w (w.alloc (.cells us.toArray et)) Y none (.slice (some ⟨w.heap.size,0,none⟩) len len) none :=
     ⟨World.grownBy_alloc w _ none,(λb e=>by cases e),λb e=>.inr (by simp only[F6,D6]at e;omega)⟩
    have c8:=a3.new (d:=d) (k:=.row et k (vs.map X4)) (cs:=[]) m rfl λhI _=>by
     refine⟨us,b2,a5,by rw[B7,a6];omega,?_,a4.1,a7,λi u x hu hx=>hI _ _ (a4.2 i u x hu hx)⟩;simp only[setY,if_pos,B7,a6];exact⟨a8,.inr ⟨w.heap.size,len,us.toArray,rfl,D8 _,heap_alloc_new w _,F9 _,by unfold maxLen;omega,by simpa using a8,by rw[<- a8];simp⟩⟩
    show SatR B (app X' (fwr bs++(L9 X d (.row et k (vs.map X4))++[(.tmp d,.av (.osl d (X.gn d+1)))]))) _ _ _;rw[L5];have:=jP (X:=X) (X':=app X' (fwr bs)) (k:=.row et k (vs.map X4)) (cs:=[]) (v:=.osl d (X.gn d+1)) hg;simp only[Q1,W8]at this;rw[this,<- hg];exact pZ c8 rfl (U6 hd a2)
   ·split at h
    ·refine⟨_,h,λX' hag a w ⟨Y,hs⟩ K' Q hK=>?_⟩;obtain⟨us,run,a8,a4,a7⟩:=F8 X' a w Y hs (G3 hag) (I1 hag);obtain⟨a3,_⟩:=hs.kills bs;unfold Oper.wp;rw[run,Oper.upon_value,a2];have a9:Below w.heap.size w (w.alloc (.cells us.toArray et)):=(Below.refl _ _).alloc (F9 _) _;obtain⟨b5,hI⟩:=a3.world a9;refine hK _ _ ⟨Y,?_⟩;show SatR B (app X' (fwr bs++[(.tmp d,.av (.im (.nsl (vs.map X4))))])) _ _ _;rw[L5];refine b5.put (d:=some d) (λt e=>by injection e with e;subst e;exact U6 hd a2) (.im _ _ ?_);refine .nsl _ _ _ _ (.sl w.heap.size 0 len k len _ us (by rw[B7,a6]) a5 (F9 _) (by omega) ⟨.inr (.inl hs.bel.size),by simp,λp b6=>?_,λhz=>?_⟩ a4.1 a7 (λi u hu=>?_) λi u x hu hx=>hI _ _ (a4.2 i u x hu hx))
     ·have:=(a3.own p _ b6).2;omega
     ·have:=(a3.res _ hz).1.2;omega
     ·rw[E8];unfold World.cell?;simp only[heap_alloc_new];simpa using hu
    ·refine⟨_,h,λX' hag a w ⟨Y,hs⟩ K' Q hK=>?_⟩;obtain⟨us,run,a8,a4,a7⟩:=F8 X' a w Y hs (G3 hag) (I1 hag);obtain⟨a3,_⟩:=hs.kills bs;unfold Oper.wp;rw[run,Oper.upon_value,a2];have a9:Below w.heap.size w (w.alloc (.cells us.toArray et)):=(Below.refl _ _).alloc (F9 _) _;obtain⟨b5,hI⟩:=a3.world a9;refine hK _ _ ⟨Y,?_⟩;show SatR B (app X' (fwr bs++[(.tmp d,.av (.im (.sl (vs.map X4))))])) _ _ _;rw[L5];refine b5.put (d:=some d) (λt e=>by injection e with e;subst e;exact U6 hd a2) (.im _ _ ?_);refine .sl w.heap.size 0 len k len _ us (by rw[B7,a6]) a5 (F9 _) (by omega) ⟨.inr (.inl hs.bel.size),by simp,λp b6=>?_,λhz=>?_⟩ a4.1 a7 (λi u hu=>?_) λi u x hu hx=>hI _ _ (a4.2 i u x hu hx)
     ·have:=(a3.own p _ b6).2;omega
     ·have:=(a3.res _ hz).1.2;omega
     ·rw[E8];unfold World.cell?;simp only[heap_alloc_new];simpa using hu
  ·exact h.elim
 ·exact h.elim
end
end
section
section
variable {P:Program}{B:Base}{o:Oper}{X:St}{K:Fx->Prop}
def one_cells{v:Value}(h1:v.oneCell'=true):v.cells=#[v]:=by revert h1;cases v<;>simp[Value.oneCell',Value.cells]
def imm_block{a:Act}{w w':World}{Y:Ly}(hs:SatR B X a w Y){q:Option Nat}(hg:w.grownBy w' q)(hq:∀b,q=some b->∃o,Owns X Y o b):∀u x,RepI w (Imm B X Y w) u x->RepI w' (Imm B X Y w) u x:=λu x h =>
 h.mono (λ_ hb=>hb) λp v hb hc=>by
  rw[World.cell?_of_block (hg.block p.block hb.2.1 λe=>by
   obtain⟨o,ho⟩:=hq p.block e.symm
   exact hb.2.2.1 o ho)]
  exact hc
def aBuildG_ok{t:TypeId}{len:Nat}{parts:Array (Nat×Operand)}(hop:o.op=.buildSlice t len parts)(hd:J0 B.n o=true)(hbyt:∀et,R7 P t=some et->∃b,byteOf P et=some b)(h:aBuildG P o X K t len parts):∃fx,K fx/\Eff P B o fx.rd X fx.wr:=by
 unfold aBuildG at h;split at h
 ·rename_i d et x a9 b7 a5;have b9:=Z8 b7;split at h
  ·rename_i k r gr hk hx;split at h
   ·rename_i e' k' es c8;obtain⟨a8,h'⟩:=h.ok;clear h;simp only[O2]at a8;obtain⟨⟨c1,c2⟩,c3⟩:=a8;have c1:=O5 c1;have c2:=O5 c2;subst c1 c2;obtain⟨b6,h⟩:=h'.out;have h:=h.out;refine⟨_,h,λX' hag a w ⟨Y,hs⟩ K' Q hK=>?_⟩;have b8:=G3 (G3 hag);have b4:N3 X X' [(r,gr)]:=I1 (G3 hag);have a6:=I1 hag;obtain⟨b3,a4,_⟩:=b4.mem (p:=(r,gr)) (by simp);have b3:X'.gn r=gr:=b3.trans (b6 (r,gr) (by simp));have a4:=a4.trans c8;have h1:=E6 hs x;rw[E5 b8,hx]at h1
    have hv:a.eval x=Y r:=by
     generalize a.eval x=v at h1;cases h1 with
     |osl _ _ _ _ _ hh=>exact hh b3
    have ho:=hs.obs r;rw[a4]at ho;have a3:(Y r).oneCell'=true:=P0.one (inn:=Y.inn r) (k:=.row e' k' es) ho
    have a7:=CV (P:=P) (w:=w) (len:=1) (k:=1) (parts:=parts.map λp=>(p.1,a.eval p.2)) (us:=[Y r]) b9 hk c3 (hbyt et b7) (by omega) (by omega) rfl (by rw[fF,a5];simp[hv]) (λu hu=>by
     rw[I7]at hu
     rw[hu,one_cells a3]
     rfl)
    have d0:([Y r].flatMap λu=>u.cells.toList)=[Y r]:=by simp[one_cells a3]
    rw[d0]at a7
    have run:(execOp a.eval o).run P w=.ok (.value (.slice (some ⟨w.heap.size,0,none⟩) 1 1)) (w.alloc (.cells [Y r].toArray et)):=by
     simp only[execOp,hop,Sem.run_bind,a7,Result.andThen_ok,Sem.run_pure]
    unfold Oper.wp;rw[run,Oper.upon_value,a9];refine hK _ _ ?_;have c6:Below w.heap.size w (w.alloc (.cells [Y r].toArray et)):=(Below.refl _ _).alloc (F9 _) _;have hI:∀u y,RepI w (Imm B X' Y w) u y->RepI (w.alloc (.cells [Y r].toArray et)) (Imm B X' Y w) u y:=imm_block hs (World.grownBy_alloc w _ none) λb e=>by cases e
    have c0:K4 X' Y [(r,gr)]=fpk (Y r) (Y.inn r) (.row e' k' es):=by
     unfold K4;rw[S6,oI,W8,a4]
    have c9:fpk (Y r) (Y.inn r) (.row e' k' es)=(F6 (Y r)).toList:=by
     unfold fpk;rfl
    have a2:∀b∈K4 X' Y [(r,gr)],b<w.heap.size:=λb hb=>by
     obtain⟨p,_,ho⟩:=bK.1 hb;exact(hs.own p.1 b ho).2
    have hF:fpv (.slice (some ⟨w.heap.size,0,none⟩) 1 1) [Y r]=w.heap.size::K4 X' Y [(r,gr)]:=by
     rw[c0,c9];unfold fpv;rw[gB];show w.heap.size::List.filterMap F6 [Y r]=_;congr 1
    have c7:∀t,some d=some t->t<B.n:=λt e=>by injection e with e;subst e;exact U6 hd a9
    have b5:∀b∈K4 X' Y [(r,gr)],¬Imm B X' Y w b:=λb hb hi=>by
     obtain⟨p,_,ho⟩:=bK.1 hb;exact hi.2.2.1 p.1 ho
    have b2:=P0.mono (inn:=Y.inn r) (k:=.row e' k' es) (w':=w.alloc (.cells [Y r].toArray et)) ho (λb hb=>heap_alloc_old _ _ (a2 b (by rw[c0];exact hb))) hI
    obtain⟨Y',g1,g2,_⟩:=nC hs [(r,gr)] (by simp) (S':=Imm B X' Y w) (v:=.slice (some ⟨w.heap.size,0,none⟩) 1 1) (ps:=[]) (U:=X) (tp:=false) (d:=d) (l:=[.ow (.grid et e' k' [[IV.sl es]] none)]) (ys:=[]) (F':=w.heap.size::K4 X' Y [(r,gr)]) (bx:=[]) (bl:=[]) (ss':=[]) (va:=.osl d (X.gn d+1))
     (.of c6) (λb hb=>⟨.inl hb,by have:=hb.2.1;simp;omega,λhm=>by
      rcases M4.1 hm with e|hm
      ·have:=hb.2.1;omega
      ·exact b5 b hm hb⟩)
     ⟨_,_,[],rfl,⟨_,[],⟨rfl,[Y r],⟨by rw[hF];exact aR.2 ⟨λhm=>by have:=a2 _ hm;omega,iU hs (by simp)⟩,rfl,[Y r],by simp,⟨rfl,.inr ⟨w.heap.size,1,[Y r].toArray,rfl,D8 _,heap_alloc_new w _,F9 _,by unfold maxLen;omega,rfl,rfl⟩⟩,λu hu=>by rw[I7]at hu;rw[hu];exact a3,λi u hu=>.inr ⟨hu,es,by
      cases i with
      |zero=>rfl
      |succ i=>simp at hu,by
      cases i with
      |zero =>
       simp at hu
       subst hu
       exact b2
      |succ i=>simp at hu⟩⟩,rfl⟩,rfl,rfl⟩,rfl,by
      show w.heap.size::K4 X' Y [(r,gr)]=(fpv (.slice (some ⟨w.heap.size,0,none⟩) 1 1) [Y r]++[])++[]
      rw[hF]
      simp⟩
     (aR.2 ⟨λhm=>by have:=a2 _ hm;omega,iU hs (by simp)⟩)
     (λb hb=>by
      rcases M4.1 hb with e|hb
      ·exact⟨.inl (by omega),by rw[e];simp⟩
      ·exact⟨.inr hb,by have:=a2 b hb;simp;omega⟩)
     rfl rfl (by simp) rfl (by simp[H8,ocPl]) (λx _=>by simp) (λp hp=>by
      obtain⟨h5,h6⟩:=mX hp
      exact⟨S2 (a6 _ h5),fN (a6 _ h6)⟩)
    refine⟨Y',?_⟩;show SatR B (app X' (fwr [(r,gr)]++(K5 X [(d,.grid et e' k' [[IV.sl es]] none)]++[(.tmp d,.av (.osl d (X.gn d+1)))]))) _ _ _;rw[L5,L5];exact g1.put (d:=some d) c7 g2
   ·exact h.elim
  ·exact h.elim
 ·exact h.elim
def aAppendG_ok{c:Call}{t:TypeId}{x y:Operand}{b2 gc:Nat}(hop:o.op=.call c)(hc:c.callee=.builtin .append)(hargs:c.args=#[x,y])(hts:c.argTypes=#[t,t])(hy:evA X y=.osl b2 gc)(hd:J0 B.n o=true)(h:aAppendG P o X K t x y b2 gc):∃fx,K fx/\Eff P B o fx.rd X fx.wr:=by
 unfold aAppendG at h;split at h
 ·rename_i d et e e' k a9 d2 h8 b6;have g4:=Z8 h8;split at h
  ·rename_i m by_ b gb hm h9 hx;split at h
   ·rename_i e1 e6 k1 gs b9;obtain⟨c9,h'⟩:=h.ok;clear h;simp only[O2,rQ]at c9;obtain⟨⟨⟨⟨⟨⟨c1,c2⟩,c3⟩,c4⟩,c5⟩,c6⟩,c7⟩:=c9;have c1:=O5 c1;have c2:=O5 c2;have c3:=O5 c3;have c4:=O5 c4;have c5:=O5 c5;have f6:b≠b2:=λe=>by rw[e]at c7;simp at c7
    subst c1 c2 c4 c5;subst c3;obtain⟨d1,h⟩:=h'.out;obtain⟨b5,h⟩:=h.out;have h:=h.out;obtain⟨i,z,hi,hz,e7,b8,h7⟩:=iS c6 hm h9;refine⟨_,h,λX' hag a w ⟨Y,hs⟩ K' Q hK=>?_⟩;have f7:=G3 (G3 (G3 hag));have g7:=I1 (G3 (G3 hag));have b4:N3 X X' [(b,gb),(b2,gc)]:=I1 (G3 hag);have c8:=I1 hag;obtain⟨d9,g5,_⟩:=b4.mem (p:=(b,gb)) (by simp);obtain⟨e3,f5,_⟩:=b4.mem (p:=(b2,gc)) (by simp);have d9:X'.gn b=gb:=d9.trans (d1 (b,gb) (by simp));have e3:X'.gn b2=gc:=e3.trans (d1 (b2,gc) (by simp));have b9:=g5.trans b9;have b6:=f5.trans b6;have h1:=E6 hs x;rw[E5 f7,hx]at h1;have h2:=E6 hs y;rw[E5 g7,hy]at h2
    have g9:a.eval x=Y b:=by
     generalize a.eval x=v at h1;cases h1 with
     |osl _ _ _ _ _ hh=>exact hh d9
    have i0:a.eval y=Y b2:=by
     generalize a.eval y=v at h2;cases h2 with
     |osl _ _ _ _ _ hh=>exact hh e3
    obtain⟨ub,nb,lb,i7,a7,g6,i5,f8⟩:=gT hs b9;obtain⟨uc,nc,lc,i8,d3,d5,i6,f9⟩:=gT hs b6
    obtain⟨A,cp,i3,c0⟩:∃(A:Option Addr) (cp:Nat),Y b2=.slice A a9.length cp/\(0<a9.length->∃bb q,A=some ⟨bb,q,none⟩/\∀(j:Nat) u,uc[j]?=some u->w.cell? ⟨bb,q+j,none⟩=some u):=by
     rcases d3.2 with⟨e0,h0⟩|⟨q,i4,cur,e0,_⟩
     ·exact⟨none,0,by rw[e0,h0],λh=>by omega⟩
     ·exact⟨_,i4,e0,λ_=>⟨q,0,rfl,λj u hu=>by rw[E8];exact sE d3 e0 hu⟩⟩
    obtain⟨v',w',f3,a6,a2,e9⟩:=lJ (P:=P) (w:=w) 0 t o.type e1 i z 1 by_ g4 hi hz e7 b8 h7 (by omega) (Y b) gs.length ub a7 A a9.length cp uc (by rw[i6,fH]) c0 d5 (by unfold maxLen;have:=b5.2;omega) (by exact b5.1) (D8 _)
    have run:(execOp a.eval o).run P w=.ok (.value v') w':=by
     have e0:(Builtin.append_ #[t,t] o.type #[a.eval x,a.eval y]).run P w=.ok v' w':=by rw[g9,i0,i3];exact f3
     simp[execOp,hop,resolve,hc,hargs,hts,invoke,builtin,e0]
    unfold Oper.wp;rw[run,Oper.upon_value,d2];refine hK _ _ ?_
    have b7:K4 X' Y [(b,gb),(b2,gc)]=fpv (Y b) (Y.inn b)++fpv (Y b2) (Y.inn b2):=by
     unfold K4;rw[S6,S6,oI,W8,b9,b6];rfl
    have a4:(K4 X' Y [(b,gb),(b2,gc)]).Nodup:=iU hs (by simp[f6])
    have a5:∀q∈K4 X' Y [(b,gb),(b2,gc)],q<w.heap.size:=λq hq=>by
     obtain⟨p,_,ho⟩:=bK.1 hq;exact(hs.own p.1 q ho).2
    have e2:∀q∈K4 X' Y [(b,gb),(b2,gc)],¬Imm B X' Y w q:=λq hq hi=>by
     obtain⟨p,_,ho⟩:=bK.1 hq;exact hi.2.2.1 p.1 ho
    have d6:∀q,(Y b).ownBlock=some q->q∈K4 X' Y [(b,gb),(b2,gc)]:=λq hq=>by
     rw[dU a7]at hq;rw[b7];refine K9 _ ?_;unfold fpv;rw[gB,hq];exact U9 ..
    have hI:∀u y,RepI w (Imm B X' Y w) u y->RepI w' (Imm B X' Y w) u y:=imm_block hs a2 λq hq=>by
     obtain⟨p,_,ho⟩:=bK.1 (d6 q hq);exact⟨p.1,ho⟩
    -- where the new row of rows lies
    have a3:((Y.inn b++Y.inn b2).filterMap F6).Sublist (K4 X' Y [(b,gb),(b2,gc)]):=by
     rw[b7,yS];refine List.Sublist.append ?_ ?_
     ·unfold fpv;rw[gB];split
      ·exact List.Sublist.refl _
      ·exact uN _ _
     ·unfold fpv;rw[gB];split
      ·exact List.Sublist.refl _
      ·exact uN _ _
    have d4:fpv v' (Y.inn b++Y.inn b2)=(F6 v').toList++(Y.inn b++Y.inn b2).filterMap F6:=by
     unfold fpv;rw[gB];cases F6 v'<;>rfl
    have a8:∀q,F6 v'=some q->(q=w.heap.size\/F6 (Y b)=some q)/\q<w'.heap.size:=λq hq=>by
     refine⟨?_,(a6.lt q (show v'.ownBlock=some q by rw[dU a6];exact hq)).2⟩;rw[<- dU a6]at hq;rcases e9 with e|e
     ·right;rw[<- dU a7,<- e];exact hq
     ·left;rw[e]at hq;exact(Option.some.inj hq).symm
    have f4:(fpv v' (Y.inn b++Y.inn b2)).Nodup:=by
     rw[d4];have h3:=a3.nodup a4;cases hq:F6 v' with
     |none=>exact h3
     |some q =>
      refine aR.2 ⟨λhm=>?_,h3⟩;rcases (a8 q hq).1 with e|e
      ·have:=a5 q (a3.subset hm);omega
      ·have hm:q∈(Y.inn b++Y.inn b2).filterMap F6:=hm
       have hm:q∈(Y.inn b).filterMap F6\/q∈(Y.inn b2).filterMap F6:=by
        rw[<- I2,<- yS];exact hm
       rw[b7,V5]at a4
       have d7:fpv (Y b) (Y.inn b)=q::(Y.inn b).filterMap F6:=by
        unfold fpv;rw[gB,e]
       rw[d7]at a4;rcases hm with hm|hm
       ·exact(aR.1 a4.1).1 hm
       ·refine a4.2.2 q (U9 ..) q ?_ rfl;unfold fpv;rw[gB];split
        ·exact hm
        ·exact M7 _ hm
    have b3:∀u∈Y.inn b++Y.inn b2,∀q,F6 u=some q->w'.heap[q]?=w.heap[q]?:=λu hu q hq=>by
     have hm:q∈(Y.inn b++Y.inn b2).filterMap F6:=dK.2 ⟨u,hu,hq⟩;refine a2.block q (a5 q (a3.subset hm)) λe=>?_;rw[dU a7]at e
     have hm:q∈(Y.inn b).filterMap F6\/q∈(Y.inn b2).filterMap F6:=by
      rw[<- I2,<- yS];exact hm
     rw[b7,V5]at a4
     have d7:fpv (Y b) (Y.inn b)=q::(Y.inn b).filterMap F6:=by
      unfold fpv;rw[gB,<- e]
     rw[d7]at a4;rcases hm with hm|hm
     ·exact(aR.1 a4.1).1 hm
     ·refine a4.2.2 q (U9 ..) q ?_ rfl;unfold fpv;rw[gB];split
      ·exact hm
      ·exact M7 _ hm
    have e5:cY w' (Imm B X' Y w) v' (Y.inn b++Y.inn b2) e1 e6 k1 (gs++a9) none:=by
     refine⟨f4,by rw[H4,H4,lb,lc],ub++uc,by rw[H4];have:=b5.2;omega,by rw[H4];exact a6,λu hu=>?_,λj u hu=>.inr ?_⟩
     ·rcases I2.1 hu with hu|hu
      ·exact g6 u hu
      ·exact d5 u hu
     ·have d0:=G6 hu;have el:ub.length=(Y.inn b).length:=i5.trans lb.symm;have d8:gs.length=(Y.inn b).length:=lb.symm;by_cases hj:j<(Y.inn b).length
      ·rw[N6 hj]at hu;obtain⟨g1,es,g2,g3⟩:=f8 j u hu;refine⟨by rw[N6 (by rw[el];exact hj)];exact g1,es,by rw[N6 (by rw[d8];exact hj)];exact g2,g3.mono (b3 u d0) hI⟩
      ·have e4:(Y.inn b).length<=j:=oH hj;rw[S7 e4]at hu;obtain⟨g1,es,g2,g3⟩:=f9 _ u hu;refine⟨by rw[S7 (by rw[el];exact e4),el];exact g1,es,by rw[S7 (by rw[d8];exact e4),d8];exact g2,g3.mono (b3 u d0) hI⟩
    have hF:∀q∈fpv v' (Y.inn b++Y.inn b2),(w.heap.size<=q\/q∈K4 X' Y [(b,gb),(b2,gc)])/\q<w'.heap.size:=λq hq=>by
     rw[d4]at hq;rcases I2.1 hq with hq|hq
     ·have hq:F6 v'=some q:=by simpa using hq
      obtain⟨h3,h4⟩:=a8 q hq;refine⟨?_,h4⟩;rcases h3 with e|e
      ·exact .inl (by omega)
      ·exact .inr (d6 q (by rw[dU a7];exact e))
     ·have h3:=a3.subset hq;have:=a5 q h3;have:=a2.size;exact⟨.inr h3,by omega⟩
    have g8:∀t,some d=some t->t<B.n:=λt e=>by injection e with e;subst e;exact U6 hd d2
    have e8:v'.oneCell'=true:=row_one a6
    obtain⟨Y',g1,g2,_⟩:=nC hs [(b,gb),(b2,gc)] (by simp[f6]) (S':=Imm B X' Y w) (v:=v') (ps:=[]) (U:=X) (tp:=false) (d:=d) (l:=[.ow (.grid e1 e6 k1 (gs++a9) none)]) (ys:=[]) (F':=fpv v' (Y.inn b++Y.inn b2)) (bx:=[]) (bl:=[]) (ss':=[]) (va:=.osl d (X.gn d+1))
     ⟨a2.os,a2.tape,a2.output,a2.size,λq hq hn=>a2.block q hq λe=>hn (d6 q e.symm)⟩ (λq hq=>⟨.inl hq,by have:=hq.2.1;have:=a2.size;omega,λhm=>by
      rcases (hF q hm).1 with e|e
      ·have:=hq.2.1;omega
      ·exact e2 q e hq⟩)
     ⟨_,_,[],rfl,⟨_,[],⟨e8,Y.inn b++Y.inn b2,e5,rfl⟩,rfl,rfl⟩,rfl,by
      show fpv v' (Y.inn b++Y.inn b2)=(fpv v' (Y.inn b++Y.inn b2)++[])++[]
      simp⟩
     f4 hF rfl rfl (by simp) rfl (by simp[H8,ocPl]) (λx _=>by simp) (λp hp=>by
      obtain⟨h5,h6⟩:=mX hp
      exact⟨S2 (c8 _ h5),fN (c8 _ h6)⟩)
    refine⟨Y',?_⟩;show SatR B (app X' (fwr [(b,gb),(b2,gc)]++(K5 X [(d,.grid e1 e6 k1 (gs++a9) none)]++[(.tmp d,.av (.osl d (X.gn d+1)))]))) _ _ _;rw[L5,L5];exact g1.put (d:=some d) g8 g2
   ·exact h.elim
  ·exact h.elim
 ·exact h.elim
end
end
section
variable {n:Nat}{t:TypeId}{ks:A2}
open Go.RowKit Go.ChangeMaps
section
variable {P:Program}{B:Base}{o:Oper}{X:St}{K:Fx->Prop}
def arr_spec{t e:TypeId}(h:arrOf P t=some (n,e)):P.underlying t=some (.array n e):=by
 unfold arrOf at h;split at h
 ·rename_i n' e' hu;simp only[D6,H5]at h;rw[hu,h.1,h.2]
 ·cases h
def BC(h:intArr P t=some n):∃e,P.underlying t=some (.array n e)/\P.underlying e=some (.int .i64)/\szOf P e=some 1:=by
 unfold intArr at h;split at h
 ·rename_i n' e he;split at h
  ·rename_i h1 h2;injection h with h
   subst h;exact⟨e,arr_spec he,h1,h2⟩
  ·cases h
 ·cases h
def flat_sing{V G:Type}(f:V->G):∀cs:List V,(cs.map λv=>[f v]).flatten=cs.map f
 |[]=>rfl
 |c::cs=>by rw[M2,V4,flat_sing f cs];rfl
def aAllocA_ok(hop:o.op=.alloc t)(hd:J0 B.n o=true)(h:aAllocA P o X K t):∃fx,K fx/\Eff P B o fx.rd X fx.wr:=by
 unfold aAllocA at h;split at h
 ·rename_i d cs a4 hz;obtain⟨a2,h⟩:=h.ok;simp only[O2]at a2;have a5:=a2.1.1;have b2:=aK a2.1.2;have a9:=gQ a2.2;have h:=h.out;refine⟨_,h,λX' hag a w ⟨Y,hs⟩ K' Q hK=>?_⟩;have hg:X'.gn d=X.gn d:=S2 (hag (.gen d) (by simp))
  obtain⟨z,a8,a7⟩:∃z:Value,(∀w,(zeroValue t).run P w=.ok z w)/\z.cells.toList=cs:=by
   unfold zeroOf at hz;split at hz
   ·rename_i i hi;cases hz0:i.zero with
    |none=>rw[hz0]at hz;cases hz
    |some z =>
     rw[hz0]at hz;simp only[J4,D6]at hz;exact⟨z,λw=>by simp[zeroValue,typeInfo,hi,hz0],hz⟩
   ·cases hz
  have run:(execOp a.eval o).run P w=.ok (.value (.pointer (some ⟨w.heap.size,0,none⟩))) (w.alloc (.cells cs.toArray t)):=by
   rw[<- a7];simp[execOp,hop,Instr.alloc,a8,newVar,newRow]
  unfold Oper.wp;rw[run,Oper.upon_value,a4]
  let hv:Value:=.slice (some ⟨w.heap.size,0,none⟩) cs.length cs.length
  refine hK _ _ ⟨setY Y d hv,?_⟩
  have m:jK X' w (w.alloc (.cells cs.toArray t)) Y none hv none :=
   ⟨World.grownBy_alloc w _ none,(λb e=>by cases e),λb e=>.inr (by simp only[hv,F6,D6]at e;omega)⟩
  have a3:(cs.map λv=>[nz1 (IV.val v)]).flatten=cs.map λv=>nz1 (.val v):=flat_sing (λv=>nz1 (IV.val v)) cs
  have a6:=hs.new (d:=d) (k:=.row t 1 (cs.map λv=>[nz1 (.val v)])) (cs:=[]) m rfl λhI _=>by
   refine⟨cs,by omega,λx hx=>by obtain⟨u,_,rfl⟩:=H0.1 hx;rfl,by rw[B7];omega,?_,by rw[a3];simp,λu hu=>R3.1 a5 u hu,λi u x hu hx=>?_⟩
   ·simp only[setY,if_pos,B7];refine⟨by simp,.inr ⟨w.heap.size,cs.length,cs.toArray,rfl,D8 _,heap_alloc_new w _,F9 _,by unfold maxLen;omega,by simp,by simp⟩⟩
   ·rw[a3,H1,hu]at hx;injection hx with hx
    subst hx;exact iP (.val u)
  have:=jP (X:=X) (X':=X') (k:=.row t 1 (cs.map λv=>[nz1 (.val v)])) (cs:=[]) (v:=.elt d (X.gn d+1) 1 0 0) hg;simp only[Q1,W8]at this;show SatR B (app X' (L9 X d (.row t 1 (cs.map λv=>[nz1 (.val v)]))++[(.tmp d,.av (.elt d (X.gn d+1) 1 0 0))])) _ _ _;rw[this,<- hg];exact a6.put (d:=some d) (λt e=>by injection e with e;subst e;exact U6 hd a4) (.elt _ _ _ _ _ _ rfl (by rw[kU,if_pos rfl];omega) λ_=>⟨w.heap.size,0,cs.length,cs.length,by simp[setY,hv],by simp⟩)
 ·exact h.elim
def aAllocs_ok(hop:o.op=.alloc t)(hd:J0 B.n o=true)(h:aAllocs P o X K t):∃fx,K fx/\Eff P B o fx.rd X fx.wr:=by
 unfold aAllocs at h;split at h
 ·split at h
  ·exact aAlloc_ok hop hd h
  ·exact aAllocA_ok hop hd h
 ·exact aAlloc_ok hop hd h
def aIndexA_ok{t et:TypeId}{x i:Operand}(hop:o.op=.indexAddr t x i)(ht:arrOf P t=some (n,et))(hd:J0 B.n o=true)(h:aIndexA P o X K n et x i):∃fx,K fx/\Eff P B o fx.rd X fx.wr:=by
 have hu:=arr_spec ht;unfold aIndexA at h;split at h
 ·rename_i kk j m hi hm
  have run:∀(a:Act) w q p,a.eval x=.pointer (some ⟨q,p,none⟩)->a.eval i=.int kk j->0<=j->j<n->(execOp a.eval o).run P w=.ok (.value (.pointer (some ⟨q,p+j.toNat*m,none⟩))) w:=λa w q p hv hn h0 a3=>by
   have hz:=bF hm w;have h3:0<=j/\j<(n:Int):=⟨h0,a3⟩;simp only[execOp,hop,hv,hn,Instr.indexAt,asIntOf,Instr.sureAddr,Sem.run_bind,Sem.run_pure,Result.andThen_ok,run_underlying hu,if_pos h3,hz,addr_add]
  split at h
  ·rename_i b g k p q hx
   have a5:∀(X':St),(∀y∈opd x++opd i++[Loc.gen b],X' y=X y)->∀a w Y,SatR B X' a w Y->X.gn b=g->∃v,a.eval x=v/\RepA w (Imm B X' Y w) Y X'.gn v (.elt b g k p q)/\a.eval i=.int kk j/\X'.gn b=g:=λX' hag a w Y hs hg=>by
    have h1:=E6 hs x;have h2:=E6 hs i;rw[E5 (G3 (G3 hag)),hx]at h1;rw[E5 (I1 (G3 hag))]at h2;exact⟨_,rfl,h1,U4 hi h2,(S2 (I1 hag (.gen b) (by simp))).trans hg⟩
   split at h
   ·rename_i hc;simp only[O2,Nat.beq_eq]at hc;obtain⟨⟨⟨rfl,rfl⟩,rfl⟩,rfl⟩:=hc;obtain⟨⟨h0,a3,hg⟩,h⟩:=h.out;refine⟨_,h,Eff.pure hd λX' hag a w Y hs=>?_⟩;obtain⟨v,hv,h1,h2,hg'⟩:=a5 X' hag a w Y hs hg;cases h1 with
    |elt _ _ _ _ _ _ a2 hgg hh =>
     obtain⟨q0,z0,n0,c0,e1,e2⟩:=hh hg';subst e2;have a4:=run a w q0 (z0+(0*1+0)) hv h2 h0 a3;exact⟨_,a4,.elt _ b g 1 j.toNat 0 rfl hgg λ_=>⟨q0,z0,n0,c0,e1,by simp⟩⟩
   ·obtain⟨⟨h0,a3,hg⟩,h⟩:=h.out;refine⟨_,h,Eff.pure hd λX' hag a w Y hs=>?_⟩;obtain⟨v,hv,h1,h2,hg'⟩:=a5 X' hag a w Y hs hg;cases h1 with
    |elt _ _ _ _ _ _ a2 hgg hh =>
     obtain⟨q0,z0,n0,c0,e1,e2⟩:=hh hg';subst e2;have a4:=run a w q0 _ hv h2 h0 a3;exact⟨_,a4,.elt _ b g k p (q+j.toNat*m) rfl hgg λ_=>⟨q0,z0,n0,c0,e1,by rw[Y7,Y7]⟩⟩
  ·rename_i cs hx;obtain⟨⟨h0,a3⟩,h⟩:=h.out;refine⟨_,h,Eff.pure hd λX' hag a w Y hs=>?_⟩;have h1:=E6 hs x;have h2:=E6 hs i;rw[E5 (G3 hag),hx]at h1;rw[E5 (I1 hag)]at h2;have hn:=U4 hi h2;have h1:=h1.im_inv;generalize hv:a.eval x=v at h1;cases h1 with
   |ref b q us _ hS hl a2 hu' hr =>
    refine⟨_,run a w b q hv hn h0 a3,.im _ _ (.ref b (q+j.toNat*m) (us.drop (j.toNat*m)) (cs.drop (j.toNat*m)) hS (by simp[hl]) (λu a6=>a2 u (bX a6)) (λp u hj=>?_) λp u y hj hy=>?_)⟩
    ·rw[aB]at hj;have:=hu' _ u hj
     rwa [<- Y7]at this
    ·rw[aB]at hj hy;exact hr _ u y hj hy
  ·rename_i b g p hx;obtain⟨⟨h0,a3,hg⟩,h⟩:=h.out;refine⟨_,h,Eff.pure hd λX' hag a w Y hs=>?_⟩;have h1:=E6 hs x;have h2:=E6 hs i;rw[E5 (G3 (G3 hag)),hx]at h1;rw[E5 (I1 (G3 hag))]at h2;have hn:=U4 hi h2;have hg':=(S2 (I1 hag (.gen b) (by simp))).trans hg;generalize hv:a.eval x=v at h1;cases h1 with
   |own _ _ _ _ a2 hgg hh =>
    obtain⟨q,e1,e2⟩:=hh hg';exact⟨_,run a w q p (hv.trans e2) hn h0 a3,.own _ b g (p+j.toNat*m) rfl hgg λ_=>⟨q,e1,rfl⟩⟩
  ·exact h.elim
 ·exact h.elim
def flat_ones{V:Type}:∀{es:List (List V)},(∀x∈es,x.length=1)->es.flatten.length=es.length
 |[],_=>rfl
 |x::es,h=>by
  rw[V4,H4,flat_ones λy hy=>h y (by simp[hy]),h x (by simp),G8];omega
def aLoadA_ok{p:Operand}{b g k i j:Nat}(hop:o.op=.load t p)(hp:evA X p=.elt b g k i j)(hw:wholeA P t k=true)(hd:J0 B.n o=true)(h:aLoadA P o X K t p b g k i j):∃fx,K fx/\Eff P B o fx.rd X fx.wr:=by
 have a3:dM P t=some true:=by
  unfold wholeA at hw;split at hw
  ·rename_i n hn;obtain⟨e,hu,_⟩:=BC hn;unfold dM;rw[hu];rfl
  ·cases hw
 unfold aLoadA at h;split at h
 ·rename_i t' k' es m a7 hm;obtain⟨hc,h⟩:=h.ok;simp only[O2,Nat.beq_eq]at hc;obtain⟨⟨⟨rfl,rfl⟩,rfl⟩,rfl⟩:=hc;obtain⟨⟨hg,a4⟩,h⟩:=h.out;have h:=h.out;refine⟨_,h,Eff.pure hd λX' hag a w Y hs=>?_⟩;obtain⟨a9,hg',a6,_⟩:=V2 hag;have h1:=E6 hs p;rw[E5 a9,hp]at h1;have ho:=hs.obs b;rw[a6.trans a7]at ho;obtain⟨us,h2,h3,h4,h5,h6,h7,h8⟩:=ho;generalize hv:a.eval p=v at h1;cases h1 with
  |elt _ _ _ _ _ _ a2 hgg hh =>
   obtain⟨q,z,n,c,e1,e2⟩:=hh (hg'.trans hg)
   have a5:z=0:=by
    rcases h5.2 with⟨f,_⟩|⟨_,_,_,f,_⟩
    ·rw[f]at e1;cases e1
    ·rw[f]at e1;injection e1 with e1 _ _
     injection e1 with e1
     injection e1 with _ e1
     exact e1.symm
   subst a5;rw[E8]at e2;subst e2;have a8:us.length=m:=by rw[h6,flat_ones h3,a4]
   refine⟨.agg us.toArray,?_,.im _ _ (.agg us _ h6 h7 h8)⟩
   have:=pO (P:=P) (t:=t) (us:=us) a3 (by rw[a8];exact hm) (b:=q) (q:=0*1+0) (w:=w) (λp u hu=>by
    have:=h5.cells (g:=q) (by rw[e1];rfl) p u hu
    rw[addr_add,E8]at this
    simpa using this)
   have hr:(Instr.loadAt t (a.eval p)).run P w=.ok (.agg us.toArray) w:=by rw[hv];exact this
   simp[execOp,hop,hr]
 ·exact h.elim
def aLenM_ok{c:Call}{t kt et:TypeId}{ts:List TypeId}{x:Operand}{b g:Nat}{l:List (Value×Value)}(hop:o.op=.call c)(hc:c.callee=.builtin .len)(ha:c.args.toList=[x])(ht:c.argTypes.toList=t::ts)(hm:gH P t=some (kt,et))(hx:evA X x=.osl b g)(hkd:X.kd b=.map l)(hd:J0 B.n o=true)(h:aLenM o X K x b g l):∃fx,K fx/\Eff P B o fx.rd X fx.wr:=by
 have a5:c.argTypes[0]?=some t:=by rw[<- R4,ht];rfl
 have a8:∀a:Act,(c.args.map a.eval)[0]?=some (a.eval x):=λa=>by rw[<- R4,fF,ha];rfl
 have hu:=sW hm;unfold aLenM at h;obtain⟨hg,h⟩:=h.out;have h:=h.out;refine⟨_,h,Eff.pure hd λX' hag a w Y hs=>?_⟩;obtain⟨a7,hg',a4,_⟩:=V2 hag;have h1:=E6 hs x;rw[E5 a7,hx]at h1;have ho:=hs.obs b;rw[a4.trans hkd]at ho;obtain⟨q,a3,es,e1,e2,e3,a9⟩:=ho;have a6:=MapKept.run_getObj_map (P:=P) e2;generalize hv:a.eval x=v at h1;cases h1 with
 |osl _ _ _ a2 hgg hh =>
  rw[hh (hg'.trans hg),e1]at hv;have hl:l.length=es.size:=by rw[<- e3];simp
  refine⟨.int .i64 es.size,?_,by rw[hl];exact Q2 _⟩;simp only[execOp,hop,resolve,hc,invoke,builtin,Builtin.len_,a5,a8,Sem.run_bind,Sem.run_pure,Result.andThen_ok,run_underlying hu,hv,goInt,a6]
def part_int{e:TypeId}{w:World}(hu:P.underlying e=some (.int .i64)){i:Nat}{c:Int}(h:ks[i]?=some c):(part e (ks.map (Value.int .i64)).toArray i).run P w=.ok (.int .i64 c) w:=by
 have a2:dM P e=some false:=by unfold dM;rw[hu];rfl
 have hi:(ks.map (Value.int .i64)).toArray[i]?=some (.int .i64 c):=by simp[h]
 unfold part;rw[Sem.run_bind,agg_run a2];simp only[Result.andThen_ok,uD,if_false,hi,Sem.run_pure]
def vE{kt e:TypeId}(hu:P.underlying kt=some (.array n e))(he:P.underlying e=some (.int .i64))(hs:szOf P e=some 1)(em:Bool)(hl:ks.length=n)(w:World):(Instr.checkKey em 10000 kt (wA ks)).run P w=.ok () w:=by
 unfold wA;rw[Instr.checkKey];simp only[Sem.run_bind,run_underlying hu,Result.andThen_ok];simp only[Std.Legacy.Range.forIn_eq_forIn_range',Std.Legacy.Range.size,rI,Nat.add_one_sub_one,Nat.div_one];have a2:∀i∈List.range' 0 n,i<ks.length:=λi hi=>by rw[hl];simpa using List.mem_range'_1.1 hi
 generalize List.range' 0 n=is at a2
 induction is with
 |nil=>simp
 |cons j is ih =>
  have hj:=a2 j (by simp);have hp:=part_int (w:=w) he (K8 hj)
  have a3:(Instr.checkKey em 9999 e (.int .i64 ks[j])).run P w=.ok () w:=by
   rw[Instr.checkKey,Sem.run_bind,run_underlying he];rfl
  simp only[List.forIn_cons,Sem.run_bind,bF hs,Result.andThen_ok,fH,hp,a3,Sem.run_pure];exact ih λy hy=>a2 y (by simp[hy])
def eq_items{e:TypeId}(he:P.underlying e=some (.int .i64)){ks ls:A2}(hl:ks.length=ls.length)(w:World):∀is:List Nat,(∀i∈is,i<ks.length) ->
  (Op.eqItems 9999 e 1 (ks.map (Value.int .i64)).toArray (ls.map (Value.int .i64)).toArray is).run P w=.ok (is.all λi=>decide (ks[i]?=ls[i]?)) w
 |[],_=>by simp[Op.eqItems]
 |i::is,h=>by
  have hi:=h i (by simp);have hi':i<ls.length:=by omega
  have p1:=part_int (w:=w) he (K8 hi);have p2:=part_int (w:=w) he (K8 hi')
  have a2:(Op.equalIn 9999 e (.int .i64 ks[i]) (.int .i64 ls[i])).run P w=.ok (ks[i]==ls[i]) w:=by
   rw[Op.equalIn,Sem.run_bind,run_underlying he];simp
  rw[yB,K8 hi,K8 hi'];simp only[Op.eqItems,fH,Sem.run_bind,p1,p2,a2,Result.andThen_ok];by_cases hc:ks[i]=ls[i]
  ·simp[hc,eq_items he hl w is λj hj=>h j (by simp[hj])]
  ·simp[hc]
def all_get{ks ls:A2}(h1:ks.length=n)(h2:ls.length=n):((List.range n).all λi=>decide (ks[i]?=ls[i]?))=decide (ks=ls):=by
 rw[yF];simp only[R3,K6,decide_eq_true_eq];constructor
 ·intro h;apply aA;intro i;by_cases hi:i<n
  ·exact h i hi
  ·rw[L0 (by omega),L0 (by omega)]
 ·rintro rfl i _;rfl
def equal_arr{kt e:TypeId}(hu:P.underlying kt=some (.array n e))(he:P.underlying e=some (.int .i64))(hs:szOf P e=some 1){ks ls:A2}(h1:ks.length=n)(h2:ls.length=n)(w:World):(Op.equal kt (wA ks) (wA ls)).run P w=.ok (decide (ks=ls)) w:=by
 obtain⟨i,hi,a3⟩:∃i,P.info? e=some i/\i.size=1:=by
  unfold szOf at hs;cases hi:P.info? e with
  |none=>rw[hi]at hs;cases hs
  |some i=>rw[hi]at hs;exact⟨i,rfl,by simpa using hs⟩
 have a2:P.cellsOf e=1:=by simp[Program.cellsOf,hi,a3]
 unfold Op.equal wA;rw[show Op.maxDepth=9999+1 from rfl,run_equalIn_array w 9999 _ _ hu hi,a2,eq_items he (by omega) w _ (λi hi=>by rw[h1];simpa using hi),all_get h1 h2]
def wQ{kt e:TypeId}(hu:P.underlying kt=some (.array n e))(he:P.underlying e=some (.int .i64))(hs:szOf P e=some 1)(h1:ks.length=n)(w:World):∀(es:List MapEntry) (i:Nat) (m:List (A2×Value)),es.map (λe=>(e.key,e.val))=m.map (λp=>(wA p.1,p.2))->(∀p∈m,p.1.length=n) ->
  ((Instr.findAsking kt (wA ks) es i).run P w=.ok none w/\getA ks m=none/\∀v,setA ks v m=m++[(ks,v)]) \/
  ∃j e,(Instr.findAsking kt (wA ks) es i).run P w=.ok (some (i+j,e.val)) w/\getA ks m=some e.val/\es[j]?=some e/\e.key=wA ks/\∀v,(setA ks v m).map (λp=>(wA p.1,p.2))=(es.set j { e with key:=wA ks,val:=v }).map (λe=>(e.key,e.val))
 |[],i,[],_,_=>.inl ⟨by simp[Instr.findAsking],rfl,λ_=>rfl⟩
 |[],_,_::_,h,_=>by simp at h
 |_::_,_,[],h,_=>by simp at h
 |x::es,i,p::m,h,hm=>by
  simp only[M2,List.cons.injEq,H5]at h;obtain⟨⟨hk,hv⟩,ht⟩:=h;have heq:=equal_arr hu he hs h1 (hm p (by simp)) w;by_cases hc:ks=p.1
  ·refine .inr ⟨0,x,?_,?_,rfl,by rw[hk,hc],λv=>?_⟩
   ·rw[Instr.findAsking,Sem.run_bind,hk,heq];simp[hc]
   ·simp[getA,hc,hv]
   ·simp[setA,hc,ht]
  ·have hdc:decide (ks=p.1)=false:=by simp[hc]
   rcases wQ hu he hs h1 w es (i+1) m ht λq hq=>hm q (by simp[hq]) with⟨f1,f2,f3⟩|⟨j,y,f1,f2,f3,f4,f5⟩
   ·refine .inl ⟨?_,?_,λv=>?_⟩
    ·rw[Instr.findAsking,Sem.run_bind,hk,heq];simp[hc,f1]
    ·simp[getA,hc,f2]
    ·simp[setA,hc,f3]
   ·refine .inr ⟨j+1,y,?_,?_,by simpa using f3,f4,λv=>?_⟩
    ·rw[Instr.findAsking,Sem.run_bind,hk,heq];simp[hc,f1,Y7,jC 1 j]
    ·simp[getA,hc,f2]
    ·simp[setA,hc,f5,hk,hv]
def find_arr{kt e:TypeId}(hu:P.underlying kt=some (.array n e)){k:Value}{es:List MapEntry}(w:World):∀{ks:A2},k=wA ks->(Instr.findKey kt k es).run P w=(Instr.findAsking kt k es 0).run P w\/(es=[]/\(Instr.findKey kt k es).run P w=.ok none w):=by
 rintro ks rfl;unfold Instr.findKey;rw[Sem.run_bind,run_underlying hu];simp only[Result.andThen_ok];cases es with
 |nil=>exact .inr ⟨rfl,rfl⟩
 |cons x es=>exact .inl (by simp[Instr.findNow,Instr.sameNow,wA])
def vL{kt e:TypeId}(hu:P.underlying kt=some (.array n e)){es:List MapEntry}(w:World)(ks:A2):(Instr.findKey kt (wA ks) es).run P w=(Instr.findAsking kt (wA ks) es 0).run P w:=by
 rcases find_arr hu (es:=es) w (ks:=ks) rfl with h|⟨rfl,h⟩
 ·exact h
 ·rw[h];simp[Instr.findAsking]
def agg_wA{w:World}{S:Nat->Prop}{v:Value}(h:RepI w S v (.agg (ks.map λc=>.val (.int .i64 c)))):v=wA ks:=by
 cases h with
 |agg us cs hl h1 hr =>
  unfold wA;congr 2;apply aA;intro i;by_cases hi:i<us.length
  ·have hk:i<ks.length:=by simpa[hl]using hi
   obtain⟨u,hu⟩:∃u,us[i]?=some u:=⟨_,K8 hi⟩;have:=hr i u (.val (.int .i64 ks[i])) hu (by simp[K8 hk]);cases this;rw[hu];simp[K8 hk]
  ·have hk:¬i<ks.length:=by simpa[hl]using hi
   rw[L0 (by omega),L0 (by simp;omega)]
def same_zip:∀ks:A2,(((ks.map (Value.int .i64)).zip (ks.map (Value.int .i64))).all λ(x,y)=>Instr.sameBits 9999 x y)=true
 |[]=>rfl
 |k::ks=>by
  rw[M2,List.zip_cons_cons,yB,same_zip ks];simp[Instr.sameBits]
def sameBits_wA(ks:A2):Instr.sameBits 10000 (wA ks) (wA ks)=true:=by
 unfold wA;rw[Instr.sameBits];simp only[beq_self_eq_true,yA];exact same_zip ks
def AY(h:mD P t=some n):∃kt et e,P.underlying t=some (.map kt et)/\gH P t=some (kt,et)/\P.underlying kt=some (.array n e)/\P.underlying e=some (.int .i64)/\szOf P e=some 1:=by
 unfold mD at h;split at h
 ·rename_i k et hm;obtain⟨e,h1,h2,h3⟩:=BC h;exact⟨k,et,e,sW hm,hm,h1,h2,h3⟩
 ·cases h
def aLookupA_ok{x i:Operand}{ok:Bool}(hop:o.op=.lookup t x i ok)(hka:mD P t=some n)(hd:J0 B.n o=true)(h:aLookupA P o X K n t x i ok):∃fx,K fx/\Eff P B o fx.rd X fx.wr:=by
 obtain⟨kt,et,e,a4,a8,hu,he,a5⟩:=AY hka;unfold aLookupA at h;split at h
 ·rename_i b8 b9 b g cs a2 hx hi;rw[a8]at a2;simp only[D6,H5]at a2;obtain⟨rfl,rfl⟩:=a2;split at h
  ·rename_i l z b4 hz;obtain⟨hg,ks,m,⟨k1,k2,k3,k4⟩,h⟩:=h.out;have h:=h.out
   have a3:∀X',(∀y∈opd x++opd i++[.gen b,.knd b],X' y=X y)->∀a w,Sat B X' a w->(execOp a.eval o).run P w=.ok (.value (if ok=true then .tuple #[(getA ks m).getD z,.bool (getA ks m).isSome] else(getA ks m).getD z)) w:=λX' hag a w ⟨Y,hs⟩=>by
    obtain⟨ha,hg',a7,_⟩:=V2 hag;have h1:=E6 hs x;have h2:=E6 hs i;rw[E5 (G3 ha),hx]at h1;rw[E5 (I1 ha),hi,k1]at h2;have a9:=agg_wA h2.im_inv;have ho:=hs.obs b;rw[a7.trans b4]at ho;obtain⟨q,a6,es,e1,e2,e3,c0⟩:=ho
    have b3:a.eval x=.map (some q):=by
     generalize a.eval x=v at h1;cases h1 with
     |osl _ _ _ _ _ hh=>rw[hh (hg'.trans hg),e1]
    have b6:∀w,(zeroValue et).run P w=.ok z w:=λw=>by
     unfold zeroV at hz;split at hz
     ·rename_i it b2;simp[zeroValue,typeInfo,b2,hz]
     ·cases hz
    have b5:=MapKept.run_getObj_map (P:=P) e2;have b7:=wQ hu he a5 k2 w es.toList 0 m (e3.trans k3) k4;simp only[execOp,hop,b3,a9,Instr.lookup,Sem.run_bind,run_underlying a4,Result.andThen_ok,b5,Sem.run_pure,vE hu he a5 _ k2,vL hu];rcases b7 with⟨f1,f2,_⟩|⟨j,y,f1,f2,_⟩
    ·rw[f1,f2];cases ok<;>simp[b6]
    ·rw[f1,f2];cases ok<;>simp
   split at h
   ·have h:=h.out;refine⟨_,h,Eff.pure hd λX' hag a w Y hs=>⟨_,a3 X' hag a w ⟨Y,hs⟩,?_⟩⟩;simp only[if_true]
    exact .tup [(getA ks m).getD z,.bool (getA ks m).isSome] _ rfl λj u y hu hy=>by
     match j with
     |0=>simp at hu hy;rw[<- hu,<- hy];exact Q2 _
     |1=>simp at hu hy;rw[<- hu,<- hy];exact vB_rep _
     |j+2=>simp at hu
   ·refine⟨_,h,Eff.pure hd λX' hag a w Y hs=>⟨_,a3 X' hag a w ⟨Y,hs⟩,?_⟩⟩;simp only[uD,if_false];exact Q2 _
  ·exact h.elim
 ·exact h.elim
def zuf{x i y:Operand}(hop:o.op=.mapUpdate t x i y)(hka:mD P t=some n)(hd:J0 B.n o=true)(h:wL P o X K n t x i y):∃fx,K fx/\Eff P B o fx.rd X fx.wr:=by
 obtain⟨kt,et,e,a5,c9,hu,he,a8⟩:=AY hka;unfold wL at h;split at h
 ·rename_i b g cs v c8 hx hi hy;split at h
  ·rename_i l a7;obtain⟨hg,ks,m,⟨k1,k2,k3,k4⟩,h⟩:=h.out;have h:=h.out;refine⟨_,h,λX' hag a w ⟨Y,hs⟩ K' Q hK=>?_⟩;obtain⟨ha,hg',a6,_⟩:=V2 hag;have h1:=E6 hs x;have h2:=E6 hs i;have h3:=E6 hs y;rw[E5 (G3 (G3 ha)),hx]at h1;rw[E5 (I1 (G3 ha)),hi,k1]at h2;rw[E5 (I1 ha)]at h3;have b2:=agg_wA h2.im_inv;have hv:=sS hy h3;have ho:=hs.obs b;rw[a6.trans a7]at ho;obtain⟨q,a3,es,e1,e2,e3,b5⟩:=ho
   have b3:a.eval x=.map (some q):=by
    generalize a.eval x=u at h1;cases h1 with
    |osl _ _ _ _ _ hh=>rw[hh (hg'.trans hg),e1]
   have b6:=MapKept.run_getObj_map (P:=P) e2;have a9:live X' b:=by unfold live;rw[a6.trans a7];exact λz=>by cases z
   have c0:F6 (Y b)=some q:=by rw[e1];rfl
   have b8:∀(a4:Array MapEntry) (a2:Nat),(a4.toList.map λe=>(e.key,e.val))=(setA ks v m).map (λp=>(wA p.1,p.2))->eM a4 a2->(execOp a.eval o).run P w=.ok .skip (setBlock w q (.map a4 a2))->o.wp P a w K' Q:=λa4 a2 c7 b7 b4=>by
    unfold Oper.wp;rw[b4,Oper.upon_skip];refine hK _ _ ⟨Y,?_⟩
    have c6:=hs.turn (b:=b) (q:=q) (w':=setBlock w q (.map a4 a2)) (k':=.map ((setA ks v m).map λp=>(wA p.1,p.2))) a9 c0 ⟨rfl,rfl,rfl,by simp[setBlock],λi _ hi=>heap_setBlock_other e2 _ (λe=>hi (by rw[e]))⟩ (λc hc=>by unfold Owns;rw[a6.trans a7];exact hc) λhI =>
     ⟨q,a2,a4,e1,heap_setBlock_same e2 _,c7,b7⟩
    rw[O0];exact c6.put (eN hd) (Q2 _)
   rcases wQ hu he a8 k2 w es.toList 0 m (e3.trans k3) k4 with⟨f1,f2,f3⟩|⟨j,y',f1,f2,f3,f4,f5⟩
   ·refine b8 (es.push { key:=wA ks,val:=v,born:=a3 }) (a3+1) (by rw[f3];simp[<- k3,e3]) (b5.push _ _) ?_;simp only[execOp,hop,b3,b2,hv,Instr.mapUpdate,Sem.run_bind,run_underlying a5,Result.andThen_ok,b6,Sem.run_pure,vE hu he a8 _ k2,vL hu,f1,MapKept.run_setObj_map _ e2];rfl
   ·have hj:es[j]?=some y':=by rw[<- R4];exact f3
    have b9:j<es.size:=(iJ.1 hj).1;refine b8 (es.modify j λe=>{ e with key:=wA ks,val:=v }) a3 ?_ (b5.modify _ _ λ_=>rfl) ?_
    ·rw[f5];congr 1;apply aA;intro n;rw[R4,rL,oM];by_cases hn:j=n
     ·subst hn;rw[if_pos rfl,if_pos rfl,if_pos (by simpa using b9),hj];rfl
     ·rw[if_neg hn,if_neg hn,R4]
    ·simp only[execOp,hop,b3,b2,hv,Instr.mapUpdate,Sem.run_bind,run_underlying a5,Result.andThen_ok,b6,Sem.run_pure,vE hu he a8 _ k2,vL hu,f1,E8];rw[hj];simp only[J4,E7,f4];unfold Instr.keyThatStays;rw[sameBits_wA];simp only[if_true,Sem.run_pure,Result.andThen_ok,MapKept.run_setObj_map _ e2];rfl
  ·exact h.elim
 ·exact h.elim
end
end
section
section
variable {P:Program}{B:Base}{o:Oper}{X:St}{K:Fx->Prop}
def wK{V:Type}{p:V->Prop}:∀(ds cs:List V) (i:Nat),(∀x∈cs,p x)->(∀x∈ds,p x)->∀x∈dT cs i ds,p x
 |[],cs,i,h,_=>h
 |d::ds,cs,i,h,k=>by
  rw[dT];refine wK ds _ _ (λx hx=>?_) λx hx=>k x (by simp[hx]);rcases oT hx with h1|h1
  ·exact h x h1
  ·rw[h1];exact k d (by simp)
def xD(off:Nat):∀(vs:List Value) (j:Nat) (cells:Array Value),((vs.zipIdx j).foldl (λcs (p:Value×Nat)=>cs.setIfInBounds (off+p.2) p.1) cells).toList=dT cells.toList (off+j) vs
 |[],j,cells=>rfl
 |v::vs,j,cells=>by
  rw[List.zipIdx_cons,gA,xD off vs,dT,Array.toList_setIfInBounds,Y7]
def wU{w:World}{S:Nat->Prop}{Y:Ly}{E:Nat->Nat}:∀{vs:List Value} {ds:List AV} {us:List Value} {cs:List AV} (i:Nat),Reps w S Y E us cs->Reps w S Y E vs ds->Reps w S Y E (dT us i vs) (dT cs i ds)
 |[],[],us,cs,i,h,_=>h
 |v::vs,d::ds,us,cs,i,h,k=>by
  rw[dT,dT];refine wU (i+1) ⟨by simpa using h.1,λj u x hu hx=>?_⟩ ⟨by simpa using k.1,λj u x hu hx=>k.2 (j+1) u x (by simpa using hu) (by simpa using hx)⟩;rw[oM]at hu hx;by_cases e:i=j
  ·rw[if_pos e]at hu hx;split at hu
   ·rename_i h1;rw[if_pos (by rw[<- h.1];exact h1)]at hx;injection hu with hu
    injection hx with hx
    rw[<- hu,<- hx];exact k.2 0 v d rfl rfl
   ·cases hu
  ·rw[if_neg e]at hu hx;exact h.2 j u x hu hx
 |[],_::_,_,_,_,_,h=>by have:=h.1;simp at this
 |_::_,[],_,_,_,_,h=>by have:=h.1;simp at this
def plc_get{t:TypeId}{ps:G4}(h:plcOf P t=some ps){i off ft m:Nat}(hf:fldOf P t i=some (off,ft))(hm:szOf P ft=some m):ps.toArray[i]?=some (off,m):=by
 obtain⟨fs,x,hu,hx,ho,ht⟩:=fld_spec hf;unfold plcOf at h;rw[hu]at h;simp only at h
 have key:∀(l:List Field) (ps:G4),l.mapM (λf=>(P.info? f.type).map λi=>(f.offset,i.size))=some ps->∀(i:Nat) x,l[i]?=some x->∀m,szOf P x.type=some m->ps[i]?=some (x.offset,m):=by
  intro l
  induction l with
  |nil=>intro ps _ i x hx;simp at hx
  |cons f l ih =>
   intro ps hp i x hx m hm;simp only[List.mapM_cons,Option.bind_eq_bind,Option.pure_def]at hp;cases hi:P.info? f.type with
   |none=>simp[hi]at hp
   |some ii =>
    cases hr:l.mapM (λf=>(P.info? f.type).map λi=>(f.offset,i.size)) with
    |none=>simp[hi,hr]at hp
    |some rest =>
     simp[hi,hr]at hp;subst hp;cases i with
     |zero =>
      simp at hx;subst hx;unfold szOf at hm;rw[hi]at hm;simp at hm;simp[hm]
     |succ i=>simpa using ih rest hr i x (by simpa using hx) m hm
 have:=key fs.toList ps h i x (by rw[R4];exact hx) m (by rw[ht];exact hm);rw[<- ho];simpa using this
def BG{t:TypeId}{ps:G4}(hps:plcOf P t=some ps){X':St}{a:Act}{w:World}{Y:Ly}(h:SatR B X' a w Y):∀{l:List (Nat×Operand)} {cs cs':List AV} {cells:Array Value},buildA P t X l cs=some cs'->(∀y∈opdL (l.map (·.2)),X' y=X y) ->
  Reps w (Imm B X' Y w) Y X'.gn cells.toList cs->(∀u∈cells.toList,u.oneCell'=true)->∃cells',Instr.fill (ps.toArray[·]?) cells (l.map λp=>(p.1,a.eval p.2))=some cells'/\Reps w (Imm B X' Y w) Y X'.gn cells'.toList cs'/\∀u∈cells'.toList,u.oneCell'=true
 |[],cs,cs',cells,e,_,hr,h1=>by
  simp only[buildA,D6]at e;subst e;exact⟨cells,rfl,hr,h1⟩
 |(i,x)::l,cs,cs',cells,e,hag,hr,h1=>by
  simp only[buildA]at e;split at e
  ·rename_i off ft vs hf hc;split at e
   ·rename_i m hm;split at e
    ·rename_i hchk;rw[O2]at hchk;have hml:m=vs.length:=by simpa using hchk.1
     have a5:=gQ hchk.2;have hx:=E6 h x;rw[E5 λy hy=>hag y (by simp only[M2,opdL,S6];exact K9 _ hy)]at hx;have r1:=lD hc hx;have r2:=lC hc hx;have a6:(a.eval x).cells.size=m:=by rw[hml,<- r1.1];simp
     have a2:=xD off (a.eval x).cells.toList 0 cells;rw[V8]at a2;generalize a3:((a.eval x).cells.zipIdx.foldl (λcs (p:Value×Nat)=>cs.setIfInBounds (off+p.2) p.1) cells)=cells1
     have a4:cells1.toList=dT cells.toList off (a.eval x).cells.toList:=by
      rw[<- a2,<- a3,<- Array.foldl_toList,Array.toList_zipIdx]
     obtain⟨cells',q1,q2,q3⟩:=BG hps h (l:=l) (cells:=cells1) e (λy hy=>hag y (by simp only[M2,opdL,S6];exact L2 _ hy)) (by rw[a4];exact wU off hr r1) (by rw[a4];exact wK _ _ _ h1 r2);refine⟨cells',?_,q2,q3⟩;rw[<- q1,<- a3]
     have hg:¬((a.eval x).cells.size≠m\/off+(a.eval x).cells.size > cells.size):=by
      have:=hr.1;simp at this;omega
     simp only[M2,Instr.fill,plc_get hps hf hm];rw[if_neg (by simpa using hg)]
    ·cases e
   ·cases e
  ·cases e
def aBuild_ok{t:TypeId}{parts:Array (Nat×Operand)}(hop:o.op=.build t parts)(hd:J0 B.n o=true)(h:aBuild P o X K t parts):∃fx,K fx/\Eff P B o fx.rd X fx.wr:=by
 unfold aBuild at h;split at h
 ·rename_i z hz;split at h
  ·rename_i cs a8;obtain⟨a4,h⟩:=h.ok;rw[O2]at a4;refine⟨_,h,Eff.pure hd λX' hag a w Y hs=>?_⟩;obtain⟨ps,a3⟩:=EG.1 a4.1
   obtain⟨it,zv,a7,a2,a5⟩:∃it zv,P.info? t=some it/\it.zero=some zv/\zv.cells.toList=z:=by
    unfold zeroOf at hz;split at hz
    ·rename_i i hi;cases a2:i.zero with
     |none=>rw[a2]at hz;cases hz
     |some zv =>
      rw[a2]at hz;simp only[J4,D6]at hz;exact⟨i,zv,hi,a2,hz⟩
    ·cases hz
   obtain⟨fs,hu,a6⟩:∃fs,P.underlying t=some (.struct fs)/\fs.toList.mapM (λf=>(P.info? f.type).map λi=>(f.offset,i.size))=some ps:=by
    unfold plcOf at a3;split at a3
    ·rename_i fs hu;exact⟨fs,hu,a3⟩
    ·cases a3
   obtain⟨cells',q1,q2,q3⟩:=BG a3 hs (cells:=zv.cells) a8 hag (by rw[a5];exact⟨by simp,λi u y hu hy=>by
    simp only[H1,hu,J4,D6]at hy
    rw[<- hy]
    exact .im _ _ (.val _)⟩) (by rw[a5];exact λu hu=>R3.1 a4.2 u hu)
   refine⟨.agg cells',?_,by simpa using rZ q2 q3⟩
   have hb:P.built t (parts.map λ(i,x)=>(i,a.eval x)).toList=some cells':=by
    unfold Program.built;simp only[a7,hu,a2,a6,fF];exact q1
   simp only[execOp,hop,Sem.run_bind,run_build w t _ cells' hb,Result.andThen_ok,Sem.run_pure]
  ·exact h.elim
 ·exact h.elim
def BI{pl:Nat->Option (Nat×Nat)}{X':St}{a:Act}{w:World}{Y:Ly}(h:SatR B X' a w Y):∀{l:List (Nat×Operand)} {cs cs':List AV} {cells:Array Value},buildG pl X l cs=some cs'->(∀y∈opdL (l.map (·.2)),X' y=X y) ->
  Reps w (Imm B X' Y w) Y X'.gn cells.toList cs->(∀u∈cells.toList,u.oneCell'=true)->∃cells',Instr.fill pl cells (l.map λp=>(p.1,a.eval p.2))=some cells'/\Reps w (Imm B X' Y w) Y X'.gn cells'.toList cs'/\∀u∈cells'.toList,u.oneCell'=true
 |[],cs,cs',cells,e,_,hr,h1=>by
  simp only[buildG,D6]at e;subst e;exact⟨cells,rfl,hr,h1⟩
 |(i,x)::l,cs,cs',cells,e,hag,hr,h1=>by
  simp only[buildG]at e;split at e
  ·rename_i off m vs hf hc;split at e
   ·rename_i hchk;rw[O2]at hchk;have hml:m=vs.length:=by simpa using hchk.1
    have a5:=gQ hchk.2;have hx:=E6 h x;rw[E5 λy hy=>hag y (by simp only[M2,opdL,S6];exact K9 _ hy)]at hx;have r1:=lD hc hx;have r2:=lC hc hx;have a6:(a.eval x).cells.size=m:=by rw[hml,<- r1.1];simp
    have a2:=xD off (a.eval x).cells.toList 0 cells;rw[V8]at a2;generalize a3:((a.eval x).cells.zipIdx.foldl (λcs (p:Value×Nat)=>cs.setIfInBounds (off+p.2) p.1) cells)=cells1
    have a4:cells1.toList=dT cells.toList off (a.eval x).cells.toList:=by
     rw[<- a2,<- a3,<- Array.foldl_toList,Array.toList_zipIdx]
    obtain⟨cells',q1,q2,q3⟩:=BI h (l:=l) (cells:=cells1) e (λy hy=>hag y (by simp only[M2,opdL,S6];exact L2 _ hy)) (by rw[a4];exact wU off hr r1) (by rw[a4];exact wK _ _ _ h1 r2);refine⟨cells',?_,q2,q3⟩;rw[<- q1,<- a3]
    have hg:¬((a.eval x).cells.size≠m\/off+(a.eval x).cells.size > cells.size):=by
     have:=hr.1;simp at this;omega
    simp only[M2,Instr.fill,hf];rw[if_neg (by simpa using hg)]
   ·cases e
  ·cases e
def aBuildR_ok{t et:TypeId}{n:Nat}{parts:Array (Nat×Operand)}(hop:o.op=.build t parts)(ht:arrOf P t=some (n,et))(hd:J0 B.n o=true)(h:aBuildR P o X K t et parts):∃fx,K fx/\Eff P B o fx.rd X fx.wr:=by
 unfold aBuildR at h;split at h
 ·rename_i z m hz hm;split at h
  ·rename_i cs a8;obtain⟨a3,h⟩:=h.ok;refine⟨_,h,Eff.pure hd λX' hag a w Y hs=>?_⟩
   obtain⟨it,zv,a6,a2,a4⟩:∃it zv,P.info? t=some it/\it.zero=some zv/\zv.cells.toList=z:=by
    unfold zeroOf at hz;split at hz
    ·rename_i i hi;cases a2:i.zero with
     |none=>rw[a2]at hz;cases hz
     |some zv =>
      rw[a2]at hz;simp only[J4,D6]at hz;exact⟨i,zv,hi,a2,hz⟩
    ·cases hz
   obtain⟨ie,a5,a7⟩:∃ie,P.info? et=some ie/\ie.size=m:=by
    unfold szOf at hm;cases hi:P.info? et with
    |none=>rw[hi]at hm;cases hm
    |some i =>
     rw[hi]at hm;simp only[J4,D6]at hm;exact⟨i,rfl,hm⟩
   obtain⟨cells',q1,q2,q3⟩:=BI hs (cells:=zv.cells) a8 hag (by rw[a4];exact⟨by simp,λi u y hu hy=>by
    simp only[H1,hu,J4,D6]at hy
    rw[<- hy]
    exact .im _ _ (.val _)⟩) (by rw[a4];exact λu hu=>R3.1 a3 u hu)
   refine⟨.agg cells',?_,by simpa using rZ q2 q3⟩
   have hb:P.built t (parts.map λ(i,x)=>(i,a.eval x)).toList=some cells':=by
    unfold Program.built;simp only[a6,arr_spec ht,a2,a5,a7,fF];exact q1
   simp only[execOp,hop,Sem.run_bind,run_build w t _ cells' hb,Result.andThen_ok,Sem.run_pure]
  ·exact h.elim
 ·exact h.elim
def aIndexX_ok{t:TypeId}{x i:Operand}(hop:o.op=.index t x i)(hd:J0 B.n o=true)(h:aIndexX P o X K t x i):∃fx,K fx/\Eff P B o fx.rd X fx.wr:=False.elim h
def CK{t:TypeId}{k:Nat}(h:szOf P t=some k):∃b,byteOf P t=some b:=by
 unfold szOf at h;unfold byteOf;cases hi:P.info? t with
 |none=>rw[hi]at h;cases h
 |some i=>exact⟨i.bytes,rfl⟩
def aOp_ok{C:FuncId->List Arg->Rs->Prop}(hC:∀g xs r,C g xs r->SpX P g xs r){own:List Nat}(hd:J0 B.n o=true)(h:aOp P own o X K C):∃fx,K fx/\Eff P B o fx.rd X fx.wr:=by
 unfold aOp at h;split at h
 ·rename_i x a2;exact aMoves_ok (.inl a2) hd h
 ·rename_i x a2;exact aMoves_ok (.inr a2) hd h
 ·rename_i c x y a2;exact aPick_ok a2 hd h
 ·rename_i t p a2;unfold aLoads at h;split at h
  ·rename_i hp;exact aLoadS_ok a2 hp hd h
  ·rename_i hp;split at h
   ·exact aLoadG_ok a2 hp hd h
   ·split at h
    ·rename_i hw;exact aLoadA_ok a2 hp hw hd h
    ·exact aLoad_ok a2 hd h
  ·exact aLoad_ok a2 hd h
 ·rename_i t p x a2;split at h
  ·rename_i hp;split at h
   ·exact aStoreG_ok a2 hp hd h
   ·exact aStoreE_ok a2 hd hp h
  ·rename_i hp;exact aStoreS_ok a2 hp hd h
  ·exact aStore_ok a2 hd h
 ·rename_i t x a2;exact aBox_ok a2 hd h
 ·rename_i t a2;exact aAllocs_ok a2 hd h
 ·rename_i t p f a2;exact aFieldAddr_ok a2 hd h
 ·rename_i t x f a2;exact aField_ok a2 hd h
 ·rename_i t x i a2;unfold aIndexes at h;split at h
  ·rename_i hx;exact aIndexV_ok a2 hx hd h
  ·rename_i hx;exact aIndexS_ok a2 hx hd h
  ·rename_i hx;split at h
   ·exact aIndexG_ok a2 hx hd h
   ·exact CE a2 hd h
  ·split at h
   ·rename_i ht;exact aIndexA_ok a2 ht hd h
   ·exact CE a2 hd h
 ·rename_i t x lo hi mx a2;cases mx with
  |some m=>exact aSlice3_ok a2 hd h
  |none =>
  replace h:aSlices P o X K t x lo hi:=h;unfold aSlices at h;split at h
  ·rename_i hx;split at h
   ·split at h
    ·exact aSliceQ_ok a2 hx hd h
    ·exact aSliceV_ok a2 hx hd h
   ·exact aSliceT_ok a2 hx hd h
   ·exact h.elim
  ·exact aSlice_ok a2 hd h
 ·rename_i t parts a2;unfold aBuilds at h;split at h
  ·rename_i ht;exact aBuildR_ok a2 ht hd h
  ·exact aBuild_ok a2 hd h
 ·rename_i t x i a2;exact aIndexX_ok a2 hd h
 ·rename_i t len parts a2;split at h
  ·rename_i d0 b5;split at h
   ·refine aBuildG_ok a2 hd (λet a9=>?_) h;unfold aBuildG at h;split at h
    ·rename_i d b4 x b3 a6 hp;rw[a9]at a6;injection a6 with a6
     subst a6;split at h
     ·rename_i k r gr hk hx;exact CK hk
     ·exact h.elim
    ·exact h.elim
   ·refine zue a2 hd (λet a9=>?_) h;unfold tF at h;split at h
    ·rename_i d b4 b3 a6;rw[a9]at a6;injection a6 with a6
     subst a6;split at h
     ·rename_i k vs bs hk _;exact CK hk
     ·exact h.elim
    ·exact h.elim
  ·exact h.elim
 ·rename_i x i a2;exact aExtract_ok a2 hd h
 ·rename_i op t x y t' a2;unfold aBins at h;split at h
  ·exact aBinS_ok a2 hd h
  ·split at h
   ·rename_i hp;exact aBinN_ok a2 hp hd h
   ·split at h
    ·rename_i hp;exact aBinZ_ok a2 hp hd h
    ·exact aBin_ok a2 hd h
 ·rename_i op t x a2;exact aUn_ok a2 hd h
 ·rename_i src dst x a2;obtain⟨hm,h⟩:=h.ok;exact aConvert_ok a2 hd (EG.1 hm) h
 ·rename_i fn first b2 a2;exact aMakeFunc_ok a2 hd h
 ·rename_i x a2;exact aNilCheck_ok a2 hd h
 ·rename_i t len b6 a2;exact aMakeSlice_ok a2 hd h
 ·rename_i t r a2;exact aMakeMap_ok a2 hd h
 ·rename_i t x i ok a2;split at h
  ·rename_i a7;exact aLookupA_ok a2 a7 hd h
  ·exact aLookup_ok a2 hd h
 ·rename_i t x i y a2;split at h
  ·rename_i a7;exact zuf a2 a7 hd h
  ·exact aMapUpdate_ok a2 hd h
 ·rename_i c a2;unfold aCalls at h;split at h
  ·rename_i b a4;unfold aBuiltin at h;split at h
   ·split at h
    ·rename_i x a3;split at h
     ·rename_i t ts a5;unfold aLens at h;split at h
      ·rename_i hx;split at h
       ·rename_i he;exact aLenV_ok a2 a4 a3 a5 he hx hd h
       ·exact h.elim
      ·rename_i hx;split at h
       ·rename_i he;exact aLenS_ok a2 a4 a3 a5 he hx hd h
       ·exact h.elim
      ·rename_i hx;split at h
       ·split at h
        ·rename_i he;exact aLenG_ok a2 a4 a3 a5 he hx hd h
        ·exact h.elim
       ·split at h
        ·rename_i hm hk;exact aLenM_ok a2 a4 a3 a5 hm hx hk hd h
        ·exact aLen_ok a2 a4 a3 a5 hd h
      ·exact aLen_ok a2 a4 a3 a5 hd h
     ·exact h.elim
    ·exact h.elim
   ·split at h
    ·rename_i x y a3;split at h
     ·rename_i t t' a5;obtain⟨a8,h⟩:=h.ok;have a8:t'=t:=by simpa using a8
      subst a8;split at h
      ·rename_i hx;split at h
       ·rename_i hy;exact aAppendT_ok a2 a4 (by rw[<- kE (xs:=c.args),a3]) (by rw[<- kE (xs:=c.argTypes),a5]) hx hy hd h
       ·exact aAppendS_ok a2 a4 (by rw[<- kE (xs:=c.args),a3]) (by rw[<- kE (xs:=c.argTypes),a5]) hx hd h
      ·split at h
       ·rename_i hy;exact aAppendG_ok a2 a4 (by rw[<- kE (xs:=c.args),a3]) (by rw[<- kE (xs:=c.argTypes),a5]) hy hd h
       ·exact aAppend_ok a2 a4 (by rw[<- kE (xs:=c.args),a3]) (by rw[<- kE (xs:=c.argTypes),a5]) hd h
     ·exact h.elim
    ·exact h.elim
   ·split at h
    ·rename_i x y a3;exact aMax_ok a2 a4 a3 hd h
    ·exact h.elim
   ·split at h
    ·rename_i x y a3;exact aMin_ok a2 a4 a3 hd h
    ·rename_i x y z a3;exact aMin3_ok a2 a4 a3 hd h
    ·exact h.elim
   ·split at h
    ·rename_i x t ts a3 a5;exact aClear_ok a2 a4 a3 a5 hd h
    ·exact h.elim
   ·split at h
    ·rename_i x y t t' a3 a5;exact aCopy_ok a2 a4 a3 a5 hd h
    ·exact h.elim
   ·split at h
    ·rename_i x y t t' a3 a5;exact aDelete_ok a2 a4 a3 a5 hd h
    ·exact h.elim
   ·exact h.elim
  ·rename_i f a4;split at h
   ·split at h
    ·exact aCallH_ok hC a2 a4 hd h
    ·split at h
     ·split at h
      ·exact aCallR_ok hC a2 a4 hd h
      ·exact aCallA_ok hC a2 a4 hd h
     ·exact aCall_ok hC a2 a4 hd h
   ·exact h.elim
  ·exact h.elim
 ·exact h.elim
def EffG(P:Program)(B:Base)(ops:Array Oper)(o:Oper)(rd:List Loc)(X:St)(wr:List (Loc×Ct)):Prop :=
 ∀X',(∀l∈rd,X' l=X l)->∀a w,Sat B X' a w->∀(K:Act->World->Prop) (Q:Exit->Act->World->Prop),(∀a' w',Sat B (app X' wr) a' w'->K a' w') ->
  if Region.wanted o (yielded ops a.tmps)=true then o.wp P a w K Q else K (a.put o.dst undef) w
def aGuard_ok{C:FuncId->List Arg->Rs->Prop}(hC:∀g xs r,C g xs r->SpX P g xs r){own:List Nat}{ops:Array Oper}(h:aGuard P C B.n own ops.toList o X K):∃fx,K fx/\EffG P B ops o fx.rd X fx.wr:=by
 unfold aGuard at h;obtain⟨hd,h⟩:=h.ok;split at h
 ·rename_i hg;obtain⟨fx,hk,he⟩:=aOp_ok (B:=B) hC hd h;refine⟨fx,hk,λX' hag a w hs K' Q hK=>?_⟩;have:Region.wanted o (yielded ops a.tmps)=true:=by simp[Region.wanted,hg]
  rw[if_pos this];exact he X' hag a w hs K' Q hK
 ·rename_i j a2 hg;split at h
  ·rename_i t ht;split at h
   ·rename_i b hb
    have hy:∀X' a w,X' (.tmp t)=X (.tmp t)->Sat B X' a w->yielded ops a.tmps j=some b:=λX' a w hag ⟨Y,hs⟩=>by
     have h1:=hs.tms t;have e:X'.av t=X.av t:=by unfold St.av;rw[hag]
     rw[e]at h1;have h2:=nF hb h1;have hj:(ops[j]?).bind (·.dst)=some t:=by rw[<- R4];exact ht
     have a4:a.tmps[t]?=some (.bool b):=by
      rw[rS]at h2;cases hc:a.tmps[t]? with
      |none=>rw[hc]at h2;cases h2
      |some v=>rw[hc]at h2;simp only[E7]at h2;rw[h2]
     unfold yielded;rw[hj];simp only[T5,a4]
    have hw:∀X' a w,X' (.tmp t)=X (.tmp t)->Sat B X' a w->Region.wanted o (yielded ops a.tmps)=(b==a2):=λX' a w hag hs=>by
     simp only[Region.wanted,hg,hy X' a w hag hs];cases b<;>cases a2<;>rfl
    have h:=h.out;cases hbw:(b==a2) with
    |true =>
     obtain⟨fx,hk,he⟩:=aOp_ok (B:=B) hC hd (h.1 hbw);refine⟨_,hk,λX' hag a w hs K' Q hK=>?_⟩;rw[if_pos (by rw[hw X' a w (hag _ (by simp)) hs];exact hbw)];exact he X' (λl hl=>hag l (by simp[hl])) a w hs K' Q hK
    |false =>
     refine⟨_,h.2 hbw,λX' hag a w hs K' Q hK=>?_⟩;rw[if_neg (by rw[hw X' a w (hag _ (by simp)) hs,hbw];simp)];obtain⟨Y,hs⟩:=hs;exact hK _ _ ⟨Y,hs.put (eN hd) (Q2 _)⟩
   ·split at h
    ·rename_i v hv;obtain⟨a3,h⟩:=h.ok
     have hw:∀X' a w,X' (.tmp t)=X (.tmp t)->Sat B X' a w->Region.wanted o (yielded ops a.tmps)=false:=λX' a w hag ⟨Y,hs⟩=>by
      have h1:=hs.tms t;have e:X'.av t=X.av t:=by unfold St.av;rw[hag]
      rw[e,hv]at h1;have h2:=h1.im_inv;have hj:(ops[j]?).bind (·.dst)=some t:=by rw[<- R4];exact ht
      have hy:yielded ops a.tmps j=none:=by
       unfold yielded;rw[hj];simp only[T5];cases hc:a.tmps[t]? with
       |none=>rfl
       |some u =>
        have e2:a.tmps.getD t undef=u:=by rw[rS,hc];rfl
        rw[e2]at h2;obtain rfl:u=v:=by cases h2;rfl
        cases u<;>first|rfl|(cases a3)
      simp only[Region.wanted,hg,hy];rfl
     refine⟨_,h,λX' hag a w hs K' Q hK=>?_⟩;rw[if_neg (by rw[hw X' a w (hag _ (by simp)) hs];simp)];obtain⟨Y,hs⟩:=hs;exact hK _ _ ⟨Y,hs.put (eN hd) (Q2 _)⟩
    ·exact h.elim
  ·exact h.elim
end
inductive Runs(P:Program)(B:Base)(ops:Array Oper):List Nat->St->List (Nat×Fx)->St->Prop
 |nil (X:St):Runs P B ops [] X [] X
 |cons (i:Nat) (o:Oper) (l:List Nat) (X X':St) (fx:Fx) (fs:List (Nat×Fx)) (ho:ops[i]?=some o) (he:EffG P B ops o fx.rd X fx.wr) (h:Runs P B ops l (app X fx.wr) fs X'):Runs P B ops (i::l) X ((i,fx)::fs) X'
section
variable {P:Program}{B:Base}{ops:Array Oper}
def aOps_runs{C:FuncId->List Arg->Rs->Prop}(hC:∀g xs r,C g xs r->SpX P g xs r){own:List Nat}:∀(l:List Oper) (k:Nat) (fs0:List Mk) (X:St) (K:List Mk->St->Prop),(∀j,l[j]?=ops[k+j]?) ->
  aOps P C B.n own ops.toList l fs0 X K->∃fs X',Runs P B ops (List.range' k l.length) X fs X'/\K (fs0++fs.map λp=>fxm p.2) X'
 |[],k,fs0,X,K,_,h=>⟨[],X,.nil X,by simpa[aOps]using h⟩
 |o::l,k,fs0,X,K,hl,h=>by
  simp only[aOps]at h;obtain⟨fx,h2,he⟩:=aGuard_ok (B:=B) hC h;rw[frcF_eq]at h2;obtain⟨fs,X',hr,hk⟩:=aOps_runs hC l (k+1) (fs0++[fxm fx]) (app X fx.wr) K (λj=>by have:=hl (j+1);simpa[Y7,jC 1 j]using this) h2;have ho:ops[k]?=some o:=by have:=hl 0;simpa using this.symm
  refine⟨(k,fx)::fs,X',?_,by simpa using hk⟩;rw[G8,List.range'_succ];exact .cons k o _ X X' fx fs ho he hr
def wanted_wp{o:Oper}{i:Nat}(ho:ops[i]?=some o){a:Act}{w:World}{K:Act->World->Prop}{Q:Exit->Act->World->Prop}(h:if Region.wanted o (yielded ops a.tmps)=true then o.wp P a w K Q else K (a.put o.dst undef) w):wpOp P ops Q i K a w:=by
 unfold wpOp;simp only[ho];split
 ·rename_i hw;rw[if_pos hw]at h;exact .inl h
 ·rename_i hw;rw[if_neg hw]at h;exact h
def runs_wp{l:List Nat}{X X':St}{fs:List (Nat×Fx)}(h:Runs P B ops l X fs X'):∀{a:Act} {w:World} {Q:Exit->Act->World->Prop},Sat B X a w->(∀a' w',Sat B X' a' w'->Q .normal a' w')->wpOps P ops Q l a w:=by
 induction h with
 |nil X=>intro a w Q hs hQ;exact hQ a w hs
 |cons i o l X X' fx fs ho he hr ih =>
  intro a w Q hs hQ;rw[wpOps_cons];exact wanted_wp ho (he X (λ_ _=>rfl) a w hs _ Q λa' w' a2=>ih a2 hQ)
def iQ{X:St}{l:Loc}:∀{wr:List (Loc×Ct)},(∀p∈wr,p.1≠l)->(app X wr) l=X l:=by
 intro wr
 induction wr generalizing X with
 |nil=>intro _;rfl
 |cons p wr ih =>
  intro h;show(app (upd X p.1 p.2) wr) l=X l;rw[ih λq hq=>h q (M7 _ hq)];rw[R9,if_neg (λe=>h p U9 e.symm)]
def app_in{l:Loc}:∀{wr:List (Loc×Ct)} {X U:St},(∃p∈wr,p.1=l)->(app X wr) l=(app U wr) l:=by
 intro wr
 induction wr with
 |nil=>intro X U h;obtain⟨p,hp,_⟩:=h;cases hp
 |cons p wr ih =>
  intro X U h;show(app (upd X p.1 p.2) wr) l=(app (upd U p.1 p.2) wr) l;by_cases hw:∃q∈wr,q.1=l
  ·exact ih hw
  ·have hn:∀q∈wr,q.1≠l:=λq hq e=>hw ⟨q,hq,e⟩;rw[iQ hn,iQ hn];obtain⟨q,hq,e⟩:=h;rcases M4.1 hq with rfl|hq
   ·rw[R9,R9,if_pos e.symm,if_pos e.symm]
   ·exact absurd e (hn q hq)
def app_comm{u v:List (Loc×Ct)}(h:∀p∈u,∀q∈v,p.1≠q.1)(X:St):app (app X u) v=app (app X v) u:=by
 funext l;by_cases hu:∃p∈u,p.1=l
 ·have hv:∀q∈v,q.1≠l:=λq hq e=>by
   obtain⟨p,hp,e'⟩:=hu;exact h p hp q hq (e'.trans e.symm)
  rw[iQ hv];exact app_in hu
 ·have hn:∀p∈u,p.1≠l:=λp hp e=>hu ⟨p,hp,e⟩;rw[iQ (X:=app X v) hn];by_cases hv:∃q∈v,q.1=l
  ·exact app_in hv
  ·have hm:∀q∈v,q.1≠l:=λq hq e=>hv ⟨q,hq,e⟩;rw[iQ hm,iQ hm,iQ hn]
def bit1_eq(m:Nat)(l:Loc):bit1 m l=Nat.lor m (Nat.pow 2 l.code):=by unfold bit1;rw[p2_eq];rfl
def bit1_old(m:Nat)(l:Loc)(i:Nat)(h:m.testBit i=true):(bit1 m l).testBit i=true:=by
 rw[bit1_eq];show(m ||| 2^l.code).testBit i=true
 rw[uH,h,Bool.true_or]
def bit1_new(m:Nat)(l:Loc):(bit1 m l).testBit l.code=true:=by
 rw[bit1_eq];show(m ||| 2^l.code).testBit l.code=true
 rw[uH,Nat.testBit_two_pow_self,Bool.or_true]
def mskR_old(ls:List Loc):∀(m i:Nat),m.testBit i=true->(mskR ls m).testBit i=true:=by
 induction ls with
 |nil=>intro m i h;exact h
 |cons l r ih=>intro m i h;exact ih _ i (bit1_old m l i h)
def mskR_mem{l:Loc}(ls:List Loc):∀(m:Nat),l∈ls->(mskR ls m).testBit l.code=true:=by
 induction ls with
 |nil=>intro m h;cases h
 |cons l' r ih =>
  intro m h;rcases M4.1 h with rfl|h
  ·exact mskR_old r _ _ (bit1_new m l)
  ·exact ih _ h
def mskW_eq(ps:List (Loc×Ct)):∀m:Nat,mskW ps m=mskR (ps.map (·.1)) m:=by
 induction ps with
 |nil=>intro m;rfl
 |cons p r ih=>intro m;exact ih _
def vO{a b i:Nat}(h:Nat.land a b=0)(ha:a.testBit i=true)(hb:b.testBit i=true):False:=by
 have:(a &&& b).testBit i=true:=by rw[Nat.testBit_and,ha,hb];rfl
 rw[show a &&& b=0 from h,Nat.zero_testBit]at this;cases this
def indep_spec{f g:Fx}(h:indep f g=true):(∀p∈f.wr,p.1∉g.rd)/\(∀p∈f.wr,∀q∈g.wr,p.1≠q.1)/\∀p∈g.wr,p.1∉f.rd:=by
 unfold indep indepM at h;have h:=O5 h;obtain⟨a2,h3⟩:=Nat.or_eq_zero_iff.1 (show(Nat.lor (Nat.land (fxm f).2 (fxm g).1) (Nat.land (fxm f).2 (fxm g).2)) ||| Nat.land (fxm g).2 (fxm f).1=0 from h);obtain⟨h1,h2⟩:=Nat.or_eq_zero_iff.1 (show Nat.land (fxm f).2 (fxm g).1 ||| Nat.land (fxm f).2 (fxm g).2=0 from a2)
 have wm:∀(f:Fx) p,p∈f.wr->(fxm f).2.testBit p.1.code=true:=λf p hp=>by
  show(mskW f.wr 0).testBit _=true;rw[mskW_eq];exact mskR_mem _ 0 (H0.2 ⟨p,hp,rfl⟩)
 have rm:∀(f:Fx) l,l∈f.rd->(fxm f).1.testBit l.code=true:=λf l hl=>mskR_mem _ 0 hl;exact⟨λp hp hc=>vO h1 (wm f p hp) (rm g _ hc),λp hp q hq e=>vO h2 (wm f p hp) (e ▸ wm g q hq),λp hp hc=>vO h3 (wm g p hp) (rm f _ hc)⟩
def EffG.agree{o:Oper}{X X1:St}{fx:Fx}(h:EffG P B ops o fx.rd X fx.wr)(hag:∀l∈fx.rd,X1 l=X l):EffG P B ops o fx.rd X1 fx.wr :=
 λX' hag' a w hs K Q hK=>h X' (λl hl=>(hag' l hl).trans (hag l hl)) a w hs K Q hK
def runs_front{l:List Nat}{X X':St}{fs:List (Nat×Fx)}(h:Runs P B ops l X fs X'){i:Nat}:∀{pre post:List (Nat×Fx)} {fx:Fx},fs=pre++(i,fx)::post->(∀p∈pre,indep p.2 fx=true) ->
  ∃l',Runs P B ops (i::l') X ((i,fx)::(pre++post)) X':=by
 induction h with
 |nil X=>intro pre post fx e _;simp at e
 |cons j o l X X' fj fs ho he hr ih =>
  intro pre post fx e hp;cases pre with
  |nil =>
   simp only[dI,List.cons.injEq,H5]at e;obtain⟨⟨rfl,rfl⟩,rfl⟩:=e;exact⟨l,.cons j o l X X' fj fs ho he hr⟩
  |cons p pre =>
   simp only[kH,List.cons.injEq]at e;obtain⟨rfl,e⟩:=e;obtain⟨l',a4⟩:=ih e λq hq=>hp q (M7 _ hq);obtain⟨h1,h2,h3⟩:=indep_spec (hp (j,fj) U9);cases a4 with
   |cons _ oi _ _ _ _ _ hoi hei hr2 =>
    have a3:EffG P B ops oi fx.rd X fx.wr:=hei.agree λl hl=>(iQ λp hp e=>h1 p hp (e ▸ hl)).symm;have a2:EffG P B ops o fj.rd (app X fx.wr) fj.wr:=he.agree λl hl=>iQ λp hp e=>h3 p hp (e ▸ hl);refine⟨j::l',.cons i oi _ X X' fx _ hoi a3 (.cons j o _ _ X' fj _ ho a2 ?_)⟩;rw[<- app_comm h2];exact hr2
end
end
section
def befStep_spec{acc:List Nat}{o:Oper}{j:Nat}(h:(kR acc o).testBit j=true):∃e∈o.after.toList,Region.binds .any e=true/\(j=e.on\/(acc.getD e.on 0).testBit j=true):=by
 unfold kR at h
 have key:∀(l:List Edge) (s:Nat),(l.foldl (λs e=>if Region.binds .any e=true then s ||| 2^e.on ||| acc.getD e.on 0 else s) s).testBit j=true ->
   s.testBit j=true\/∃e∈l,Region.binds .any e=true/\(j=e.on\/(acc.getD e.on 0).testBit j=true):=by
  intro l
  induction l with
  |nil=>intro s h;exact .inl h
  |cons e l ih =>
   intro s h;rw[gA]at h;rcases ih _ h with h1|⟨e',he',h2⟩
   ·by_cases hb:Region.binds .any e=true
    ·rw[if_pos hb,uH,uH,uI,uI]at h1;rcases h1 with (h1|h1)|h1
     ·exact .inl h1
     ·rw[Nat.testBit_two_pow]at h1;exact .inr ⟨e,by simp,hb,.inl (of_decide_eq_true h1).symm⟩
     ·exact .inr ⟨e,by simp,hb,.inr h1⟩
    ·rw[if_neg hb]at h1;exact .inl h1
   ·exact .inr ⟨e',by simp[he'],h2⟩
 rcases key _ 0 h with h1|h1
 ·simp at h1
 ·exact h1
def befs_spec(ops:List Oper):∀(i:Nat) (o:Oper),ops[i]?=some o->∀j,((befs ops).getD i 0).testBit j=true->∃e∈o.after.toList,Region.binds .any e=true/\(j=e.on\/((befs ops).getD e.on 0).testBit j=true):=by
 have key:∀(rest pre:List Oper) (acc:List Nat),acc.length=pre.length->(∀(i:Nat) (o:Oper),pre[i]?=some o->∀j,(acc.getD i 0).testBit j=true->∃e∈o.after.toList,Region.binds .any e=true/\(j=e.on\/(acc.getD e.on 0).testBit j=true)) ->
   (∀(i:Nat) (o:Oper),(pre++rest)[i]?=some o->∀j,((rest.foldl (λacc o=>acc++[kR acc o]) acc).getD i 0).testBit j=true->∃e∈o.after.toList,Region.binds .any e=true/\(j=e.on\/((rest.foldl (λacc o=>acc++[kR acc o]) acc).getD e.on 0).testBit j=true)):=by
  intro rest
  induction rest with
  |nil=>intro pre acc _ h;simpa using h
  |cons o rest ih =>
   intro pre acc hl h;have e:pre++o::rest=(pre++[o])++rest:=by simp
   rw[e]
   have grow:∀p j,(acc.getD p 0).testBit j=true->((acc++[kR acc o]).getD p 0).testBit j=true:=λp j hj=>by
    by_cases hp:p<acc.length
    ·rw[eG,Q0,if_pos hp,<- eG];exact hj
    ·rw[eG,L0 (by omega)]at hj;simp at hj
   refine ih (pre++[o]) (acc++[kR acc o]) (by simp[hl]) λi o' a2 j hj=>?_;rw[Q0]at a2;split at a2
   ·rename_i hi;rw[eG,Q0,if_pos (by omega),<- eG]at hj;obtain⟨e1,h1,h2,h3⟩:=h i o' a2 j hj;exact⟨e1,h1,h2,h3.imp id (grow _ _)⟩
   ·rename_i hi
    have a3:i=acc.length:=by
     have:=(E0.1 a2).1;simp at this;omega
    subst a3;have:o'=o:=by simpa[hl]using a2.symm
    subst this;rw[eG,Q0,if_neg (by omega)]at hj;simp at hj;obtain⟨e1,h1,h2,h3⟩:=befStep_spec hj;exact⟨e1,h1,h2,h3.imp id (grow _ _)⟩
 intro i o ho j hj;exact key ops [] [] rfl (by simp) i o (by simpa using ho) j hj
def BO{bs:List Nat}{f:Mk}{i:Nat}:∀{fs:List Mk} {j:Nat},drawRow bs f i j fs=true->∀(k:Nat) g,fs[k]?=some g->indepM f g=true\/(bs.getD (j+k) 0).testBit i=true
 |[],j,_,k,g,h=>by simp at h
 |g0::fs,j,h,k,g,hg=>by
  simp only[drawRow,O2,uI]at h;cases k with
  |zero=>simp at hg;subst hg;exact h.1
  |succ k =>
   have:=BO h.2 k g (by simpa using hg);rw[show j+1+k=j+(k+1) from by omega]at this;exact this
def BZ{bs:List Nat}:∀{fs:List Mk} {i:Nat},oY bs i fs=true->∀(p q:Nat) f g,p<q->fs[p]?=some f->fs[q]?=some g->indepM f g=true\/(bs.getD (i+q) 0).testBit (i+p)=true
 |[],i,_,p,q,f,g,_,hf,_=>by simp at hf
 |f0::fs,i,h,p,q,f,g,hpq,hf,hg=>by
  simp only[oY,O2]at h;cases q with
  |zero=>omega
  |succ q =>
   cases p with
   |zero =>
    simp at hf;subst hf;have:=BO h.1 q g (by simpa using hg);rw[show i+1+q=i+(q+1) from by omega]at this;exact this
   |succ p =>
    have:=BZ h.2 p q f g (by omega) (by simpa using hf) (by simpa using hg);rw[show i+1+q=i+(q+1) from by omega,show i+1+p=i+(p+1) from by omega]at this;exact this
def AX:∀{l:List Oper} {i:Nat},edgeOk i l=true->∀(k:Nat) o,l[k]?=some o->∀e∈o.after.toList,Region.binds .any e=true->e.on<i+k
 |[],i,_,k,o,h=>by simp at h
 |o0::l,i,h,k,o,ho=>by
  simp only[edgeOk,O2,R3,uI,rQ]at h;cases k with
  |zero =>
   simp at ho;subst ho;intro e he hb;rcases h.1 e he with h1|h1
   ·rw[hb]at h1;cases h1
   ·exact aK h1
  |succ k =>
   intro e he hb;have:=AX h.2 k o (by simpa using ho) e he hb;omega
section
variable {P:Program}{B:Base}{ops:Array Oper}
def runs_idx{l:List Nat}{X X':St}{fs:List (Nat×Fx)}(h:Runs P B ops l X fs X'):fs.map (·.1)=l/\∀i∈l,i<ops.size:=by
 induction h with
 |nil X=>exact⟨rfl,by simp⟩
 |cons i o l X X' fx fs ho he hr ih =>
  refine⟨by simp[ih.1],λj hj=>?_⟩;rcases M4.1 hj with rfl|hj
  ·exact(iJ.1 ho).1
  ·exact ih.2 j hj
def Apart(ops:Array Oper)(fs:List (Nat×Fx)):Prop :=
 fs.Pairwise λp q=>indep p.2 q.2=true\/((befs ops.toList).getD q.1 0).testBit p.1=true
def getD_two{l:Array Bool}{i:Nat}(h:i<l.size)(d d':Bool):l.getD i d=l.getD i d':=by simp[h]
def runs_any{Q:Exit->Act->World->Prop}(hed:edgeOk 0 ops.toList=true):∀(fuel:Nat) (listed:Array Bool) (l:List Nat) (X X':St) (fs:List (Nat×Fx)) (a:Act) (w:World),listed.size=ops.size->l.length=fuel->(∀i,i∈l↔listed.getD i true=false) ->
  (∀k o,ops[k]?=some o->listed.getD k false=true->∀j,((befs ops.toList).getD k 0).testBit j=true->listed.getD j false=true)->Apart ops fs->l.Pairwise (·<·)->Runs P B ops l X fs X'->Sat B X a w->(∀a' w',Sat B X' a' w'->Q .normal a' w') ->
  wpAny P .any ops Q fuel listed a w
 |0,listed,l,X,X',fs,a,w,hsz,hlen,hmem,hdn,hap,hnd,hr,hs,hQ=>by
  have hl:l=[]:=V0 hlen;subst hl;cases hr with
  |nil _ =>
   refine⟨?_,hQ a w hs⟩;rw[List.eq_nil_iff_forall_not_mem];intro i hi;exact absurd ((hmem i).2 (mem_ready.1 hi).1) (by simp)
 |fuel+1,listed,l,X,X',fs,a,w,hsz,hlen,hmem,hdn,hap,hnd,hr,hs,hQ=>by
  obtain⟨hidx,hlt⟩:=runs_idx hr
  have hon:∀i o,ops[i]?=some o->∀e∈o.after.toList,Region.binds .any e=true->e.on<i:=λi o ho e he hb=>by
   have:=AX hed i o (by rw[R4];exact ho) e he hb;omega
  refine⟨λhnil=>?_,λi hi=>?_⟩
  ·exfalso;cases l with
   |nil=>simp at hlen
   |cons i l =>
    have hi:=hlt i (by simp)
    have hrd:i∈Region.ready .any ops listed:=by
     rw[mem_ready];refine⟨(hmem i).1 (by simp),ops[i],rO hi,λe he hb=>?_⟩;have h1:=hon i ops[i] (rO hi) e (by simpa using he) hb
     have h2:e.on∉i::l:=λhm=>by
      rcases M4.1 hm with h|h
      ·omega
      ·have:=(bW.1 hnd).1 _ h;omega
     rw[getD_two (by omega) false true];cases hc:listed.getD e.on true with
     |true=>rfl
     |false=>exact absurd ((hmem _).2 hc) h2
    rw[hnil]at hrd;cases hrd
  ·obtain⟨c0,o,ho,a8⟩:=mem_ready.1 hi;have a7:i∈l:=(hmem i).2 c0;have a6:=hlt i a7
   have a9:∀j,((befs ops.toList).getD i 0).testBit j=true->listed.getD j false=true:=λj hj=>by
    obtain⟨e,he,hb,h1⟩:=befs_spec ops.toList i o (by rw[R4];exact ho) j hj;have hl:=a8 e (by simpa using he) hb;have c6:=hon i o ho e he hb;rcases h1 with rfl|h1
    ·exact hl
    ·exact hdn e.on ops[e.on] (rO (by omega)) hl j h1
   obtain⟨pre,fx,post,a2⟩:∃pre fx post,fs=pre++(i,fx)::post:=by
    rw[<- hidx]at a7;obtain⟨p,hp,e⟩:=H0.1 a7;obtain⟨pre,post,b7⟩:=List.append_of_mem hp;exact⟨pre,p.2,post,by rw[b7,<- e]⟩
   have b2:∀p∈pre,indep p.2 fx=true:=λp hp=>by
    unfold Apart at hap;rw[a2,rJ]at hap;rcases hap.2.2 p hp (i,fx) U9 with h1|h1
    ·exact h1
    ·have h2:=a9 p.1 h1;have b3:p.1∈l:=by rw[<- hidx,a2];exact H0.2 ⟨p,K9 _ hp,rfl⟩
     have h3:=(hmem p.1).1 b3;rw[getD_two (by rw[hsz];exact hlt _ b3) true false,h2]at h3;cases h3
   obtain⟨l',b4⟩:=runs_front hr a2 b2;have a3:=(runs_idx b4).1;simp only[M2,List.cons.injEq,true_and]at a3;have a4:l=pre.map (·.1)++i::post.map (·.1):=by rw[<- hidx,a2];simp
   have a5:l'=pre.map (·.1)++post.map (·.1):=by rw[<- a3];simp
   have b5:List.Sublist l' l:=by
    rw[a4,a5];exact List.Sublist.append (List.Sublist.refl _) (uN _ _)
   have b6:i∉l':=by
    rw[a4,rJ]at hnd;obtain⟨_,h2,h3⟩:=hnd;rw[a5,I2];rintro (h|h)
    ·have:=h3 i h i (by simp);omega
    ·have:=(bW.1 h2).1 i h;omega
   cases b4 with
   |cons _ oi _ _ _ _ _ hoi hei hr2 =>
    refine wanted_wp hoi (hei X (λ_ _=>rfl) a w hs _ Q λa' w' b8=>?_);refine runs_any hed fuel (listed.setIfInBounds i true) l' _ X' (pre++post) a' w' (by simp[hsz]) ?_ (λj=>?_) (λk ok b9 hk j hj=>?_) ?_ (hnd.sublist b5) hr2 b8 hQ
    ·rw[a4]at hlen;rw[a5];simp at hlen ⊢;omega
    ·by_cases e:j=i
     ·subst e;constructor
      ·intro h;exact absurd h b6
      ·intro h;rw[getD_two (by simp[hsz];exact a6) true false,show(listed.setIfInBounds j true).getD j false=true by simp[hsz,a6]]at h;cases h
     ·rw[getD_set_ne true (Ne.symm e),<- hmem j,a4,a5];simp[e]
    ·by_cases e:k=i
     ·subst e;exact getD_set_true (a9 j hj)
     ·rw[getD_set_ne false (Ne.symm e)]at hk;exact getD_set_true (hdn k ok b9 hk j hj)
    ·unfold Apart at hap ⊢;rw[a2]at hap;exact hap.sublist (List.Sublist.append (List.Sublist.refl _) (uN _ _))
def apart_of{fs:List (Nat×Fx)}{n:Nat}(hidx:fs.map (·.1)=List.range n)(h:oY (befs ops.toList) 0 (fs.map λp=>fxm p.2)=true):Apart ops fs:=by
 unfold Apart;rw[dL];intro p q hp hq a2;have h1:=BZ h p q (fxm fs[p].2) (fxm fs[q].2) a2 (by simp[hp]) (by simp[hq])
 have idx:∀r (hr:r<fs.length),fs[r].1=r:=λr hr=>by
  have:(fs.map (·.1))[r]?=some fs[r].1:=by simp[hr]
  rw[hidx]at this;have a3:fs.length=n:=by have:=congrArg List.length hidx;simpa using this
  rw[P4 (by omega)]at this;injection this with this
  exact this.symm
 rw[idx p hp,idx q hq];unfold indep;simpa only[E8]using h1
def aRegion_ok(hm:P.follows .mixedOrders=true){C:FuncId->List Arg->Rs->Prop}(hC:∀g xs r,C g xs r->SpX P g xs r){own:List Nat}{id:Nat}{draw:Bool}{X:St}{K:Exit->St->Prop}
  (h:aOps P C B.n own ops.toList ops.toList [] X λfs X'=>Chk (!draw||drawOk ops.toList fs) (K .normal X')) {a:Act} {w:World} (hs:Sat B X a w) {Q:Exit->Act->World->Prop} (hQ:∀e X' a' w',K e X'->Sat B X' a' w'->Q e a' w'):(Code.region id ops draw).wp P Q a w:=by
 obtain⟨fs,X',hr,hk⟩:=aOps_runs (B:=B) (ops:=ops) hC ops.toList 0 [] X _ (λj=>by simp) h;rw[<- List.range_eq_range']at hr;rw[dI]at hk;obtain⟨a2,a4⟩:=hk.ok;have a6:ops.toList.length=ops.size:=by simp
 rw[a6]at hr;cases draw with
 |false=>exact wp_region (runs_wp hr hs λa' w' a3=>hQ .normal X' a' w' a4 a3)
 |true =>
  simp only[Z9,rB]at a2;unfold drawOk at a2;rw[O2]at a2;refine wp_region_any hm ?_;have a5:=(runs_idx hr).1;refine runs_any a2.1 ops.size (Array.replicate ops.size false) (List.range ops.size) X X' fs a _ (by simp) (by simp) (λi=>?_) (λk o ho hk=>?_) (apart_of a5 a2.2) List.pairwise_lt_range hr ?_ λa' w' a3=>hQ .normal X' a' w' a4 a3
  ·by_cases h:i<ops.size
   ·simp[h]
   ·simp[h]
  ·have:k<ops.size:=(iJ.1 ho).1;simp[this]at hk
  ·obtain⟨Y,hs⟩:=hs;exact⟨Y,(hs.world (w':={ w with drawn:=w.drawn+1 }) ⟨rfl,rfl,rfl,F9 _,λ_ _=>rfl⟩).1⟩
end
end
section
variable {w:World}{a:Act}{fn:Func}{f:FuncId}{c:Code}
def least{p:Nat->Prop}(h:∃m,p m):∃m,p m/\∀k,p k->m<=k:=by
 obtain⟨m,hm⟩:=h
 induction m using Nat.strongRecOn with
 |_ m ih =>
  by_cases hk:∃k,k<m/\p k
  ·obtain⟨k,h1,h2⟩:=hk;exact ih k h1 h2
  ·exact⟨m,hm,λk hp=>by
    rcases J3 k m with h1|h1
    ·exact absurd ⟨k,h1,hp⟩ hk
    ·exact h1⟩
section
variable {P:Program}{B:Base}
def fL.out{body:(Exit->St->Prop)->St->Prop}{K:Exit->St->Prop}{X:St}(h:fL body K X) :
  ∃(I:Nat->St->Prop) (m:Nat),I m X/\∀m X,I m X->∃X1 J,Ent X X1/\Holds X1 J/\(J->body (λe X'=>match e with|.normal=>∃m',m'<m/\I m' X'|e=>K e X') X1):=by
 unfold fL at h;exact h
open Classical in
def loop_ok{body:Code}{K:Exit->St->Prop}{X:St}{f:(Exit->St->Prop)->St->Prop}(h:fL f K X)
  (hbody:∀(K':Exit->St->Prop) (X:St),f K' X->∀a w,Sat B X a w->∀Q:Exit->Act->World->Prop,(∀e X' a' w',K' e X'->Sat B X' a' w'->Q e a' w')->body.wp P Q a w)
  {a:Act} {w:World} (hs:Sat B X a w) {Q:Exit->Act->World->Prop} (hQ:∀e X' a' w',K e X'->Sat B X' a' w'->Q e a' w'):(Code.loop body).wp P Q a w:=by
 obtain⟨I,m0,h0,hI⟩:=h.out
 let L:Act->World->Nat->Prop:=λa w m=>∃X,I m X/\Sat B X a w
 let D:Act->World->Nat:=λa w=>if h:∃m,L a w m then Classical.choose (least h) else 0
 refine wp_loop (λa w=>∃m,L a w m) D ⟨m0,X,h0,hs⟩ λa w hL=>?_;obtain⟨h1,h2⟩:=uL (least hL);have hD:D a w=Classical.choose (least hL):=by simp only[D];rw[dif_pos hL]
 generalize hm:Classical.choose (least hL)=m at h1 h2 hD;obtain⟨X1,hX1,a6⟩:=h1;obtain⟨X2,J,a3,hJ,hb⟩:=hI m X1 hX1;have a5:=a3 B a w a6;refine hbody _ X2 (hb (hJ B a w a5)) a w a5 _ λe X' a' w' hk hs'=>?_;cases e with
 |normal =>
  obtain⟨m',a7,a4⟩:=hk;have a2:∃m,L a' w' m:=⟨m',X',a4,hs'⟩;refine⟨a2,?_⟩;have h3:=(uL (least a2)).2 m' ⟨X',a4,hs'⟩;have hD':D a' w'=Classical.choose (least a2):=by simp only[D];rw[dif_pos a2]
  rw[hD',hD];omega
 |exit id=>exact hQ _ X' a' w' hk hs'
 |goto l=>exact hQ _ X' a' w' hk hs'
 |ret=>exact hQ _ X' a' w' hk hs'
 |panic ch=>exact hQ _ X' a' w' hk hs'
 |outgrown=>exact hQ _ X' a' w' hk hs'
def dV(hm:P.follows .mixedOrders=true){C:FuncId->List Arg->Rs->Prop}(hC:∀g xs r,C g xs r->SpX P g xs r){own:List Nat}:∀(c:Code) (K:Exit->St->Prop) (X:St),X8 P C B.n own c K X->∀a w,Sat B X a w->∀Q:Exit->Act->World->Prop,
  (∀e X' a' w',K e X'->Sat B X' a' w'->Q e a' w')->c.wp P Q a w
 | .skip,K,X,h,a,w,hs,Q,hQ=>wp_skip (hQ .normal X a w h hs)
 | .region id ops draw,K,X,h,a,w,hs,Q,hQ=>aRegion_ok hm hC (id:=id) h hs hQ
 | .seq x y,K,X,h,a,w,hs,Q,hQ=>by
  simp only[X8]at h;split at h
  case h_2 =>
   obtain⟨Post,h1,h2⟩:=h.out;refine wp_seq (dV hm hC x _ X h1 a w hs _ λe X' a' w' hk hs'=>?_);cases e with
   |normal =>
    obtain⟨X1,he,hp⟩:=hk;obtain⟨J,hJ,h3⟩:=h2 X1 hp;have hs1:=he B a' w' hs';exact dV hm hC y K X1 (h3 (hJ B a' w' hs1)) a' w' hs1 Q hQ
   |exit id=>exact hQ _ X' a' w' hk hs'
   |goto l=>exact hQ _ X' a' w' hk hs'
   |ret=>exact hQ _ X' a' w' hk hs'
   |panic ch=>exact hQ _ X' a' w' hk hs'
   |outgrown=>exact hQ _ X' a' w' hk hs'
  refine wp_seq (dV hm hC x _ X h a w hs _ λe X' a' w' hk hs'=>?_);cases e with
  |normal=>exact dV hm hC y K X' hk a' w' hs' Q hQ
  |exit id=>exact hQ _ X' a' w' hk hs'
  |goto l=>exact hQ _ X' a' w' hk hs'
  |ret=>exact hQ _ X' a' w' hk hs'
  |panic ch=>exact hQ _ X' a' w' hk hs'
  |outgrown=>exact hQ _ X' a' w' hk hs'
 | .cond c x y,K,X,h,a,w,hs,Q,hQ=>by
  simp only[X8]at h;split at h
  ·rename_i t ht;obtain⟨h1,h2⟩:=h.out
   have hc:a.eval c=.bool t:=by
    obtain⟨Y,hs⟩:=hs;exact nF ht (E6 hs c)
   cases ht':t with
   |true=>exact wp_cond_true (hc.trans (by rw[ht'])) (dV hm hC x K X (h1 ht') a w hs Q hQ)
   |false=>exact wp_cond_false (hc.trans (by rw[ht'])) (dV hm hC y K X (h2 ht') a w hs Q hQ)
  ·exact h.elim
 | .block id body,K,X,h,a,w,hs,Q,hQ=>by
  simp only[X8]at h;split at h
  case h_2 =>
   obtain⟨Post,h1,h2⟩:=h.out
   have a2:∀X' a' w',(∃X1,Ent X' X1/\Post X1)->Sat B X' a' w'->Q .normal a' w':=λX' a' w' ⟨X1,he,hp⟩ hs'=>by
    obtain⟨J,hJ,h3⟩:=h2 X1 hp;have hs1:=he B a' w' hs';exact hQ _ X1 a' w' (h3 (hJ B a' w' hs1)) hs1
   refine wp_block (dV hm hC body _ X h1 a w hs _ λe X' a' w' hk hs'=>?_);cases e with
   |exit j =>
    simp only at hk;show(if j=id then Q .normal a' w' else Q (.exit j) a' w');by_cases e:j=id
    ·rw[if_pos e]at hk ⊢;exact a2 X' a' w' hk hs'
    ·rw[if_neg e]at hk ⊢;exact hQ _ X' a' w' hk hs'
   |normal=>exact a2 X' a' w' hk hs'
   |goto l=>exact hQ _ X' a' w' hk hs'
   |ret=>exact hQ _ X' a' w' hk hs'
   |panic ch=>exact hQ _ X' a' w' hk hs'
   |outgrown=>exact hQ _ X' a' w' hk hs'
  refine wp_block (dV hm hC body _ X h a w hs _ λe X' a' w' hk hs'=>?_);cases e with
  |exit j =>
   simp only at hk;show(if j=id then Q .normal a' w' else Q (.exit j) a' w');by_cases e:j=id
   ·rw[if_pos e]at hk ⊢;exact hQ _ X' a' w' hk hs'
   ·rw[if_neg e]at hk ⊢;exact hQ _ X' a' w' hk hs'
  |normal=>exact hQ _ X' a' w' hk hs'
  |goto l=>exact hQ _ X' a' w' hk hs'
  |ret=>exact hQ _ X' a' w' hk hs'
  |panic ch=>exact hQ _ X' a' w' hk hs'
  |outgrown=>exact hQ _ X' a' w' hk hs'
 | .loop body,K,X,h,a,w,hs,Q,hQ=>loop_ok h (λK' X h a w hs Q hQ=>dV hm hC body K' X h a w hs Q hQ) hs hQ
 | .exit id,K,X,h,a,w,hs,Q,hQ=>wp_exit (hQ _ X a w h hs)
 | .ret,K,X,h,a,w,hs,Q,hQ=>wp_ret (hQ _ X a w h hs)
 | .rangeFunc ..,_,_,h,_,_,_,_,_=>h.elim
 | .scope body,K,X,h,a,w,hs,Q,hQ=>by
  refine wp_scope_straight (dV hm hC body _ X h a w hs _ λe X' a' w' hk hs'=>?_);cases e with
  |goto l=>exact hk.elim
  |exit j=>exact hQ _ X' a' w' hk hs'
  |normal=>exact hQ _ X' a' w' hk hs'
  |ret=>exact hQ _ X' a' w' hk hs'
  |panic ch=>exact hQ _ X' a' w' hk hs'
  |outgrown=>exact hQ _ X' a' w' hk hs'
 | .label _,K,X,h,a,w,hs,Q,hQ=>wp_label (hQ _ X a w h hs)
 | .goto _,_,_,h,_,_,_,_,_=>h.elim
 | .refuse _,_,_,h,_,_,_,_,_=>h.elim
def resA(P:Program)(X:St):ResultVar->Option (AV×G4)
 | .tmp t=>some (X.av t,[])
 | .cell c t=>match X.av c with
  | .own b g i=>match dM P t with
   |some false=>if Nat.blt i (cX X b)=true then some (X.ce b i,[(b,g)]) else none
   |some true=>match szOf P t with
    |some m=>if(Nat.blt 0 m&&Nat.ble (i+m) (cX X b))=true then some (aggA ((List.range m).map λj=>X.ce b (i+j)),[(b,g)]) else none
    |none=>none
   |none=>none
  |_=>none
def resAs(P:Program)(X:St):List ResultVar->Option (List AV×G4)
 |[]=>some ([],[])
 |r::l=>match resA P X r,resAs P X l with|some (v,b),some (vs,bs)=>some (v::vs,b++bs)|_,_=>none
def outC(X:St)(c:Oc)(a:AV):Option (Oc×G4×G4):=match c with
 | .im _=>match fz X a with
  |some (x,bs)=>some (.im x,bs,[])
  |none=>none
 | .ow k0=>match a with
  | .osl b g=>match objG X b with
   |some k=>some (.ow k,[],[(b,g)])
   |none=>none
  | .im x=>match k0 with
   | .row e k _=>match nilRow x e k with
    |some q=>some (.ow q,[],[])
    |none=>none
   |_=>none
  |_=>none
def outCs(X:St):List Oc->List AV->Option (List Oc×G4×G4)
 |[],[]=>some ([],[],[])
 |c::cs,a::l=>match outC X c a,outCs X cs l with
  |some (x,bs,gs),some (xs,bs',gs')=>some (x::xs,bs++bs',gs++gs')
  |_,_=>none
 |_,_=>none
def X9(X:St):Nat->List Arg->List Arg->Option (List Arg×G4×G4)
 |_,[],[]=>some ([],[],[])
 |i,.im _::xs,ys=>X9 X (i+1) xs ys
 |i,.ow _::xs,ys=>X9 X (i+1) xs ys
 |i,.box _ _::xs,.box _ cs::ys=>match X.kd i with
  | .box t _=>match outCs X cs (dP X i),X9 X (i+1) xs ys with
   |some (cs',bs,gs),some (l,bs',gs')=>some (.box t cs'::l,bs++bs',((i,0)::gs)++gs')
   |_,_=>none
  |_=>none
 |i,.lent _::xs,.lent _::ys=>match objG X i,X9 X (i+1) xs ys with
  |some k,some (l,bs',gs')=>some (.lent k::l,bs',(i,0)::gs')
  |_,_=>none
 |_,_,_=>none
def RetOk(P:Program)(rs:List ResultVar)(xs:List Arg)(X:St)(r:Rs):Prop :=
 match resAs P X rs,r with
 |some (vs,c),.mk tp l ys=>Chk (match tp with|true=>!Nat.beq vs.length 1|false=>Nat.beq vs.length 1) (bD X c (match outCs X l vs,X9 X 0 xs ys with
  |some (l',bs,gs),some (ys',bs',gs')=>Chk (ndB ((gs++gs').map (·.1)) ((bs++bs').map (·.1))) (bD X ((bs++bs')++(gs++gs')) (l'=l/\ys'=ys))
  |_,_=>False))
 |none,_=>False
def retK(P:Program)(rs:List ResultVar)(xs:List Arg)(r:Rs):Exit->St->Prop
 | .ret,X=>RetOk P rs xs X r
 | .normal,X=>RetOk P rs xs X r
 |_,_=>False
def oneRes(tmps:Array Value):ResultVar->Sem Value
 | .tmp t=>pure (tmps.getD t undef)
 | .cell c t=>do loadVar t (<- asAddr (tmps.getD c undef))
def AC(fn:Func)(tmps:Array Value):results fn tmps=(do let vs <- fn.results.mapM (oneRes tmps);pure (if h:vs.size=1 then vs[0] else .tuple vs)):=by
 unfold results
 have e:(λr:ResultVar=>match r with
  | .tmp t=>(pure (tmps.getD t undef):Sem Value)
  | .cell a t=>do loadVar t (<- asAddr (tmps.getD a undef)))=oneRes tmps:=funext λr=>by cases r<;>rfl
 rw[<- e];rfl
def resA_ok{X:St}{Y:Ly}(h:SatR B X a w Y){r:ResultVar}{v:AV}{bs:G4}(e:resA P X r=some (v,bs))(hg:∀p∈bs,X.gn p.1=p.2) :
  ∃u,(oneRes a.tmps r).run P w=.ok u w/\RepA w (Imm B X Y w) Y X.gn u v:=by
 cases r with
 |tmp t =>
  simp only[resA,D6,H5]at e;rw[<- e.1];exact⟨_,rfl,h.tms t⟩
 |cell c t =>
  simp only[resA]at e;split at e
  ·rename_i b g i hc;have h1:=h.tms c;rw[hc]at h1
   have ld:∀q u,a.tmps.getD c undef=.pointer (some q)->(Instr.loadAt t (.pointer (some q))).run P w=.ok u w->(do loadVar t (<- asAddr (a.tmps.getD c undef)):Sem Value).run P w=.ok u w:=λq u e1 e2=>by
    simp only[Instr.loadAt,Instr.sureAddr,Sem.run_bind,Sem.run_pure,Result.andThen_ok]at e2;simp only[e1,asAddr,Sem.run_bind,Sem.run_pure,Result.andThen_ok,e2]
   split at e
   ·rename_i a3;split at e
    ·rename_i hi;simp only[D6,H5]at e;obtain⟨rfl,rfl⟩:=e;obtain⟨t',m,hk,a6⟩:=qG (aK hi);obtain⟨q,us,e1,_,_,hl,a2,a4,hr⟩:=jS h h1 (hg (b,g) (by simp)) hk;obtain⟨u,hu⟩:∃u,us[i]?=some u:=⟨_,K8 (by omega)⟩;exact⟨u,ld _ u e1 (mO a3 (a4 i u hu)),hr i u hu⟩
    ·cases e
   ·rename_i a3;split at e
    ·rename_i m hm;split at e
     ·rename_i hi;simp only[D6,H5]at e;obtain⟨rfl,rfl⟩:=e;rw[O2]at hi;have a9:=aK hi.1;have hi:=gQ hi.2;obtain⟨t',m',hk,a6⟩:=qG (X:=X) (b:=b) (i:=i) (by omega);have a8:=sL hk;obtain⟨q,us,e1,_,_,hl,a2,a4,hr⟩:=jS h h1 (hg (b,g) (by simp)) hk;have a5:((us.drop i).take m).length=m:=by rw[M3,V7];omega
      refine⟨.agg ((us.drop i).take m).toArray,ld _ _ e1 (pO a3 (by rw[a5];exact hm) λj u hj=>a4 (i+j) u (iZ hj).1),rZ ⟨by rw[a5];simp,λj u x hj hx=>?_⟩ λu hu=>a2 u (bX (aD hu))⟩;obtain⟨h3,a7⟩:=iZ hj;simp only[H1,P4 a7,J4,D6]at hx;rw[<- hx];exact hr _ u h3
     ·cases e
    ·cases e
   ·cases e
  ·cases e
def resAs_ok{X:St}{Y:Ly}(h:SatR B X a w Y):∀{rs:List ResultVar} {vs:List AV} {bs:G4},resAs P X rs=some (vs,bs)->(∀p∈bs,X.gn p.1=p.2) ->
  ∃us:List Value,(rs.mapM (oneRes a.tmps)).run P w=.ok us w/\Reps w (Imm B X Y w) Y X.gn us vs
 |[],vs,bs,e,_=>by
  simp only[resAs,D6,H5]at e;rw[<- e.1];exact⟨[],by simp,rfl,by simp⟩
 |r::rs,vs,bs,e,hg=>by
  simp only[resAs]at e;split at e
  ·rename_i v b1 vs1 bs1 h1 h2;simp only[D6,H5]at e;obtain⟨rfl,rfl⟩:=e;obtain⟨u,hu,hr⟩:=resA_ok h h1 λp hp=>hg p (K9 _ hp);obtain⟨us,hus,hrs⟩:=resAs_ok h h2 λp hp=>hg p (L2 _ hp);refine⟨u::us,?_,by simp[hrs.1],λi x y hx hy=>?_⟩
   ·rw[List.mapM_cons];simp only[Sem.run_bind,hu,Result.andThen_ok,hus,Sem.run_pure]
   ·cases i with
    |zero=>simp at hx hy;rw[<- hx,<- hy];exact hr
    |succ i=>exact hrs.2 i x y (by simpa using hx) (by simpa using hy)
  ·cases e
def outC_ok{X:St}{Y:Ly}(h:SatR B X a w Y){bs0:G4}(hgk:∀p∈bs0,X.gn p.1=p.2){c:Oc}{u:Value}{v:AV}{x:Oc}{bs gs:G4}(hu:RepA w (Imm B X Y w) Y X.gn u v)(e:outC X c v=some (x,bs,gs))(hb:∀p∈bs,p∈bs0)(hg:∀p∈gs,X.gn p.1=p.2) :
  OcOk w (Imm B (app X (fwr bs0)) Y w) u x (K4 X Y gs):=by
 have hI:=(h.kills bs0).2;unfold outC at e;split at e
 ·split at e
  ·rename_i y bs' hy;simp only[D6,H5]at e;obtain⟨rfl,rfl,rfl⟩:=e;exact⟨gC h hgk hu hy hb,rfl⟩
  ·cases e
 ·split at e
  ·rename_i b g;split at e
   ·rename_i k hk;simp only[D6,H5]at e;obtain⟨rfl,rfl,rfl⟩:=e;have a2:=hg (b,g) (by simp)
    have hv:u=Y b:=by
     cases hu with
     |osl _ _ _ _ _ hh=>exact hh a2
    have hh:=rW h hk;subst hv;refine⟨hh.one,Y.inn b,hh.mono (λ_ _=>rfl) hI,?_⟩;unfold K4;rw[S6,oI,W8,(mY hk).1]
   ·cases e
  ·have hu:=hu.im_inv;split at e
   ·split at e
    ·rename_i q hq;simp only[D6,H5]at e;obtain⟨rfl,rfl,rfl⟩:=e;obtain⟨rfl,k',rfl⟩:=wG hq;cases hu;exact nil_oc _ _ _ _
    ·cases e
   ·cases e
  ·cases e
def sA{X:St}{Y:Ly}(h:SatR B X a w Y){bs0:G4}(hgk:∀p∈bs0,X.gn p.1=p.2):∀{cs:List Oc} {us:List Value} {vs:List AV} {xs:List Oc} {bs gs:G4},Reps w (Imm B X Y w) Y X.gn us vs->outCs X cs vs=some (xs,bs,gs)->(∀p∈bs,p∈bs0)->(∀p∈gs,X.gn p.1=p.2) ->
  bS w (Imm B (app X (fwr bs0)) Y w) us xs (K4 X Y gs)
 |[],us,[],xs,bs,gs,hr,e,_,_=>by
  simp only[outCs,D6,H5]at e;rw[<- e.1,<- e.2.2,V0 hr.1];exact rfl
 |[],_,_::_,_,_,_,_,e,_,_=>by simp[outCs]at e
 |_::_,_,[],_,_,_,_,e,_,_=>by simp[outCs]at e
 |c::cs,[],v::vs,_,_,_,hr,_,_,_=>by have:=hr.1;simp at this
 |c::cs,u::us,v::vs,xs,bs,gs,hr,e,hb,hg=>by
  simp only[outCs]at e;split at e
  ·rename_i x b1 g1 xs1 bs1 gs1 h1 h2;simp only[D6,H5]at e;obtain⟨rfl,rfl,rfl⟩:=e
   exact⟨_,_,outC_ok h hgk (hr.2 0 u v rfl rfl) h1 (λp hp=>hb p (K9 _ hp)) λp hp=>hg p (K9 _ hp),
    sA h hgk ⟨by simpa using hr.1,λi u x hu hx=>hr.2 (i+1) u x (by simpa using hu) (by simpa using hx)⟩ h2 (λp hp=>hb p (L2 _ hp)) λp hp=>hg p (L2 _ hp),gZ _ _ _⟩
  ·cases e
def aG(xs:List Arg)(vs:List Value)(o:Nat):Option Value:=match xs[o]? with
 |some (.box _ _)=>vs[o]?
 |some (.lent _)=>vs[o]?
 |_=>none
def mS{X:St}{Y:Ly}(h:SatR B X a w Y){bs0:G4}(hgk:∀p∈bs0,X.gn p.1=p.2):∀{xs:List Arg} {vs:List Value} {i:Nat} {ys ys':List Arg} {bs gs:G4},vs.length=xs.length->(∀j v,aG xs vs j=some v->B.L (i+j)=some v)->X9 X i xs ys=some (ys',bs,gs)->(∀p∈bs,p∈bs0)->(∀p∈gs,X.gn p.1=p.2) ->
  Q7 w (Imm B (app X (fwr bs0)) Y w) (bxVs vs xs) ys' (K4 X Y gs)
 |[],[],i,ys,ys',bs,gs,hl,hL,e,hb,hg=>by
  cases ys with
  |nil =>
   simp only[X9,D6,H5]at e;rw[<- e.1,<- e.2.2];exact rfl
  |cons _ _=>simp[X9]at e
 |[],_::_,_,_,_,_,_,hl,_,_,_,_=>by simp at hl
 |_::_,[],_,_,_,_,_,hl,_,_,_,_=>by simp at hl
 | .im x::xs,v::vs,i,ys,ys',bs,gs,hl,hL,e,hb,hg=>by
  have e:X9 X (i+1) xs ys=some (ys',bs,gs):=by cases ys<;>exact e
  exact mS h hgk (xs:=xs) (vs:=vs) (i:=i+1) (by simpa using hl) (λj v hv=>by rw[Y7,jC 1 j];exact hL (j+1) v (by simpa[aG]using hv)) e hb hg
 | .ow k::xs,v::vs,i,ys,ys',bs,gs,hl,hL,e,hb,hg=>by
  have e:X9 X (i+1) xs ys=some (ys',bs,gs):=by cases ys<;>exact e
  exact mS h hgk (xs:=xs) (vs:=vs) (i:=i+1) (by simpa using hl) (λj v hv=>by rw[Y7,jC 1 j];exact hL (j+1) v (by simpa[aG]using hv)) e hb hg
 | .lent _::xs,v::vs,i,[],ys',bs,gs,hl,hL,e,hb,hg=>by simp[X9]at e
 | .lent _::xs,v::vs,i,.im _::ys,ys',bs,gs,hl,hL,e,hb,hg=>by simp[X9]at e
 | .lent _::xs,v::vs,i,.ow _::ys,ys',bs,gs,hl,hL,e,hb,hg=>by simp[X9]at e
 | .lent _::xs,v::vs,i,.box _ _::ys,ys',bs,gs,hl,hL,e,hb,hg=>by simp[X9]at e
 | .box _ _::xs,v::vs,i,.lent _::ys,ys',bs,gs,hl,hL,e,hb,hg=>by simp[X9]at e
 | .lent k0::xs,v::vs,i,.lent k1::ys,ys',bs,gs,hl,hL,e,hb,hg=>by
  unfold X9 at e;split at e
  ·rename_i k l b2 g2 hk h2;simp only[D6,H5]at e;obtain⟨rfl,rfl,rfl⟩:=e;have a2:X.gn i=0:=hg (i,0) (by simp);have hv:Y i=v:=h.rt i v (by have:=hL 0 v (by simp[aG]);simpa using this) a2;have hh:=rW h hk;have hI:=(h.kills bs0).2
   refine⟨fpk (Y i) (Y.inn i) k,K4 X Y g2,⟨by rw[<- hv];exact hh.one,Y.inn i,by rw[<- hv];exact hh.mono (λ_ _=>rfl) hI,by rw[<- hv]⟩,
    mS h hgk (xs:=xs) (vs:=vs) (i:=i+1) (by simpa using hl) (λj v hv=>by rw[Y7,jC 1 j];exact hL (j+1) v (by simpa[aG]using hv)) h2 hb (λp hp=>hg p (by simp[hp])),?_⟩
   unfold K4;rw[S6,(mY hk).1]
  ·cases e
 | .box t0 c0::xs,v::vs,i,[],ys',bs,gs,hl,hL,e,hb,hg=>by simp[X9]at e
 | .box t0 c0::xs,v::vs,i,.im _::ys,ys',bs,gs,hl,hL,e,hb,hg=>by simp[X9]at e
 | .box t0 c0::xs,v::vs,i,.ow _::ys,ys',bs,gs,hl,hL,e,hb,hg=>by simp[X9]at e
 | .box t0 c0::xs,v::vs,i,.box _ cs::ys,ys',bs,gs,hl,hL,e,hb,hg=>by
  unfold X9 at e;split at e
  ·rename_i t m hk;split at e
   ·rename_i a3 b1 g1 l b2 g2 h1 h2;simp only[D6,H5]at e;obtain⟨rfl,rfl,rfl⟩:=e;have a2:X.gn i=0:=hg (i,0) (by simp);have hv:Y i=v:=h.rt i v (by have:=hL 0 v (by simp[aG]);simpa using this) a2;have ho:=h.obs i;rw[hk]at ho;obtain⟨q,us,e1,e2,e3,e4,e5⟩:=ho;have hr:=vX (X:=X) (b:=i) (us:=us) (t:=t) (by rw[e3];exact hk) e5
    refine⟨_,_,⟨q,us,K4 X Y g1,by rw[<- hv];exact e1,e2,e4,sA h hgk hr h1 (λp hp=>hb p (K9 _ hp)) (λp hp=>hg p (by simp[hp])),rfl⟩,
     mS h hgk (xs:=xs) (vs:=vs) (i:=i+1) (by simpa using hl) (λj v hv=>by rw[Y7,jC 1 j];exact hL (j+1) v (by simpa[aG]using hv)) h2 (λp hp=>hb p (L2 _ hp)) (λp hp=>hg p (by simp[hp])),?_⟩
    rw[gZ];unfold K4;rw[S6,hk,e1];rfl
   ·cases e
  ·cases e
def AE{xs:List Arg}{vs0:List Value}{r:Rs}{X:St}(h:RetOk P fn.results.toList xs X r)(hs:Sat B X a w)(hl:vs0.length=xs.length)(hL:∀j v,aG xs vs0 j=some v->B.L j=some v) :
  ∃v F',(results fn a.tmps).run P w=.ok v w/\bY w (λb=>(B.S0 b\/Mine B b)/\b<w.heap.size/\b∉F') v (bxVs vs0 xs) r F'/\F'.Nodup/\∀b∈F',Mine B b/\b<w.heap.size:=by
 obtain⟨Y,hs⟩:=hs;unfold RetOk at h;split at h
 ·rename_i vs c tp l ys b5;obtain⟨a8,h⟩:=h.ok;obtain⟨hg,h⟩:=h.out;obtain⟨us,b7,hr⟩:=resAs_ok hs b5 hg
  have a2:(results fn a.tmps).run P w=.ok (if h:us.toArray.size=1 then us.toArray[0] else .tuple us.toArray) w:=by
   rw[AC,Sem.run_bind,EH,map_eq_pure_bind,Sem.run_bind,b7];simp only[Result.andThen_ok,Sem.run_pure]
  split at h
  ·rename_i l' bs gs b8 bs' a4 h1 h2;obtain⟨b4,h⟩:=h.ok;obtain⟨a7,a9⟩:=fQ b4;obtain⟨b2,rfl,rfl⟩:=h.out;have a5:∀p∈bs++bs',X.gn p.1=p.2:=λp hp=>b2 p (K9 _ hp);have a6:∀p∈gs++a4,X.gn p.1=p.2:=λp hp=>b2 p (L2 _ hp);have r1:=sA hs (bs0:=bs++bs') a5 hr h1 (λp hp=>K9 _ hp) λp hp=>a6 p (K9 _ hp);have r2:=mS hs (bs0:=bs++bs') a5 hl (i:=0) (λj v hv=>by rw[E8];exact hL j v hv) h2 (λp hp=>L2 _ hp) λp hp=>a6 p (L2 _ hp)
   have a3:∀u x,RepI w (Imm B (app X (fwr (bs++bs'))) Y w) u x->RepI w (λb=>(B.S0 b\/Mine B b)/\b<w.heap.size/\b∉K4 X Y gs++K4 X Y a4) u x:=λu x hr=>hr.mono (λb hb=>⟨hb.1,hb.2.1,λhf=>by
    rw[<- gZ]at hf
    obtain⟨p,hp,ho⟩:=bK.1 hf
    refine hb.2.2.1 p.1 ?_
    unfold Owns at ho ⊢
    rw[fM,if_neg (a9 p.1 (H0.2 ⟨p,hp,rfl⟩))]
    exact ho⟩) λ_ _ _ h=>h
   have hn:=iU hs a7;rw[gZ]at hn
   have hm:∀b∈K4 X Y gs++K4 X Y a4,Mine B b/\b<w.heap.size:=λb hb=>by
    rw[<- gZ]at hb;obtain⟨p,hp,ho⟩:=bK.1 hb;exact hs.own p.1 b ho
   have b3:us.toArray.size=vs.length:=by simp[hr.1]
   cases tp with
   |true =>
    have b6:¬us.toArray.size=1:=λe=>by
     rw[b3]at e;simp[e]at a8
    rw[dif_neg b6]at a2;exact⟨_,_,a2,⟨us,_,_,rfl,r1.mono a3,r2.mono a3,rfl⟩,hn,hm⟩
   |false =>
    have he:us.toArray.size=1:=by rw[b3];simpa using a8
    rw[dif_pos he]at a2
    obtain⟨u,rfl⟩:∃u,us=[u]:=by
     match us,he with
     |[u],_=>exact⟨u,rfl⟩
    exact⟨_,_,a2,⟨[u],_,_,rfl,r1.mono a3,r2.mono a3,rfl⟩,hn,hm⟩
  ·exact h.elim
 ·exact h.elim
def sig0:St:=λl=>match l with
 | .tmp _=>.av (.im .any)
 | .gen _=>.n 0
 | .ign _=>.n 0
 | .knd _=>.kd .dead
 | .cel _ _=>.av (.im .any)
def tau0:St:=λl=>match l with
 | .tmp _=>.av (.im .any)
 | .gen _=>.n 0
 | .ign _=>.n 0
 | .knd _=>.kd .dead
 | .cel o j=>.av (.osl (nmB o j) 0)
def dQ:Arg->Oc
 | .im x=>.im x
 | .ow k=>.ow k
 | .box _ _=>.im .any
 | .lent _=>.im .any
def bxIx:Nat->List Arg->G4
 |_,[]=>[]
 |i,.box _ _::xs=>(i,i)::bxIx (i+1) xs
 |i,.lent _::xs=>(i,i)::bxIx (i+1) xs
 |i,.im _::xs=>bxIx (i+1) xs
 |i,.ow _::xs=>bxIx (i+1) xs
def bxAs:List Arg->List Arg
 |[]=>[]
 | .box t cs::xs=>.box t cs::bxAs xs
 | .lent k::xs=>.lent k::bxAs xs
 | .im _::xs=>bxAs xs
 | .ow _::xs=>bxAs xs
def argV(i:Nat)(x:Arg)(a:AV):AV:=match x with
 | .box _ _=>.own i 0 0
 | .lent _=>.osl i 0
 |_=>a
def tmpW:Nat->List Arg->List AV->List (Loc×Ct)
 |i,x::xs,a::al=>(.tmp i,.av (argV i x a))::tmpW (i+1) xs al
 |_,_,_=>[]
def entW(xs:List Arg):List (Loc×Ct):=match H8 tau0 (λi=>i) 0 (xs.map dQ),bxPl tau0 (bxIx 0 xs) (bxAs xs) with
 |(al,ss),some (bl,ss')=>K5 tau0 (ss++ss')++(bxWr bl++tmpW 0 xs al)
 |_,none=>[]
def gF(xs:List Arg):Bool:=match H8 tau0 (λi=>i) 0 (xs.map dQ),bxPl tau0 (bxIx 0 xs) (bxAs xs) with
 |(_,ss),some (bl,ss')=>ndB ((ss++ss').map (·.1)) (bl.map (·.1))
 |_,none=>false
def st0(xs:List Arg):St:=app sig0 (entW xs)
def pU{S:Nat->Prop}:∀{vs:List Value} {xs:List Arg} {F:List Nat},Q7 w S vs xs F->∃Ft Fb,bS w S vs (xs.map dQ) Ft/\Q7 w S (bxVs vs xs) (bxAs xs) Fb/\F.Perm (Ft++Fb)
 |[],[],F,h=>⟨[],[],rfl,rfl,by have h:F=[]:=h;rw[h];exact .refl _⟩
 |v::vs,.im x::xs,F,⟨F1,F2,h1,h2,h3⟩=>by
  obtain⟨Ft,Fb,a1,a2,a3⟩:=pU h2;obtain⟨h1,rfl⟩:=h1;exact⟨[]++Ft,Fb,⟨[],Ft,⟨h1,rfl⟩,a1,rfl⟩,a2,by rw[h3];exact a3⟩
 |v::vs,.ow k::xs,F,⟨F1,F2,h1,h2,h3⟩=>by
  obtain⟨Ft,Fb,a1,a2,a3⟩:=pU h2;exact⟨F1++Ft,Fb,⟨F1,Ft,h1,a1,rfl⟩,a2,by rw[h3,aS];exact a3.append_left F1⟩
 |v::vs,.box t cs::xs,F,⟨F1,F2,h1,h2,h3⟩=>by
  obtain⟨Ft,Fb,a1,a2,a3⟩:=pU h2;refine⟨[]++Ft,F1++Fb,⟨[],Ft,⟨.any _,rfl⟩,a1,rfl⟩,⟨F1,Fb,h1,a2,rfl⟩,?_⟩;rw[h3,dI];refine(a3.append_left F1).trans ?_;rw[<- aS,<- aS];exact List.perm_append_comm.append_right Fb
 |v::vs,.lent k::xs,F,⟨F1,F2,h1,h2,h3⟩=>by
  obtain⟨Ft,Fb,a1,a2,a3⟩:=pU h2;refine⟨[]++Ft,F1++Fb,⟨[],Ft,⟨.any _,rfl⟩,a1,rfl⟩,⟨F1,Fb,h1,a2,rfl⟩,?_⟩;rw[h3,dI];refine(a3.append_left F1).trans ?_;rw[<- aS,<- aS];exact List.perm_append_comm.append_right Fb
 |[],_::_,_,h=>h.elim
 |_::_,[],_,h=>h.elim
def Q7.len{S:Nat->Prop}:∀{vs:List Value} {xs:List Arg} {F:List Nat},Q7 w S vs xs F->vs.length=xs.length
 |[],[],_,_=>rfl
 |_::_,_::_,_,⟨_,_,_,h,_⟩=>by simp[h.len]
 |[],_::_,_,h=>h.elim
 |_::_,[],_,h=>h.elim
def tmpW_get:∀{xs:List Arg} {al:List AV} {i:Nat} {X:St} {t:Nat},xs.length=al.length->(app X (tmpW i xs al)).av t=match xs[t-i]?,al[t-i]? with|some x,some a=>if i<=t then argV t x a else X.av t|_,_=>X.av t
 |[],[],i,X,t,_=>by simp[tmpW,app]
 |[],_::_,_,_,_,h=>by simp at h
 |_::_,[],_,_,_,h=>by simp at h
 |x::xs,a::al,i,X,t,h=>by
  rw[tmpW,O0,tmpW_get (by simpa using h)];by_cases h1:i+1<=t
  ·obtain⟨m,hm⟩:∃m,t-i=m+1:=⟨t-i-1,by omega⟩;rw[hm,show t-(i+1)=m from by omega];have h2:i<=t:=by omega
   have h3:t≠i:=by omega
   simp only[List.getElem?_cons_succ,h1,h2,if_true,jO,h3,if_false]
  ·by_cases h2:t=i
   ·subst h2;rw[T7];simp only[yW,F9,if_true,h1,if_false,jO];split<;>rfl
   ·have h3:¬i<=t:=by omega
    simp only[if_neg h1,if_neg h3,jO,if_neg h2];split<;>split<;>rfl
def tmpW_same:∀{xs:List Arg} {al:List AV} {i:Nat} {X:St},cZ X (app X (tmpW i xs al))
 |[],_,_,_=>⟨rfl,rfl,rfl,rfl⟩
 |_::_,[],_,_=>⟨rfl,rfl,rfl,rfl⟩
 |x::xs,a::al,i,X=>by
  have h1:=cZ.tmp X i (.av (argV i x a));have h2:cZ (upd X (.tmp i) (.av (argV i x a))) (app (upd X (.tmp i) (.av (argV i x a))) (tmpW (i+1) xs al)):=tmpW_same;exact⟨h2.gn.trans h1.gn,h2.ig.trans h1.ig,h2.kd.trans h1.kd,h2.ce.trans h1.ce⟩
def pM:∀{xs:List Arg} {vs:List Value} {i j:Nat} {b:Nat} {p:Value},vs.length=xs.length->((bxIx i xs).map (·.1))[j]?=some b->(bxVs vs xs)[j]?=some p->i<=b/\vs[b-i]?=some p
 |[],[],i,j,b,p,_,h,_=>by simp[bxIx]at h
 |[],_::_,_,_,_,_,h,_,_=>by simp at h
 |_::_,[],_,_,_,_,h,_,_=>by simp at h
 | .im x::xs,v::vs,i,j,b,p,hl,h,k=>by
  obtain⟨h1,h2⟩:=pM (i:=i+1) (by simpa using hl) h k;obtain⟨m,hm⟩:∃m,b-i=m+1:=⟨b-i-1,by omega⟩;exact⟨by omega,by rw[hm,show m=b-(i+1) from by omega];simpa using h2⟩
 | .ow x::xs,v::vs,i,j,b,p,hl,h,k=>by
  obtain⟨h1,h2⟩:=pM (i:=i+1) (by simpa using hl) h k;obtain⟨m,hm⟩:∃m,b-i=m+1:=⟨b-i-1,by omega⟩;exact⟨by omega,by rw[hm,show m=b-(i+1) from by omega];simpa using h2⟩
 | .lent q::xs,v::vs,i,0,b,p,hl,h,k=>by
  simp[bxIx]at h;simp[bxVs]at k;subst h k;exact⟨F9 _,by simp⟩
 | .lent q::xs,v::vs,i,j+1,b,p,hl,h,k=>by
  obtain⟨h1,h2⟩:=pM (i:=i+1) (j:=j) (by simpa using hl) (by simpa[bxIx]using h) (by simpa[bxVs]using k);obtain⟨m,hm⟩:∃m,b-i=m+1:=⟨b-i-1,by omega⟩;exact⟨by omega,by rw[hm,show m=b-(i+1) from by omega];simpa using h2⟩
 | .box t cs::xs,v::vs,i,0,b,p,hl,h,k=>by
  simp[bxIx]at h;simp[bxVs]at k;subst h k;exact⟨F9 _,by simp⟩
 | .box t cs::xs,v::vs,i,j+1,b,p,hl,h,k=>by
  obtain⟨h1,h2⟩:=pM (i:=i+1) (j:=j) (by simpa using hl) (by simpa[bxIx]using h) (by simpa[bxVs]using k);obtain⟨m,hm⟩:∃m,b-i=m+1:=⟨b-i-1,by omega⟩;exact⟨by omega,by rw[hm,show m=b-(i+1) from by omega];simpa using h2⟩
def mF:∀{xs:List Arg} {i b:Nat},b∈(bxIx i xs).map (·.1)->i<=b
 |[],i,b,h=>by simp[bxIx]at h
 | .im x::xs,i,b,h=>by have:=mF (xs:=xs) (i:=i+1) h;omega
 | .ow x::xs,i,b,h=>by have:=mF (xs:=xs) (i:=i+1) h;omega
 | .lent k::xs,i,b,h=>by
  rw[bxIx,M2]at h;rcases M4.1 h with h|h
  ·exact lT h.symm
  ·have:=mF (xs:=xs) (i:=i+1) h;omega
 | .box t cs::xs,i,b,h=>by
  rw[bxIx,M2]at h;rcases M4.1 h with h|h
  ·exact lT h.symm
  ·have:=mF (xs:=xs) (i:=i+1) h;omega
def pW:∀{xs:List Arg} {i:Nat},((bxIx i xs).map (·.1)).Nodup
 |[],i=>jE
 | .im x::xs,i=>pW (xs:=xs) (i:=i+1)
 | .ow x::xs,i=>pW (xs:=xs) (i:=i+1)
 | .lent k::xs,i=>by
  rw[bxIx,M2,aR];exact⟨λh=>by have:=mF h;omega,pW⟩
 | .box t cs::xs,i=>by
  rw[bxIx,M2,aR];exact⟨λh=>by have:=mF h;omega,pW⟩
def isLent:Arg->Bool
 | .box _ _=>true
 | .lent _=>true
 |_=>false
def mV:∀{xs:List Arg} {i o:Nat} {x:Arg},xs[o]?=some x->isLent x=true->i+o∈(bxIx i xs).map (·.1)
 |[],i,o,x,h,_=>by simp at h
 | .box t' cs'::xs,i,0,x,h,_=>by simp[bxIx]
 | .lent k::xs,i,0,x,h,_=>by simp[bxIx]
 | .im y::xs,i,0,x,h,hl=>by simp at h;subst h;cases hl
 | .ow y::xs,i,0,x,h,hl=>by simp at h;subst h;cases hl
 | .im y::xs,i,o+1,x,h,hl=>by have:=mV (xs:=xs) (i:=i+1) (o:=o) (x:=x) (by simpa using h) hl;rw[bxIx,show i+(o+1)=i+1+o from by omega];exact this
 | .ow y::xs,i,o+1,x,h,hl=>by have:=mV (xs:=xs) (i:=i+1) (o:=o) (x:=x) (by simpa using h) hl;rw[bxIx,show i+(o+1)=i+1+o from by omega];exact this
 | .box t' cs'::xs,i,o+1,x,h,hl=>by
  have:=mV (xs:=xs) (i:=i+1) (o:=o) (x:=x) (by simpa using h) hl;rw[bxIx,M2,show i+(o+1)=i+1+o from by omega];exact M7 _ this
 | .lent k::xs,i,o+1,x,h,hl=>by
  have:=mV (xs:=xs) (i:=i+1) (o:=o) (x:=x) (by simpa using h) hl;rw[bxIx,M2,show i+(o+1)=i+1+o from by omega];exact M7 _ this
def lkWr_gn(X:St)(b:Nat)(x:LK):(app X (lkWr b x)).gn=X.gn:=by
 cases x with
 |box t al =>
  show(app (upd X (.knd b) (.kd (.box t al.length))) (Q1 b 0 al)).gn=_;rw[rY];exact funext λo=>W2 X b o _
 |obj k=>exact funext λo=>W2 X b o _
def lkWr_av(X:St)(b:Nat)(x:LK)(t:Nat):(app X (lkWr b x)).av t=X.av t:=by
 cases x with
 |box ty al =>
  show(app (upd X (.knd b) (.kd (.box ty al.length))) (Q1 b 0 al)).av t=_;rw[rU,bE]
 |obj k=>exact bE X b t _
def bxWr_gn:∀{bl:List (Nat×LK)} {X:St},(app X (bxWr bl)).gn=X.gn
 |[],_=>rfl
 |(b,x)::bl,X=>by
  show(app X (lkWr b x++bxWr bl)).gn=_;rw[L5,bxWr_gn,lkWr_gn]
def Q7.ptr{S:Nat->Prop}:∀{vs:List Value} {xs:List Arg} {F:List Nat},Q7 w S vs xs F->∀{i:Nat} {v:Value} {t:TypeId} {cs:List Oc},vs[i]?=some v->xs[i]?=some (.box t cs)->∃q,v=.pointer (some ⟨q,0,none⟩)
 |[],[],_,_,i,_,_,_,h,_=>by simp at h
 |v::vs,x::xs,_,⟨_,_,h1,h2,_⟩,0,u,t,cs,h,k=>by
  simp at h k;subst h k;obtain⟨q,_,_,e,_⟩:=h1;exact⟨q,e⟩
 |v::vs,x::xs,_,⟨_,_,h1,h2,_⟩,i+1,u,t,cs,h,k=>h2.ptr (by simpa using h) (by simpa using k)
 |[],_::_,_,h,_,_,_,_,_,_=>h.elim
 |_::_,[],_,h,_,_,_,_,_,_=>h.elim
def Q7.one{S:Nat->Prop}:∀{vs:List Value} {xs:List Arg} {F:List Nat},Q7 w S vs xs F->∀{i:Nat} {v:Value} {k:Kd},vs[i]?=some v->xs[i]?=some (.lent k)->v.oneCell'=true
 |[],[],_,_,i,_,_,h,_=>by simp at h
 |v::vs,x::xs,_,⟨_,_,h1,h2,_⟩,0,u,k',h,k=>by
  simp at h k;subst h k;exact h1.1
 |v::vs,x::xs,_,⟨_,_,h1,h2,_⟩,i+1,u,k',h,k=>h2.one (by simpa using h) (by simpa using k)
 |[],_::_,_,h,_,_,_,_,_=>h.elim
 |_::_,[],_,h,_,_,_,_,_=>h.elim
def st0_sat(w:World)(S:Nat->Prop){vs:List Value}{xs:List Arg}{F:List Nat}(h:Q7 w S vs xs F)(hnd:F.Nodup)(hF:∀b∈F,¬S b/\b<w.heap.size)(hS:∀b,S b->b<w.heap.size)(n:Nat)(hn:vs.length<=n)(hok:gF xs=true) :
  Sat ⟨w,S,n,λb=>b∈F,λ_=>False,aG xs vs,[]⟩ (st0 xs) { tmps:=vs.toArray++Array.replicate (n-vs.toArray.size) undef,defers:=[] } w:=by
 have b8:=h.len;obtain⟨Ft,Fb,a1,a2,a3⟩:=pU h;have a4:=a3.nodup_iff.1 hnd;rw[V5]at a4;have b7:∀b,b∈Ft\/b∈Fb->b∈F:=λb hb=>a3.mem_iff.2 (I2.2 hb);unfold gF at hok;unfold st0 entW;cases hbl:bxPl tau0 (bxIx 0 xs) (bxAs xs) with
 |none=>rw[hbl]at hok;cases hok
 |some q =>
  obtain⟨bl,ss'⟩:=q;rw[hbl]at hok;simp only at hok ⊢;obtain⟨a8,a9⟩:=fQ hok;have d6:=a8;rw[L1,V5]at a8
  have h0:SatR ⟨w,S,n,λb=>b∈F,λb=>b∈F,aG xs vs,[]⟩ sig0 { tmps:=vs.toArray++Array.replicate (n-vs.toArray.size) undef,defers:=[] } w ⟨λo=>vs.getD o undef,λ_=>[],λ_=>0⟩:=by
   refine⟨Belo.refl _ _ w,λo=>trivial,λo b ho=>absurd rfl ho.lv,λo p b ho=>absurd rfl ho.lv,λt=>.im _ _ (.any _),λo=>rfl,λb hb=>⟨⟨.inr hb,(hF b hb).2⟩,λo ho=>absurd rfl ho.lv⟩,λo v hl _=>?_,by simp;omega,rfl⟩;have hl:aG xs vs o=some v:=hl;unfold aG at hl;split at hl
   ·show vs.getD o undef=v;simp[List.getD,hl]
   ·show vs.getD o undef=v;simp[List.getD,hl]
   ·cases hl
  have d0:∀b,S b->Imm ⟨w,S,n,λb=>b∈F,λb=>b∈F,aG xs vs,[]⟩ sig0 ⟨λo=>vs.getD o undef,λ_=>[],λ_=>0⟩ w b:=λb hb=>⟨.inl hb,hS b hb,λo ho=>absurd rfl ho.lv,λhf=>(hF b hf).1 hb⟩;obtain⟨Y2,Z2,b1,b2,b3,b4,b5,b6⟩:=pP tau0 (λi=>i) (l:=xs.map dQ) (i:=0) h0 a1 d0 a4.1 (λb hb=>b7 b (.inl hb)) a8.1 λ_ _=>⟨rfl,rfl⟩
  obtain⟨Y3,Z3,qs,c1,c2,c3,c4,c5,c6,c7,c8,c9⟩:=sP tau0 hbl b1 a2 (λb hb=>b5 b (d0 b hb)) a4.2.1 (λb hb=>b2 b (b7 b (.inr hb)) λhf=>a4.2.2 b hf b hb rfl) a8.2.1 λp hp=>by
   obtain⟨_,d2,d3,_⟩:=b6 p.1 λhm=>a8.2.2 p.1 hm p.1 (H0.2 ⟨p,hp,rfl⟩) rfl;exact⟨d2,d3⟩
  have d1:app (app sig0 (K5 tau0 (H8 tau0 (λi=>i) 0 (xs.map dQ)).2)) (K5 tau0 ss')=app sig0 (K5 tau0 ((H8 tau0 (λi=>i) 0 (xs.map dQ)).2++ss')):=by rw[tI,L5]
  rw[d1]at c1 c5 c7 c8 c9
  have a7:∀b,b∈bl.map (·.1)->Y3 b=vs.getD b undef:=λb hb=>by
   have a5:b∉(H8 tau0 (λi=>i) 0 (xs.map dQ)).2.map (·.1):=λhm=>a9 b (by rw[L1];exact K9 _ hm) hb;have a6:b∉ss'.map (·.1):=λhm=>a9 b (by rw[L1];exact L2 _ hm) hb;rw[(c9 b a6).1,(b6 b a5).1]
  obtain⟨Z4,e1,e2,e3⟩:=wJ c1 c5 c4 (λq hq=>(c3 q hq).1) (by rw[c6];exact pW) λj b p hb hp=>by
   have d4:=G6 hb;rw[c6]at hb;obtain⟨_,hp⟩:=pM b8 hb hp;rw[a7 b d4];rw[rI]at hp;simp[List.getD,hp]
  obtain⟨g1,_,g3,_⟩:=e1.stepZ (X':=app (app sig0 (K5 tau0 ((H8 tau0 (λi=>i) 0 (xs.map dQ)).2++ss'))) (bxWr bl)) (Y':=Y3) (w':=w) (λ_=>False) (λ_=>False) (λ_=>rfl) (λ_ _=>⟨rfl,rfl,λ_=>rfl,rfl,rfl,rfl⟩) (λ_ hd=>hd.elim) e1.igs (Belo.refl _ _ _) (λ_ _ hd=>hd.elim) (λ_ _ _ hd=>hd.elim)
   (λ_ hb=>hb.elim) λ_ _ _ hd=>hd.elim
  refine⟨Y3,?_⟩;rw[L5,L5]
  have lent:∀t (ht:t<vs.length),t∈bl.map (·.1)->(app (app sig0 (K5 tau0 ((H8 tau0 (λi=>i) 0 (xs.map dQ)).2++ss'))) (bxWr bl)).gn t=0/\Y3 t=vs[t]:=λt ht hb=>by
   have a5:t∉(H8 tau0 (λi=>i) 0 (xs.map dQ)).2.map (·.1):=λhm=>a9 t (by rw[L1];exact K9 _ hm) hb;have a6:t∉ss'.map (·.1):=λhm=>a9 t (by rw[L1];exact L2 _ hm) hb;refine⟨?_,by rw[a7 t hb];simp[List.getD,ht]⟩;rw[bxWr_gn,(c9 t a6).2.1,(b6 t a5).2.1];rfl
  refine g1.slots tmpW_same (λt=>?_) (by simp;omega) rfl;have d5:xs.length=(H8 tau0 (λi=>i) 0 (xs.map dQ)).1.length:=by rw[<- b3.1,b8]
  rw[tmpW_get d5,rI];by_cases ht:t<vs.length
  ·have hx:t<xs.length:=by omega
   have hv:(vs.toArray++Array.replicate (n-vs.toArray.size) undef).getD t undef=vs[t]:=by
    simp only[rS];rw[EI (by simpa using ht)];simp[ht]
   obtain⟨al,b9⟩:∃al,(H8 tau0 (λi=>i) 0 (xs.map dQ)).1[t]?=some al:=⟨_,K8 (by omega)⟩;have hr:=g3 _ _ (e3 _ _ (c7 _ _ (b3.2 t vs[t] al (K8 ht) b9)));rw[hv,K8 hx,b9];simp only[D8,if_true];cases hxt:xs[t]with
   |im x=>exact hr
   |ow k=>exact hr
   |box ty cs =>
    have hb:t∈bl.map (·.1):=by
     rw[c6];have:=mV (xs:=xs) (i:=0) (o:=t) (x:=.box ty cs) (by rw[K8 hx,hxt]) rfl
     rwa [E8]at this
    obtain⟨hg,c0⟩:=lent t ht hb;obtain⟨q,hq⟩:∃q,vs[t]=.pointer (some ⟨q,0,none⟩):=Q7.ptr h (K8 ht) (by rw[K8 hx,hxt]);exact .own _ _ _ _ (by rw[hq];rfl) (by rw[hg];exact F9 _) λ_=>⟨q,c0.trans hq,hq⟩
   |lent k =>
    have hb:t∈bl.map (·.1):=by
     rw[c6];have:=mV (xs:=xs) (i:=0) (o:=t) (x:=.lent k) (by rw[K8 hx,hxt]) rfl
     rwa [E8]at this
    obtain⟨hg,c0⟩:=lent t ht hb;exact .osl _ _ _ (Q7.one h (K8 ht) (by rw[K8 hx,hxt])) (by rw[hg];exact F9 _) λ_=>c0.symm
  ·rw[L0 (by omega)]
   have e0:(app (app sig0 (K5 tau0 ((H8 tau0 (λi=>i) 0 (xs.map dQ)).2++ss'))) (bxWr bl)).av t=.im .any:=by
    have k1:∀(bl:List (Nat×LK)) (X:St),(app X (bxWr bl)).av t=X.av t:=by
     intro bl
     induction bl with
     |nil=>intro X;rfl
     |cons x bl ih =>
      intro X;obtain⟨b,x⟩:=x;show(app X (lkWr b x++bxWr bl)).av t=_;rw[L5,ih,lkWr_av]
    have k2:∀(l:List (Nat×Kd)) (X:St),(app X (K5 tau0 l)).av t=X.av t:=by
     intro l
     induction l with
     |nil=>intro X;rfl
     |cons p l ih =>
      intro X;rw[K5,L5,ih];exact(mkK_eqs X tau0 p.1 p.2).2.2.2.1 t
    rw[k1,k2];rfl
   simp only;rw[e0];exact .im _ _ (.any _)
def eR(hf:P.funcs[f]?=some fn)(hname:(fn.name=="runtime.NumGoroutine")=false)(hb:fn.body=some c)(args:Array Value)(w:World):(callFunc f args).run P w=.ok (.enter f args) w:=by
 have h1:fn.name≠"runtime.NumGoroutine":=by simpa using hname
 simp[callFunc,hf,h1,hb]
def sp_of_code(hm:P.follows .mixedOrders=true){C:FuncId->List Arg->Rs->Prop}(hC:∀g xs r,C g xs r->SpX P g xs r){own:List Nat}(hf:P.funcs[f]?=some fn)(hname:(fn.name=="runtime.NumGoroutine")=false)(hb:fn.body=some c)
  {xs:List Arg} {r:Rs} (hn:xs.length<=fn.ntmps) (hok:gF xs=true) (h:∀w S vs F,Q7 w S vs xs F->X8 P C fn.ntmps own c (retK P fn.results.toList xs r) (st0 xs)):Sp P f xs r:=by
 refine⟨λargs w=>eR hf hname hb args w,λw S vs F hS a2 a7 hF=>?_⟩;have a4:=a2.len;refine calls_of_wp hf hb (dV (B:=⟨w,S,fn.ntmps,λb=>b∈F,λ_=>False,aG xs vs,[]⟩) hm hC c _ _ (h w S vs F a2) _ _ (st0_sat w S a2 a7 hF hS fn.ntmps (by rw[a4];exact hn) hok) _ λe X' a' w' hk a3=>?_)
 have a5:RetOk P fn.results.toList xs X' r->a'.defers=[]/\∃v,(results fn a'.tmps).run P w'=.ok v w'/\∃(v':Value) (F':List Nat),Ending.returned v=.returned v'/\Belo (λb=>b∈F) w.heap.size w w' /\
   bY w' (λb=>(S b\/w.heap.size<=b\/b∈F)/\b<w'.heap.size/\b∉F') v' (bxVs vs xs) r F'/\F'.Nodup/\∀b∈F',(w.heap.size<=b\/b∈F)/\b<w'.heap.size:=λhk=>by
  obtain⟨v,F',hv,a6,h1,h2⟩:=AE (vs0:=vs) hk a3 a4 λj v hv=>hv;obtain⟨Y,a3⟩:=a3;exact⟨a3.dfr,v,hv,v,F',rfl,a3.bel,a6,h1,h2⟩
 cases e with
 |ret=>exact a5 hk
 |normal=>exact a5 hk
 |exit id=>exact hk.elim
 |goto l=>exact hk.elim
 |panic ch=>exact hk.elim
 |outgrown=>exact hk.elim
def RetOkB(P:Program)(rs:List ResultVar)(xs:List Arg)(X:St)(r:Rs):Prop :=
 match resAs P X rs,r with
 |some ([.agg vs],c),.mk true l ys=>bD X c (match outCs X l vs,X9 X 0 xs ys with
  |some (l',bs,gs),some (ys',bs',gs')=>Chk (ndB ((gs++gs').map (·.1)) ((bs++bs').map (·.1))) (bD X ((bs++bs')++(gs++gs')) (l'=l/\ys'=ys))
  |_,_=>False)
 |_,_=>False
def RetOkA(P:Program)(t:TypeId)(rs:List ResultVar)(xs:List Arg)(X:St)(r:Rs):Prop:=match t with
 |0=>RetOk P rs xs X r
 |_=>RetOkB P rs xs X r
def retKA(P:Program)(t:TypeId)(rs:List ResultVar)(xs:List Arg)(r:Rs):Exit->St->Prop
 | .ret,X=>RetOkA P t rs xs X r
 | .normal,X=>RetOkA P t rs xs X r
 |_,_=>False
def AT{xs:List Arg}{vs0:List Value}{r:Rs}{X:St}{t:TypeId}(h:RetOkA P t fn.results.toList xs X r)(hs:Sat B X a w)(hl:vs0.length=xs.length)(hL:∀j v,aG xs vs0 j=some v->B.L j=some v) :
  ∃v u F',(results fn a.tmps).run P w=.ok v w/\RetA t v u/\bY w (λb=>(B.S0 b\/Mine B b)/\b<w.heap.size/\b∉F') u (bxVs vs0 xs) r F'/\F'.Nodup/\∀b∈F',Mine B b/\b<w.heap.size:=by
 match t,h with
 |0,h =>
  obtain⟨v,F',h1,h2⟩:=AE h hs hl hL;exact⟨v,v,F',h1,rfl,h2⟩
 |t+1,h =>
 obtain⟨Y,hs⟩:=hs;have h:RetOkB P fn.results.toList xs X r:=h;unfold RetOkB at h;split at h
 ·rename_i vs c l ys b5 _ _;obtain⟨hg,h⟩:=h.out;obtain⟨us,b6,hr⟩:=resAs_ok hs b5 hg
  obtain⟨a3,rfl,hr,ho⟩:∃a3:List Value,us=[.agg a3.toArray]/\Reps w (Imm B X Y w) Y X.gn a3 vs/\∀u∈a3,u.oneCell'=true:=by
   match us,hr with
   |[],hr=>have:=hr.1;simp at this
   |[u],hr =>
    have h1:=hr.2 0 u (.agg vs) rfl rfl;cases h1 with
    |agg a3 _ hl1 a2 hr1=>exact⟨a3,rfl,⟨hl1,hr1⟩,a2⟩
   |_::_::_,hr=>have:=hr.1;simp at this
  have a5:(results fn a.tmps).run P w=.ok (.agg a3.toArray) w:=by
   rw[AC,Sem.run_bind,EH,map_eq_pure_bind,Sem.run_bind,b6];simp only[Result.andThen_ok,Sem.run_pure];rfl
  split at h
  ·rename_i l' bs gs b7 bs' a4 h1 h2;obtain⟨b4,h⟩:=h.ok;obtain⟨a8,a9⟩:=fQ b4;obtain⟨b2,rfl,rfl⟩:=h.out;have a6:∀p∈bs++bs',X.gn p.1=p.2:=λp hp=>b2 p (K9 _ hp);have a7:∀p∈gs++a4,X.gn p.1=p.2:=λp hp=>b2 p (L2 _ hp);have r1:=sA hs (bs0:=bs++bs') a6 hr h1 (λp hp=>K9 _ hp) λp hp=>a7 p (K9 _ hp);have r2:=mS hs (bs0:=bs++bs') a6 hl (i:=0) (λj v hv=>by rw[E8];exact hL j v hv) h2 (λp hp=>L2 _ hp) λp hp=>a7 p (L2 _ hp)
   have b3:∀u x,RepI w (Imm B (app X (fwr (bs++bs'))) Y w) u x->RepI w (λb=>(B.S0 b\/Mine B b)/\b<w.heap.size/\b∉K4 X Y gs++K4 X Y a4) u x:=λu x hr=>hr.mono (λb hb=>⟨hb.1,hb.2.1,λhf=>by
    rw[<- gZ]at hf
    obtain⟨p,hp,ho⟩:=bK.1 hf
    refine hb.2.2.1 p.1 ?_
    unfold Owns at ho ⊢
    rw[fM,if_neg (a9 p.1 (H0.2 ⟨p,hp,rfl⟩))]
    exact ho⟩) λ_ _ _ h=>h
   have hn:=iU hs a8;rw[gZ]at hn
   have hm:∀b∈K4 X Y gs++K4 X Y a4,Mine B b/\b<w.heap.size:=λb hb=>by
    rw[<- gZ]at hb;obtain⟨p,hp,ho⟩:=bK.1 hb;exact hs.own p.1 b ho
   exact⟨_,_,_,a5,⟨a3,rfl,rfl,ho⟩,⟨a3,_,_,rfl,r1.mono b3,r2.mono b3,rfl⟩,hn,hm⟩
  ·exact h.elim
 ·exact h.elim
def entA(n k:Nat)(X:St):List (Loc×Ct) :=
 (.tmp 0,.av (.agg ((List.range n).map λj=>X.av j)))::((List.range k).map (λj=>(Loc.tmp (1+j),Ct.av (X.av (n+j))))++(List.range n).map λj=>(Loc.tmp (k+1+j),Ct.av (.im .any)))
def tmps_av(f:Nat->AV)(a t:Nat):∀(m:Nat) (X:St),(app X ((List.range m).map λj=>(Loc.tmp (a+j),Ct.av (f j)))).av t=if a<=t/\t<a+m then f (t-a) else X.av t
 |0,X=>by
  rw[if_neg (by omega)];rfl
 |m+1,X=>by
  rw[eD,L1,L5];show(upd (app X ((List.range m).map λj=>(Loc.tmp (a+j),Ct.av (f j)))) (.tmp (a+m)) (.av (f m))).av t=_;rw[jO];by_cases h:t=a+m
  ·subst h;rw[if_pos rfl,if_pos (by omega),yV]
  ·rw[if_neg h,tmps_av f a t m X];by_cases h2:a<=t/\t<a+m
   ·rw[if_pos h2,if_pos (by omega)]
   ·rw[if_neg h2,if_neg (by omega)]
def uW(f:Nat->Loc×Ct)(hf:∀j,∃t v,f j=(.tmp t,.av v)):∀(l:List Nat) (X:St),cZ X (app X (l.map f))
 |[],_=>⟨rfl,rfl,rfl,rfl⟩
 |j::l,X=>by
  obtain⟨t,v,e⟩:=hf j;rw[M2,e,O0];have h1:=cZ.tmp X t (.av v);have h2:=uW f hf l (upd X (.tmp t) (.av v));exact⟨h2.gn.trans h1.gn,h2.ig.trans h1.ig,h2.kd.trans h1.kd,h2.ce.trans h1.ce⟩
def entA_av(n k t:Nat)(X U:St):(app X (entA n k U)).av t=if k+1<=t/\t<k+1+n then .im .any else if 1<=t/\t<1+k then U.av (n+(t-1)) else if t=0 then .agg ((List.range n).map λj=>U.av j) else X.av t:=by
 unfold entA;rw[O0,L5,tmps_av (λ_=>.im .any),tmps_av (λj=>U.av (n+j)),jO]
def entA_same(n k:Nat)(X U:St):cZ X (app X (entA n k U)):=by
 unfold entA;rw[O0,L5];have h1:=cZ.tmp X 0 (.av (.agg ((List.range n).map λj=>U.av j)));have h2:=uW (λj=>(Loc.tmp (1+j),Ct.av (U.av (n+j)))) (λj=>⟨_,_,rfl⟩) (List.range k) (upd X (.tmp 0) (.av (.agg ((List.range n).map λj=>U.av j))));have h3:=uW (λj=>(Loc.tmp (k+1+j),Ct.av (.im .any))) (λj=>⟨_,_,rfl⟩) (List.range n) (app (upd X (.tmp 0) (.av (.agg ((List.range n).map λj=>U.av j)))) ((List.range k).map λj=>(Loc.tmp (1+j),Ct.av (U.av (n+j)))));exact⟨h3.gn.trans (h2.gn.trans h1.gn),h3.ig.trans (h2.ig.trans h1.ig),h3.kd.trans (h2.kd.trans h1.kd),h3.ce.trans (h2.ce.trans h1.ce)⟩
def pad_getD(vs:List Value)(N t:Nat):(vs.toArray++Array.replicate N undef).getD t undef=vs.getD t undef:=by
 simp only[rS,eG];by_cases h:t<vs.length
 ·rw[EI (by simpa using h)];simp
 ·rw[Array.getElem?_append_right (by simp;omega),L0 (by omega),Array.getElem?_replicate];split<;>rfl
def st0A_sat(w:World)(S:Nat->Prop){us vs:List Value}{xs:List Arg}{F:List Nat}(h:Q7 w S (us++vs) xs F)(h1:∀u∈us,u.oneCell'=true)(hnd:F.Nodup)(hF:∀b∈F,¬S b/\b<w.heap.size)(hS:∀b,S b->b<w.heap.size)(N:Nat)(hn:xs.length<=N)(hn2:vs.length+1<=N)(hok:gF xs=true) :
  Sat ⟨w,S,N,λb=>b∈F,λ_=>False,aG xs (us++vs),[]⟩ (app (st0 xs) (entA us.length vs.length (st0 xs))) { tmps:=(.agg us.toArray::vs).toArray++Array.replicate (N-(.agg us.toArray::vs).toArray.size) undef,defers:=[] } w:=by
 have a2:=h.len;obtain⟨Y,hs⟩:=st0_sat w S h hnd hF hS N (by omega) hok;refine⟨Y,hs.slots (entA_same _ _ _ _) (λt=>?_) (by simp;omega) rfl⟩;rw[entA_av]
 have hv:∀t,RepA w (Imm ⟨w,S,N,λb=>b∈F,λ_=>False,aG xs (us++vs),[]⟩ (st0 xs) Y w) Y (st0 xs).gn ((us++vs).getD t undef) ((st0 xs).av t):=λt=>by
  have:=hs.tms t;rw[pad_getD]at this;exact this
 simp only[pad_getD];by_cases c1:vs.length+1<=t/\t<vs.length+1+us.length
 ·rw[if_pos c1];exact .im _ _ (.any _)
 ·rw[if_neg c1];by_cases c2:1<=t/\t<1+vs.length
  ·rw[if_pos c2];have:=hv (us.length+(t-1));obtain⟨j,rfl⟩:∃j,t=j+1:=⟨t-1,by omega⟩;rw[uE]at this ⊢
   have e:(us++vs).getD (us.length+j) undef=(Value.agg us.toArray::vs).getD (j+1) undef:=by
    simp only[eG];rw[S7 (by omega),yV];rfl
   rw[<- e];exact this
  ·rw[if_neg c2];by_cases c3:t=0
   ·subst c3;rw[if_pos rfl];refine .agg us _ (by simp) h1 λi u x hu hx=>?_;have hi:=(E0.1 hu).1;rw[H1,P4 hi]at hx;simp only[J4,D6]at hx;subst hx;have:=hv i
    have e:(us++vs).getD i undef=u:=by
     simp only[eG];rw[N6 hi,hu];rfl
    rw[e]at this;exact this
   ·rw[if_neg c3];have:=hv t
    have e:(us++vs).getD t undef=(Value.agg us.toArray::vs).getD t undef:=by
     simp only[eG];rw[L0 (by rw[H4];omega),L0 (by rw[G8];omega)]
    rw[<- e];exact this
def sp_ofT_code(hm:P.follows .mixedOrders=true){C:FuncId->List Arg->Rs->Prop}(hC:∀g xs r,C g xs r->SpX P g xs r){own:List Nat}(hf:P.funcs[f]?=some fn)(hname:(fn.name=="runtime.NumGoroutine")=false)(hb:fn.body=some c)
  {xs:List Arg} {r:Rs} (hn:xs.length<=fn.ntmps) (hok:gF xs=true) (h:∀w S vs F,Q7 w S vs xs F->X8 P C fn.ntmps own c (retKA P 1 fn.results.toList xs r) (st0 xs)):SpX P f (.lent .dead::.ow .dead::xs) r:=by
 refine⟨λargs w=>eR hf hname hb args w,λw S vs F hS a2 a8 hF=>?_⟩;have a4:=a2.len;refine calls_of_wp hf hb (dV (B:=⟨w,S,fn.ntmps,λb=>b∈F,λ_=>False,aG xs vs,[]⟩) hm hC c _ _ (h w S vs F a2) _ _ (st0_sat w S a2 a8 hF hS fn.ntmps (by rw[a4];exact hn) hok) _ λe X' a' w' hk a3=>?_)
 have a5:RetOkA P 1 fn.results.toList xs X' r->a'.defers=[]/\∃v,(results fn a'.tmps).run P w'=.ok v w'/\∃(v' u:Value) (F':List Nat),Ending.returned v=.returned v'/\RetA 1 v' u/\Belo (λb=>b∈F) w.heap.size w w' /\
   bY w' (λb=>(S b\/w.heap.size<=b\/b∈F)/\b<w'.heap.size/\b∉F') u (bxVs vs xs) r F'/\F'.Nodup/\∀b∈F',(w.heap.size<=b\/b∈F)/\b<w'.heap.size:=λhk=>by
  obtain⟨v,u,F',hv,a6,a7,h1,h2⟩:=AT (vs0:=vs) hk a3 a4 λj v hv=>hv;obtain⟨Y,a3⟩:=a3;exact⟨a3.dfr,v,hv,v,u,F',rfl,a6,a3.bel,a7,h1,h2⟩
 cases e with
 |ret=>exact a5 hk
 |normal=>exact a5 hk
 |exit id=>exact hk.elim
 |goto l=>exact hk.elim
 |panic ch=>exact hk.elim
 |outgrown=>exact hk.elim
def sp_ofA_code(hm:P.follows .mixedOrders=true){C:FuncId->List Arg->Rs->Prop}(hC:∀g xs r,C g xs r->SpX P g xs r){own:List Nat}(hf:P.funcs[f]?=some fn)(hname:(fn.name=="runtime.NumGoroutine")=false)(hb:fn.body=some c)
  {t:TypeId} {l:List Oc} {k:Nat} {xs:List Arg} {r:Rs} (hl:l.length+k=xs.length) (hn:xs.length<=fn.ntmps) (hn2:k+1<=fn.ntmps) (hok:gF xs=true) (h:∀w S vs F,Q7 w S vs xs F->X8 P C fn.ntmps own c (retKA P t fn.results.toList xs r) (app (st0 xs) (entA l.length k (st0 xs)))):SpX P f (.lent .dead::.box t l::xs) r:=by
 refine⟨λargs w=>eR hf hname hb args w,λw S us vs F hS a2 hu h1 a9 hF=>?_⟩;have a7:=a2.len;rw[H4]at a7;have hk:k=vs.length:=by omega
 subst hk;have a8:=st0A_sat w S a2 h1 a9 hF hS fn.ntmps hn hn2 hok;have h:=h w S _ F a2;rw[<- hu]at h;refine calls_of_wp hf hb (dV (B:=⟨w,S,fn.ntmps,λb=>b∈F,λ_=>False,aG xs (us++vs),[]⟩) hm hC c _ _ h _ _ a8 _ λe X' a' w' hk a3=>?_)
 have a4:RetOkA P t fn.results.toList xs X' r->a'.defers=[]/\∃v,(results fn a'.tmps).run P w'=.ok v w'/\∃(v' u:Value) (F':List Nat),Ending.returned v=.returned v'/\RetA t v' u/\Belo (λb=>b∈F) w.heap.size w w' /\
   bY w' (λb=>(S b\/w.heap.size<=b\/b∈F)/\b<w'.heap.size/\b∉F') u (bxVs (us++vs) xs) r F'/\F'.Nodup/\∀b∈F',(w.heap.size<=b\/b∈F)/\b<w'.heap.size:=λhk=>by
  obtain⟨v,u,F',hv,a5,a6,h1,h2⟩:=AT (vs0:=us++vs) hk a3 a2.len λj v hv=>hv;obtain⟨Y,a3⟩:=a3;exact⟨a3.dfr,v,hv,v,u,F',rfl,a5,a3.bel,a6,h1,h2⟩
 cases e with
 |ret=>exact a4 hk
 |normal=>exact a4 hk
 |exit id=>exact hk.elim
 |goto l=>exact hk.elim
 |panic ch=>exact hk.elim
 |outgrown=>exact hk.elim
end
end
section
def lookA:List (Nat×AV)->Nat->AV
 |[],_=>.im .any
 |p::l,t=>match Nat.beq t p.1 with|true=>p.2|false=>lookA l t
def dN:List (Nat×Kd)->Nat->Kd
 |[],_=>.dead
 |p::l,t=>match Nat.beq t p.1 with|true=>p.2|false=>dN l t
def lookC:List (Nat×Nat×AV)->Nat->Nat->AV
 |[],_,_=>.im .any
 |p::l,o,i=>match Nat.beq o p.1&&Nat.beq i p.2.1 with|true=>p.2.2|false=>lookC l o i
def gnM:List (Nat×Kd)->Nat->Nat
 |[],_=>1
 |p::l,o=>match Nat.beq o p.1 with|true=>(match Nat.blt o 64 with|true=>0|false=>1)|false=>gnM l o
def mkSt(avs:List (Nat×AV))(kds:List (Nat×Kd))(cels:List (Nat×Nat×AV)):St:=λl=>match l with
 | .tmp t=>.av (lookA avs t)
 | .gen o=>.n (gnM kds o)
 | .ign _=>.n 0
 | .knd o=>.kd (dN kds o)
 | .cel o i=>.av (lookC cels o i)
inductive Sub:AV->AV->Prop
 |refl (a:AV):Sub a a
 |any (a:AV):Sub a (.im .any)
 |nz (x:IV):Sub (.im x) (.im (Sym.nz x))
def RepA.less{w:World}{S:Nat->Prop}{Y:Ly}{E:Nat->Nat}{v:Value}{x y:AV}(h:RepA w S Y E v x)(s:Sub x y):RepA w S Y E v y:=by
 cases s with
 |refl=>exact h
 |any=>exact .im _ _ (.any _)
 |nz x=>exact .im _ _ (nz_rep h.im_inv)
def Sub.rfl'{a b:AV}(h:a=b):Sub a b:=h ▸ .refl _
def Q6:List (Nat×Option Nat)->Nat->Option (Option Nat)
 |[],_=>none
 |p::l,b=>match Nat.beq b p.1 with|true=>some p.2|false=>Q6 l b
def srcs:List (Nat×Option Nat)->List Nat
 |[]=>[]
 |(_,some a)::l=>a::srcs l
 |(_,none)::l=>srcs l
mutual
inductive SubR(X:St)(src:List (Nat×Option Nat))(E:Nat->Nat):AV->AV->Prop
 |im {a:AV} {b:IV} (h:Sub a (.im b)):SubR X src E a (.im b)
 |osl {a b g g':Nat} (h:Q6 src b=some (some a)) (hg:X.gn a=g) (hg':E b=g'):SubR X src E (.osl a g) (.osl b g')
 |osv {a b g g' k m:Nat} (h:Q6 src b=some (some a)) (hg:X.gn a=g) (hg':E b=g'):SubR X src E (.osv a g k m) (.osv b g' k m)
 |made {b g':Nat} (h:Q6 src b=some none) (hg':E b=g'):SubR X src E (.im (.val (.slice none 0 0))) (.osl b g')
 |own {a b g g' i:Nat} (h:Q6 src b=some (some a)) (hg:X.gn a=g) (hg':E b=g'):SubR X src E (.own a g i) (.own b g' i)
 |elt {a b g g' k i j:Nat} (h:Q6 src b=some (some a)) (hg:X.gn a=g) (hg':E b=g'):SubR X src E (.elt a g k i j) (.elt b g' k i j)
 |sub {a b g i:Nat} (h:Q6 src b=some (some a)) (hg:X.ig a=g):SubR X src E (.sub a g i) (.sub b 0 i)
 |fn {f:FuncId} {cs ds:List AV} (h:gG X src E cs ds):SubR X src E (.fn f cs) (.fn f ds)
 |agg {cs ds:List AV} (h:gG X src E cs ds):SubR X src E (.agg cs) (.agg ds)
inductive gG(X:St)(src:List (Nat×Option Nat))(E:Nat->Nat):List AV->List AV->Prop
 |nil:gG X src E [] []
 |cons {c d:AV} {cs ds:List AV} (h:SubR X src E c d) (t:gG X src E cs ds):gG X src E (c::cs) (d::ds)
end
section
variable {w:World}{S S':Nat->Prop}{X:St}{Y Y':Ly}{src:List (Nat×Option Nat)}{E:Nat->Nat}
mutual
def SubR.rep(hI:∀v x,RepI w S v x->RepI w S' v x)(hY:∀b a,Q6 src b=some (some a)->Y' b=Y a/\Y'.inn b=Y.inn a)(hn:∀b,Q6 src b=some none->Y' b=.slice none 0 0)(hig:(∀o,Y.ig o=X.ig o)/\∀o,Y'.ig o=0) :
  ∀{x y:AV},SubR X src E x y->∀{v:Value},RepA w S Y X.gn v x->RepA w S' Y' E v y
 |x,_,.im h,v,hr=>.im _ _ (hI _ _ (hr.less h).im_inv)
 |_,_,.osl h hg hg',v,hr=>by
  cases hr with
  |osl _ _ _ h1 h2 h3=>exact .osl _ _ _ h1 (lT hg'.symm) λ_=>by rw[(hY _ _ h).1];exact h3 hg
 |_,_,.osv h hg hg',v,hr=>by
  cases hr with
  |osv _ _ _ _ _ h1 h2 h3=>exact .osv _ _ _ _ _ h1 (lT hg'.symm) λ_=>by rw[(hY _ _ h).1];exact h3 hg
 |_,_,.made h hg',v,hr=>by
  cases hr.im_inv with
  |val _=>exact .osl _ _ _ rfl (lT hg'.symm) λ_=>(hn _ h).symm
 |_,_,.own h hg hg',v,hr=>by
  cases hr with
  |own _ _ _ _ h1 h2 h3=>exact .own _ _ _ _ h1 (lT hg'.symm) λ_=>by rw[(hY _ _ h).1];exact h3 hg
 |_,_,.elt h hg hg',v,hr=>by
  cases hr with
  |elt _ _ _ _ _ _ h1 h2 h3=>exact .elt _ _ _ _ _ _ h1 (lT hg'.symm) λ_=>by rw[(hY _ _ h).1];exact h3 hg
 |_,_,.sub h hg,v,hr=>by
  cases hr with
  |sub _ _ _ _ h1 h2 h3=>exact .sub _ _ _ _ h1 (D8 _) λ_=>by rw[(hY _ _ h).2];exact h3 ((hig.1 _).trans hg)
 |_,_,.fn h,v,hr=>by
  cases hr with
  |fn _ us _ hl h1 =>
   have:=gG.rep hI hY hn hig h ⟨hl,h1⟩;exact .fn _ _ _ this.1 this.2
 |_,_,.agg h,v,hr=>by
  cases hr with
  |agg us _ hl h0 h1 =>
   have:=gG.rep hI hY hn hig h ⟨hl,h1⟩;exact .agg _ _ this.1 h0 this.2
def gG.rep(hI:∀v x,RepI w S v x->RepI w S' v x)(hY:∀b a,Q6 src b=some (some a)->Y' b=Y a/\Y'.inn b=Y.inn a)(hn:∀b,Q6 src b=some none->Y' b=.slice none 0 0)(hig:(∀o,Y.ig o=X.ig o)/\∀o,Y'.ig o=0) :
  ∀{xs ys:List AV},gG X src E xs ys->∀{us:List Value},Reps w S Y X.gn us xs->Reps w S' Y' E us ys
 |_,_,.nil,us,hr=>⟨hr.1,λi u x hu hx=>by simp at hx⟩
 |_,_,.cons h t,[],hr=>by have:=hr.1;simp at this
 |_,_,.cons h t,u::us,hr=>by
  have h1:=SubR.rep hI hY hn hig h (hr.2 0 u _ rfl rfl);have h2:=gG.rep hI hY hn hig t (us:=us) ⟨by simpa using hr.1,λi u x hu hx=>hr.2 (i+1) u x (by simpa using hu) (by simpa using hx)⟩;refine⟨by simp[h2.1],λi v x hv hx=>?_⟩;cases i with
  |zero=>simp at hv hx;subst hv hx;exact h1
  |succ i=>exact h2.2 i v x (by simpa using hv) (by simpa using hx)
end
end
def SubL(X:St)(src:List (Nat×Option Nat))(E:Nat->Nat):List (Nat×AV)->Prop
 |[]=>True
 |p::l=>(∃x,X.av p.1=x/\SubR X src E x p.2)/\SubL X src E l
def KeepOk(X:St)(o a:Nat):Prop:=match Nat.blt o 64 with|true=>a=o/\X.gn a=0|false=>True
def NilKd(o:Nat)(k:Kd):Prop:=Nat.blt o 64=false/\((∃e m,k=.row e m []/\0<m)\/(∃e e' m,k=.grid e e' m [] none)\/∃t e m,k=.bag t e m [] none)
def KdL(X:St)(src:List (Nat×Option Nat)):List (Nat×Kd)->Prop
 |[]=>True
 |p::l=>((∃a,Q6 src p.1=some (some a)/\X.kd a=p.2/\KeepOk X p.1 a)\/(Q6 src p.1=some none/\NilKd p.1 p.2))/\KdL X src l
def CeL(X:St)(src:List (Nat×Option Nat))(E:Nat->Nat):List (Nat×Nat×AV)->Prop
 |[]=>True
 |p::l=>(∃a x,Q6 src p.1=some (some a)/\X.ce a p.2.1=x/\SubR X src E x p.2.2)/\CeL X src E l
def lookA_sub{X:St}{src:List (Nat×Option Nat)}{E:Nat->Nat}:∀{avs:List (Nat×AV)},SubL X src E avs->∀t,SubR X src E (X.av t) (lookA avs t)
 |[],_,t=>.im (.any _)
 |p::l,h,t=>by
  unfold lookA;split
  ·rename_i e;have e:=O5 e;subst e;obtain⟨x,h1,h2⟩:=h.1;rw[h1];exact h2
  ·exact lookA_sub h.2 t
def vD{X:St}{src:List (Nat×Option Nat)}{E:Nat->Nat}:∀{cels:List (Nat×Nat×AV)},CeL X src E cels->∀b a i,Q6 src b=some (some a)->SubR X src E (X.ce a i) (lookC cels b i)
 |[],_,b,a,i,_=>.im (.any _)
 |p::l,h,b,a,i,hs=>by
  unfold lookC;split
  ·rename_i e;rw[O2]at e;have e1:=O5 e.1;have e2:=O5 e.2;subst e1 e2;obtain⟨a',x,h1,h3,h2⟩:=h.1;rw[hs]at h1;injection h1 with h1
   injection h1 with h1
   subst h1;rw[h3];exact h2
  ·exact vD h.2 b a i hs
def vA{X:St}{src:List (Nat×Option Nat)}:∀{kds:List (Nat×Kd)},KdL X src kds->∀o,dN kds o≠.dead ->
  (∃a,Q6 src o=some (some a)/\X.kd a=dN kds o/\KeepOk X o a)\/(Q6 src o=some none/\NilKd o (dN kds o))
 |[],_,o,h=>absurd rfl h
 |p::l,h,o,hd=>by
  unfold dN at hd ⊢;split
  ·rename_i e;have e:=O5 e;subst e;exact h.1
  ·rename_i e;rw[e]at hd;exact vA h.2 o hd
def gnM_keep{X:St}{src:List (Nat×Option Nat)}:∀{kds:List (Nat×Kd)},KdL X src kds->∀o,gnM kds o=0->Q6 src o=some (some o)/\X.gn o=0
 |[],_,o,h=>by simp[gnM]at h
 |p::l,h,o,hg=>by
  unfold gnM at hg;split at hg
  ·rename_i e;have e:=O5 e;subst e;split at hg
   ·rename_i hb;rcases h.1 with⟨a,h1,_,h3⟩|⟨_,h3,_⟩
    ·unfold KeepOk at h3;rw[hb]at h3;obtain⟨rfl,h4⟩:=h3;exact⟨h1,h4⟩
    ·rw[hb]at h3;cases h3
   ·cases hg
  ·exact gnM_keep h.2 o hg
def sJ:∀{src:List (Nat×Option Nat)} {b a:Nat},Q6 src b=some (some a)->a∈srcs src
 |[],b,a,h=>by cases h
 |(c,o)::l,b,a,h=>by
  unfold Q6 at h;split at h
  ·simp only[D6]at h;subst h;simp[srcs]
  ·cases o with
   |none=>exact sJ (src:=l) h
   |some d=>exact M7 _ (sJ h)
def uP:∀{src:List (Nat×Option Nat)},(srcs src).Nodup->∀{b c a:Nat},Q6 src b=some (some a)->Q6 src c=some (some a)->b=c
 |[],_,b,c,a,h,_=>by cases h
 |(d,o)::l,hn,b,c,a,h,k=>by
  unfold Q6 at h k;cases o with
  |none =>
   split at h
   ·cases h
   ·split at k
    ·cases k
    ·exact uP (src:=l) hn h k
  |some q =>
   obtain⟨h1,h2⟩:=aR.1 hn;split at h
   ·rename_i e1;simp only[D6]at h;subst h;split at k
    ·rename_i e2;rw[O5 e1,O5 e2]
    ·exact absurd (sJ k) h1
   ·split at k
    ·simp only[D6]at k;subst k;exact absurd (sJ h) h1
    ·exact uP h2 h k
def Ent.trans{X X' X'':St}(h:Ent X X')(k:Ent X' X''):Ent X X'':=λB a w hs=>k B a w (h B a w hs)
def Ent.mk{X:St}{avs:List (Nat×AV)}{kds:List (Nat×Kd)}{cels:List (Nat×Nat×AV)}(src:List (Nat×Option Nat))(hn:ndB (srcs src) []=true)(ha:SubL X src (gnM kds) avs)(hk:KdL X src kds)(hc:CeL X src (gnM kds) cels):Ent X (mkSt avs kds cels):=by
 rintro B a w ⟨Y,hs⟩;have a5:=(fQ hn).1
 let Y':Ly:=⟨λb=>match Q6 src b with|some (some a)=>Y a|_=>.slice none 0 0,λb=>match Q6 src b with|some (some a)=>Y.inn a|_=>[],λ_=>0⟩
 have hY:∀b a,Q6 src b=some (some a)->Y' b=Y a/\Y'.inn b=Y.inn a:=λb a h=>by simp only[Y',h];exact⟨trivial,trivial⟩
 have hρn:∀b,Q6 src b=some none->Y' b=.slice none 0 0:=λb h=>by simp only[Y',h]
 have hρi:∀b,Q6 src b=some none->Y'.inn b=[]:=λb h=>by simp only[Y',h]
 have a3:∀o,(mkSt avs kds cels).kd o=dN kds o:=λ_=>rfl
 have a2:∀o q,Owns (mkSt avs kds cels) Y' o q->∃a,Q6 src o=some (some a)/\Owns X Y a q:=λo q hq=>by
  rcases vA hk o hq.lv with⟨a,h1,h2,_⟩|⟨h1,_,h2⟩
  ·refine⟨a,h1,?_⟩;unfold Owns at hq ⊢;rw[a3,(hY o a h1).1,(hY o a h1).2]at hq;rw[h2];exact hq
  ·unfold Owns at hq;rw[a3,hρn o h1,hρi o h1]at hq;rcases h2 with⟨e,m,h2,_⟩|⟨e,e',m,h2⟩|⟨t,e,m,h2⟩
   ·rw[h2]at hq;simp[fpk,F6]at hq
   ·rw[h2]at hq;simp[fpk,fpv,F6]at hq
   ·rw[h2]at hq;simp[fpk,fpv,F6]at hq
 have hS:∀b,Imm B X Y w b->Imm B (mkSt avs kds cels) Y' w b:=λb hi=>⟨hi.1,hi.2.1,λo hq=>by
  obtain⟨a,_,h2⟩:=a2 o b hq
  exact hi.2.2.1 a h2,hi.2.2.2⟩
 have hI:∀v x,RepI w (Imm B X Y w) v x->RepI w (Imm B (mkSt avs kds cels) Y' w) v x:=λv x hr=>hr.mono hS λ_ _ _ h=>h;have hA:∀{x y:AV},SubR X src (gnM kds) x y->∀{v:Value},RepA w (Imm B X Y w) Y X.gn v x->RepA w (Imm B (mkSt avs kds cels) Y' w) Y' (mkSt avs kds cels).gn v y:=λh _ hr=>SubR.rep hI hY hρn ⟨hs.igs,λ_=>rfl⟩ h hr;refine⟨Y',hs.bel,λo=>?_,λo b ho=>?_,λo p b h1 h2=>?_,λt=>hA (lookA_sub ha t) (hs.tms t),λ_=>rfl,λb hb=>⟨(hs.res b hb).1,λo ho=>?_⟩,λo v hl hg=>?_,hs.siz,hs.dfr⟩
 ·rw[a3]
  have nil:Q6 src o=some none->NilKd o (dN kds o)->aU B (mkSt avs kds cels) Y' w o (dN kds o):=λh1 ⟨_,h2⟩=>by
   rcases h2 with⟨e,m,h2,h3⟩|⟨e,e',m,h2⟩|⟨t,e,m,h2⟩
   ·rw[h2];show T9 w _ (Y' o) e m [];rw[hρn o h1];exact⟨[],h3,by simp,by simp,World.ownsRow_nil _ _ _ _,rfl,by simp,by simp⟩
   ·rw[h2];show cY w _ (Y' o) (Y'.inn o) e e' m [] none;rw[hρn o h1,hρi o h1];exact⟨jE,rfl,[],D8 _,World.ownsRow_nil _ _ _ _,by simp,λi u hu=>by simp at hu⟩
   ·rw[h2];show eJ w _ (Y' o) (Y'.inn o) t e m []/\_;rw[hρn o h1,hρi o h1];exact⟨⟨rfl,jE,[],rfl,rfl,λi g row hg _=>by simp at hg⟩,λp hp=>by cases hp⟩
  have a4:∀a,Q6 src o=some (some a)->X.kd a=dN kds o->aU B (mkSt avs kds cels) Y' w o (dN kds o):=λa h1 h2=>by
   have ho:=hs.obs a;rw[h2]at ho;obtain⟨e1,e2⟩:=hY o a h1;cases e:dN kds o with
   |dead=>trivial
   |box t m =>
    rw[e]at ho;obtain⟨b,us,h3,h4,h5,h6,h7⟩:=ho;exact⟨b,us,e1.trans h3,h4,h5,h6,λi u hu=>hA (vD hc o a i h1) (h7 i u hu)⟩
   |row t k es =>
    rw[e]at ho;show P0 w (Imm B (mkSt avs kds cels) Y' w) (Y' o) (Y'.inn o) (.row t k es);rw[e1,e2];exact P0.mono (k:=.row t k es) ho (λ_ _=>rfl) hI
   |grid t t' k gs q =>
    rw[e]at ho;show P0 w (Imm B (mkSt avs kds cels) Y' w) (Y' o) (Y'.inn o) (.grid t t' k gs q);rw[e1,e2];exact P0.mono (k:=.grid t t' k gs q) ho (λ_ _=>rfl) hI
   |map l =>
    rw[e]at ho;show P0 w (Imm B (mkSt avs kds cels) Y' w) (Y' o) (Y'.inn o) (.map l);rw[e1,e2];exact P0.mono (k:=.map l) ho (λ_ _=>rfl) hI
   |bag ty te m l q =>
    rw[e]at ho;show eJ w (Imm B (mkSt avs kds cels) Y' w) (Y' o) (Y'.inn o) ty te m l/\_;rw[e1,e2];exact⟨eJ.mono ho.1 (λ_ _=>rfl) hI,λp hp=>hA (vD hc o a 0 h1) (ho.2 p hp)⟩
   |mapI l c =>
    rw[e]at ho;show GoOk w (Imm B (mkSt avs kds cels) Y' w) (Y' o) (Y'.inn o) l c;rw[e1,e2];exact GoOk.mono ho (λ_ _=>rfl) hI
   |que t k es =>
    rw[e]at ho;show P0 w (Imm B (mkSt avs kds cels) Y' w) (Y' o) (Y'.inn o) (.que t k es);rw[e1,e2];exact P0.mono (k:=.que t k es) ho (λ_ _=>rfl) hI
  by_cases hd:dN kds o=.dead
  ·rw[hd];trivial
  ·rcases vA hk o hd with⟨a,h1,h2,_⟩|⟨h1,h2⟩
   ·exact a4 a h1 h2
   ·exact nil h1 h2
 ·obtain⟨a,_,h2⟩:=a2 o b ho;exact hs.own a b h2
 ·obtain⟨c,e1,b1⟩:=a2 o b h1;obtain⟨d,e2,b2⟩:=a2 p b h2;have:=hs.dis c d b b1 b2;subst this;exact uP a5 e1 e2
 ·obtain⟨a,_,h2⟩:=a2 o b ho;exact(hs.res b hb).2 a h2
 ·obtain⟨h1,h2⟩:=gnM_keep hk o hg;rw[(hY o o h1).1];exact hs.rt o v hl h2
def SatR.say{B:Base}{X:St}{a:Act}{w:World}{Y:Ly}(h:SatR B X a w Y)(t:Nat){v:AV}(hv:RepA w (Imm B X Y w) Y X.gn (a.tmps.getD t undef) v):SatR B (upd X (.tmp t) (.av v)) a w Y:=by
 refine h.slots (cZ.tmp X t (.av v)) (λu=>?_) h.siz h.dfr;rw[jO];by_cases e:u=t
 ·rw[if_pos e,e];exact hv
 ·rw[if_neg e];exact h.tms u
def Ent.fz{X:St}(t:Nat){x:IV}{bs:G4}(h:fz X (X.av t)=some (x,bs))(hg:gok X bs):Ent X (upd (app X (fwr bs)) (.tmp t) (.av (.im x))):=by
 rintro B a w ⟨Y,hs⟩;exact⟨Y,(hs.kills bs).1.say t (.im _ _ (gC hs (bs':=bs) (gok_mem hg) (hs.tms t) h λ_ h=>h))⟩
def Ent.que{X:St}(o:Nat){e:TypeId}{k:Nat}{es:List (List IV)}(h:X.kd o=.row e k es):Ent X (upd X (.knd o) (.kd (.que e k es))):=by
 rintro B a w ⟨Y,hs⟩
 have a2:∀p b,Owns (upd X (.knd o) (.kd (.que e k es))) Y p b↔Owns X Y p b:=λp b=>by
  unfold Owns;rw[U1];by_cases hp:p=o
  ·rw[if_pos hp,hp,h];rfl
  ·rw[if_neg hp]
 have a3:Imm B (upd X (.knd o) (.kd (.que e k es))) Y w=Imm B X Y w:=by
  funext b;unfold Imm;simp only[a2]
 have a4:(upd X (.knd o) (.kd (.que e k es))).gn=X.gn:=funext λp=>W2 X o p _;refine⟨Y,hs.bel,λp=>?_,λp b hp=>hs.own p b ((a2 p b).1 hp),λp q b hp hq=>hs.dis p q b ((a2 p b).1 hp) ((a2 q b).1 hq),λt=>?_,λp=>by rw[cD];exact hs.igs p,λb hb=>⟨(hs.res b hb).1,λp hp=>(hs.res b hb).2 p ((a2 p b).1 hp)⟩,λp v hl hg=>hs.rt p v hl (by rw[a4]at hg;exact hg),hs.siz,hs.dfr⟩
 ·rw[U1];by_cases hp:p=o
  ·rw[if_pos hp];have ho:=hs.obs p;rw[hp,h]at ho;show aH w (Imm B _ Y w) (Y p) e k es;rw[a3,hp];exact T9.que ho
  ·rw[if_neg hp];exact(hs.obs p).mono rfl rfl (λi=>cC X o p i _) (λ_ _=>rfl) (λv x hr=>by rw[a3];exact hr) λv x hr=>by rw[a3,a4];exact hr
 ·rw[a3,a4,bE];exact hs.tms t
def Ok(x:IV):Prop:=∃w S v,RepI w S v x
def OkL(es:List (List IV)):Prop:=es.length<=17592186044416/\∀e∈es,∀x∈e,Ok x
def ok_flat{w:World}{S:Nat->Prop}{es:List (List IV)}{us:List Value}(hl:us.length=es.flatten.length)(hr:∀(i:Nat) u x,us[i]?=some u->es.flatten[i]?=some x->RepI w S u x):∀e∈es,∀x∈e,Ok x:=λe he x hx=>by
 have hm:x∈es.flatten:=rP.2 ⟨e,he,hx⟩;obtain⟨i,hi⟩:=iI hm;have hlt:i<us.length:=by rw[hl];exact(E0.1 hi).1
 exact⟨w,S,_,hr i _ x (K8 hlt) hi⟩
def Ok.sl{es:List (List IV)}(h:Ok (.sl es)):OkL es:=by
 obtain⟨w,S,v,h⟩:=h;cases h with
 |emp A c=>exact⟨D8 _,by simp⟩
 |sl b o c k n _ us hn hk hc hs hS hl h1 hu hr=>exact⟨by omega,ok_flat hl hr⟩
def ok_all{w:World}{S:Nat->Prop}{cs:List IV}{us:List Value}(hl:us.length=cs.length)(hr:∀(i:Nat) u x,us[i]?=some u->cs[i]?=some x->RepI w S u x):∀x∈cs,Ok x:=λx hx=>by
 obtain⟨i,hi⟩:=iI hx;have hlt:i<us.length:=by rw[hl];exact(E0.1 hi).1
 exact⟨w,S,_,hr i _ x (K8 hlt) hi⟩
def Ok.agg{cs:List IV}(h:Ok (.agg cs)):∀x∈cs,Ok x:=by
 obtain⟨w,S,v,h⟩:=h;cases h with
 |agg us _ hl h1 hr=>exact ok_all hl hr
def Ok.agg_at{cs:List IV}{x:IV}(h:Ok (.agg cs))(i:Nat)(hx:cs[i]?=some x):Ok x:=h.agg x (G6 hx)
def Ok.ref{cs:List IV}(h:Ok (.ref cs)):∀x∈cs,Ok x:=by
 obtain⟨w,S,v,h⟩:=h;cases h with
 |ref b o us _ hS hl h1 hu hr=>exact ok_all hl hr
def Ok.ref_at{cs:List IV}{x:IV}(h:Ok (.ref cs))(i:Nat)(hx:cs[i]?=some x):Ok x:=h.ref x (G6 hx)
def Holds.true_(X:St):Holds X True:=λ_ _ _ _=>trivial
def Holds.and{X:St}{J ψ:Prop}(h:Holds X J)(k:Holds X ψ):Holds X (J/\ψ):=λB a w hs=>⟨h B a w hs,k B a w hs⟩
def Holds.av{X:St}(t:Nat){x:IV}(h:X.av t=.im x):Holds X (Ok x):=by
 rintro B a w ⟨Y,hs⟩;have h1:=hs.tms t;rw[h]at h1;exact⟨_,_,_,h1.im_inv⟩
def Holds.ce{X:St}(o i:Nat){t:TypeId}{m:Nat}{x:IV}(hk:X.kd o=.box t m)(hi:i<m)(h:X.ce o i=.im x):Holds X (Ok x):=by
 rintro B a w ⟨Y,hs⟩;have ho:=hs.obs o;rw[hk]at ho;obtain⟨b,us,h3,h5,h6,h7,h8⟩:=ho;have:=h8 i _ (K8 (by omega));rw[h]at this;exact⟨_,_,_,this.im_inv⟩
def Holds.kd{X:St}(o:Nat){t:TypeId}{k:Nat}{es:List (List IV)}(hk:X.kd o=.row t k es):Holds X (OkL es):=by
 rintro B a w ⟨Y,hs⟩;have ho:=hs.obs o;rw[hk]at ho;obtain⟨us,h1,h2,h3,h4,h5,h6,h7⟩:=ho;exact⟨h3,ok_flat h5 h7⟩
def Holds.kdq{X:St}(o:Nat){t:TypeId}{k:Nat}{es:List (List IV)}(hk:X.kd o=.que t k es):Holds X (OkL es):=by
 rintro B a w ⟨Y,hs⟩;have ho:=hs.obs o;rw[hk]at ho;obtain⟨us,h1,h2,h3,h5,h6,h7,h8⟩:=ho;exact⟨h3,ok_flat h5 h7⟩
def Holds.mono{X:St}{J ψ:Prop}(h:Holds X J)(k:J->ψ):Holds X ψ:=λB a w hs=>k (h B a w hs)
def iter{S R:Type}(step:S->Option (S⊕R)):Nat->S->Option R
 |0,_=>none
 |n+1,s=>match step s with
  |none=>none
  |some (.inl s')=>iter step n s'
  |some (.inr r)=>some r
def Fin{S R:Type}(step:S->Option (S⊕R))(r:R)(k:Nat):S⊕R->Prop
 | .inl s'=>iter step k s'=some r
 | .inr r'=>r'=r
def Nxt{S R:Type}(step:S->Option (S⊕R))(r:R)(st:S->St)(k:Nat)(X':St):Prop:=∃m',m'<k+1/\∃s,iter step m' s=some r/\Ent X' (st s)
def Nxt.mk{S R:Type}{step:S->Option (S⊕R)}{r:R}{st:S->St}{k:Nat}{X':St}(s:S)(h:Fin step r k (.inl s))(e:Ent X' (st s)):Nxt step r st k X':=⟨k,jG _,s,h,e⟩
attribute [irreducible] Nxt
def fL.iter{S R:Type}(step:S->Option (S⊕R))(st:S->St)(J:S->Prop){body:(Exit->St->Prop)->St->Prop}{K:Exit->St->Prop}{X:St}{n:Nat}{s0:S}{r:R}
  (h:Sym.iter step n s0=some r) (e0:Ent X (st s0)) (hJ:∀s,Holds (st s) (J s))
  (hb:∀k s o,J s->step s=some o->Fin step r k o->body (λe X'=>match e with|.normal=>Nxt step r st k X'|e=>K e X') (st s)):fL body K X:=by
 unfold fL;refine⟨λm X=>∃s,Sym.iter step m s=some r/\Ent X (st s),n,⟨s0,h,e0⟩,?_⟩;rintro m X ⟨s,hm,he⟩;refine⟨st s,J s,he,hJ s,λhp=>?_⟩;cases m with
 |zero=>cases hm
 |succ k =>
  unfold Sym.iter at hm;split at hm
  ·cases hm
  ·rename_i s' hs;have:=hb k s _ hp hs hm;unfold Nxt at this;exact this
  ·rename_i r' hs;have:=hb k s _ hp hs (by injection hm);unfold Nxt at this;exact this
def Join(s X':St):Prop:=∃X1,Ent X' X1/\X1=s
def Join.mk{s X':St}(e:Ent X' s):Join s X':=⟨s,e,rfl⟩
attribute [irreducible] Join
def Cut.mk(s:St)(J:Prop){body:(St->Prop)->Prop}{rest:St->Prop}(hJ:Holds s J)(h:body (Join s))(k:J->rest s):Cut body rest:=by
 unfold Cut;unfold Join at h;exact⟨λX=>X=s,h,λX e=>⟨J,by rw[e];exact hJ,λhp=>by rw[e];exact k hp⟩⟩
end
section
variable {b:Bool}{k:Nat}{P:Program}{w:World}{r:Rs}{i:Nat}{g:FuncId}{n:Nat}
def OkOc:Oc->Prop
 | .im x=>Ok x
 | .ow (.row _ _ es)=>OkL es
 | .ow (.grid _ _ _ gs _)=>gs.length<=17592186044416
 | .ow _=>True
def OkOcs:List Oc->Prop
 |[]=>True
 |c::l=>OkOc c/\OkOcs l
def OkA:Arg->Prop
 | .im x=>Ok x
 | .ow k=>OkOc (.ow k)
 | .box _ cs=>OkOcs cs
 | .lent k=>OkOc (.ow k)
def OkAs:List Arg->Prop
 |[]=>True
 |x::l=>OkA x/\OkAs l
def okOc_of{S:Nat->Prop}{u:Value}:∀{c:Oc} {F:List Nat},OcOk w S u c F->OkOc c
 | .im x,_,h=>⟨w,S,u,h.1⟩
 | .ow (.row _ _ es),_,⟨_,_,⟨ws,h1,h2,h3,h4,h5,h6,h7⟩,_⟩=>⟨h3,ok_flat h5 h7⟩
 | .ow (.grid _ _ _ gs _),_,⟨_,_,⟨_,_,_,h,_⟩,_⟩=>h
 | .ow (.map _),_,_=>trivial
 | .ow .dead,_,_=>trivial
 | .ow (.box _ _),_,_=>trivial
 | .ow (.que _ _ _),_,_=>trivial
def okOcs_of{S:Nat->Prop}:∀{us:List Value} {cs:List Oc} {F:List Nat},bS w S us cs F->OkOcs cs
 |[],[],_,_=>trivial
 |_::_,_::_,_,⟨_,_,h1,h2,_⟩=>⟨okOc_of h1,okOcs_of h2⟩
 |[],_::_,_,h=>h.elim
 |_::_,[],_,h=>h.elim
def okA_of{S:Nat->Prop}{u:Value}:∀{x:Arg} {F:List Nat},ArgOk w S u x F->OkA x
 | .im x,_,h=>⟨w,S,u,h.1⟩
 | .ow k,_,h=>okOc_of (c:=.ow k) h
 | .box _ _,_,⟨_,_,_,_,_,_,h,_⟩=>okOcs_of h
 | .lent k,_,h=>okOc_of (c:=.ow k) h
def oks_of{S:Nat->Prop}:∀{us:List Value} {xs:List Arg} {F:List Nat},Q7 w S us xs F->OkAs xs
 |[],[],_,_=>trivial
 |_::_,_::_,_,⟨_,_,h1,h2,_⟩=>⟨okA_of h1,oks_of h2⟩
 |[],_::_,_,h=>h.elim
 |_::_,[],_,h=>h.elim
def sp_of{f:FuncId}{fn:Func}{c:Code}{xs:List Arg}(hm:P.follows .mixedOrders=true)(own:List Nat)(hf:P.funcs[f]?=some fn)(hname:(fn.name=="runtime.NumGoroutine")=false)(hb:fn.body=some c)
  (hn:xs.length<=fn.ntmps) (hok:gF xs=true) (h:OkAs xs->frcW (entW xs) 0 sig0 λ_ X=>X8 P (SpX P) fn.ntmps own c (retK P fn.results.toList xs r) X):Sp P f xs r :=
 sp_of_code hm (C:=SpX P) (λ_ _ _ h=>h) hf hname hb hn hok λ_ _ _ _ ha=>by
  have:=h (oks_of ha);rw[oX]at this;exact this
def sp_ofA{f:FuncId}{fn:Func}{c:Code}{xs:List Arg}(hm:P.follows .mixedOrders=true)(own:List Nat)(t:TypeId)(l:List Oc)(k:Nat)(hl:l.length+k=xs.length)(hf:P.funcs[f]?=some fn)(hname:(fn.name=="runtime.NumGoroutine")=false)(hb:fn.body=some c)
  (hn:xs.length<=fn.ntmps) (hn2:k+1<=fn.ntmps) (hok:gF xs=true) (h:OkAs xs->frcW (entW xs) 0 sig0 λm X=>frcW (entA l.length k X) m X λ_ X'=>X8 P (SpX P) fn.ntmps own c (retKA P t fn.results.toList xs r) X'):SpX P f (.lent .dead::.box t l::xs) r :=
 sp_ofA_code hm (C:=SpX P) (λ_ _ _ h=>h) hf hname hb hl hn hn2 hok λ_ _ _ _ ha=>by
  have:=h (oks_of ha);rw[oX,oX]at this;exact this
def sp_ofT{f:FuncId}{fn:Func}{c:Code}{xs:List Arg}(hm:P.follows .mixedOrders=true)(own:List Nat)(hf:P.funcs[f]?=some fn)(hname:(fn.name=="runtime.NumGoroutine")=false)(hb:fn.body=some c)
  (hn:xs.length<=fn.ntmps) (hok:gF xs=true) (h:OkAs xs->frcW (entW xs) 0 sig0 λ_ X=>X8 P (SpX P) fn.ntmps own c (retKA P 1 fn.results.toList xs r) X):SpX P f (.lent .dead::.ow .dead::xs) r :=
 sp_ofT_code hm (C:=SpX P) (λ_ _ _ h=>h) hf hname hb hn hok λ_ _ _ _ ha=>by
  have:=h (oks_of ha);rw[oX]at this;exact this
inductive FrzL:List Oc->List Oc->Prop
 |nil:FrzL [] []
 |keep (c:Oc) {l l':List Oc} (h:FrzL l l'):FrzL (c::l) (c::l')
 |row {e:TypeId} {k:Nat} {es:List (List IV)} {l l':List Oc} (h:FrzL l l'):FrzL (.ow (.row e k es)::l) (.im (.sl es)::l')
 |grid {e e':TypeId} {k:Nat} {gs:List (List IV)} {l l':List Oc} (h:FrzL l l'):FrzL (.ow (.grid e e' k gs none)::l) (.im (.sl gs)::l')
def RepI.up{S S':Nat->Prop}(hS:∀b,S b->S' b){v:Value}{x:IV}(h:RepI w S v x):RepI w S' v x:=h.mono hS λ_ _ _ h=>h
def Sp.frz{xs:List Arg}{tp:Bool}{l l':List Oc}{ys:List Arg}(hl:FrzL l l')(h:Sp P g xs (.mk tp l ys)):Sp P g xs (.mk tp l' ys) :=
 ⟨h.1,λw S vs F hS ha hn hF=>(h.2 w S vs F hS ha hn hF).mono λe w' ⟨v,F',h1,h2,⟨us,F1,F2,h3,h4,h5,h6⟩,h7,h8⟩=>by
  subst h6
  rw[V5]at h7
  -- the frozen blocks leave the footprint
  have hlt:∀b∈F1,(w.heap.size<=b\/b∈F)/\b<w'.heap.size:=λb hb=>h8 b (K9 _ hb)
  have key:∀(l l':List Oc),FrzL l l'->∀(us:List Value) (F1:List Nat) (S:Nat->Prop),bS w' S us l F1->F1.Nodup->∃Fk,Fk.Sublist F1/\∀(S':Nat->Prop),(∀b,S b->S' b)->(∀b∈F1,b∉Fk->S' b)->bS w' S' us l' Fk:=by
   intro l l' hl
   induction hl with
   |nil =>
    intro us F1 S h _
    match us,h with
    |[],h=>exact⟨[],List.nil_sublist _,λ_ _ _=>rfl⟩
   |keep c _ ih =>
    intro us F1 S h a3
    match us,h with
    |u::us,⟨G1,G2,h1,h2,h3⟩ =>
     subst h3
     rw[V5]at a3
     obtain⟨Fk,a1,a2⟩:=ih us G2 S h2 a3.2.1
     exact⟨G1++Fk,List.Sublist.append_left a1 _,λS' hS hF=>⟨G1,Fk,h1.mono λu x hr=>hr.up hS,a2 S' hS λb hb a4=>hF b (by simp[hb]) λhm=>by
      rcases I2.1 hm with hm|hm
      ·exact a3.2.2 b hm b hb rfl
      ·exact a4 hm,rfl⟩⟩
   |row _ ih =>
    intro us F1 S h a3
    match us,h with
    |u::us,⟨G1,G2,⟨_,inn,h1,e1⟩,h2,h3⟩ =>
     subst h3
     rw[V5]at a3
     obtain⟨Fk,a1,a2⟩:=ih us G2 S h2 a3.2.1
     refine⟨[]++Fk,(dI Fk).symm ▸ a1.trans (uJ _ _),λS' hS hF=>⟨[],Fk,⟨T9.repI h1 (λb hb=>?_) λu x hr=>hr.up hS,rfl⟩,a2 S' hS λb hb a4=>hF b (by simp[hb]) (by simpa using a4),rfl⟩⟩
     have a5:b∈G1:=by rw[e1];simp[fpk,hb]
     exact⟨hF b (by simp[a5]) λhm=>a3.2.2 b a5 b (a1.subset (by simpa using hm)) rfl,rfl⟩
   |grid _ ih =>
    intro us F1 S h a3
    match us,h with
    |u::us,⟨G1,G2,⟨_,inn,h1,e1⟩,h2,h3⟩ =>
     subst h3
     rw[V5]at a3
     obtain⟨Fk,a1,a2⟩:=ih us G2 S h2 a3.2.1
     refine⟨[]++Fk,(dI Fk).symm ▸ a1.trans (uJ _ _),λS' hS hF=>⟨[],Fk,⟨cY.repI h1 (λb hb=>?_) λu x hr=>hr.up hS,rfl⟩,a2 S' hS λb hb a4=>hF b (by simp[hb]) (by simpa using a4),rfl⟩⟩
     have a5:b∈G1:=by rw[e1];exact hb
     exact⟨hF b (by simp[a5]) λhm=>a3.2.2 b a5 b (a1.subset (by simpa using hm)) rfl,rfl⟩
  obtain⟨Fk,a1,a2⟩:=key l l' hl us F1 _ h4 h7.1
  have a6:∀b,b∈Fk++F2->b∈F1++F2:=λb hb=>by
   rcases I2.1 hb with hb|hb
   ·exact K9 _ (a1.subset hb)
   ·exact L2 _ hb
  have a7:∀b,((S b\/w.heap.size<=b\/b∈F)/\b<w'.heap.size/\b∉F1++F2)->((S b\/w.heap.size<=b\/b∈F)/\b<w'.heap.size/\b∉Fk++F2):=λb hb=>⟨hb.1,hb.2.1,λhm=>hb.2.2 (a6 b hm)⟩
  refine⟨v,Fk++F2,h1,h2,⟨us,Fk,F2,h3,a2 _ a7 λb hb a4=>⟨.inr (hlt b hb).1,(hlt b hb).2,λhm=>?_⟩,h5.mono λu x hr=>hr.up a7,rfl⟩,?_,λb hb=>h8 b (a6 b hb)⟩
  ·rcases I2.1 hm with hm|hm
   ·exact a4 hm
   ·exact h7.2.2 b hb b hm rfl
  ·rw[V5]
   exact⟨a1.nodup h7.1,h7.2.1,λx hx y hy=>h7.2.2 x (a1.subset hx) y hy⟩⟩
def Sp.im{xs:List Arg}{e:TypeId}{es:List (List IV)}(h:Sp P g xs (.row e k es)):Sp P g xs (.im (.sl es)):=Sp.frz (.row .nil) h
def Sp.args{xs ys:List Arg}(h:Sp P g xs r)(e:ys=xs):Sp P g ys r:=e ▸ h
abbrev cI(x:Int):List IV:=[.val (.int .i64 x)]
abbrev cB(x:Bool):List IV:=[.val (.bool x)]
abbrev cL{V:Type}(c:V->List IV)(l:List V):List IV:=[.sl (l.map c)]
abbrev nI(n:Int):IV:=.val (.int .i64 n)
abbrev nB(b:Bool):IV:=.val (.bool b)
abbrev nL{V:Type}(c:V->List IV)(l:List V):IV:=.sl (l.map c)
instance (n:Int):Decidable (inR n):=by unfold inR;infer_instance
instance (n b:Nat):Decidable (B4 n b):=by unfold B4;infer_instance
def fuel:Nat:=1000000000000000000000
section
variable {V G:Type}
def chk(c:Prop)[Decidable c](k:Option V):Option V:=if c then k else none
def idx(l:List V)(n:Int)(k:V->Option G):Option G:=if 0<=n then(match l[n.toNat]? with|some x=>k x|none=>none) else none
def D1{c:Prop}[Decidable c]{k:Option V}{r:V}(h:chk c k=some r):c/\k=some r:=by
 unfold chk at h;split at h
 ·exact⟨‹_›,h⟩
 ·cases h
def J5{l:List V}{n:Int}{k:V->Option G}{r:G}(h:idx l n k=some r):∃x,0<=n/\l[n.toNat]?=some x/\k x=some r:=by
 unfold idx at h;split at h
 ·split at h
  ·rename_i x hx;exact⟨x,‹_›,hx,h⟩
  ·cases h
 ·cases h
def bind_some{o:Option V}{f:V->Option G}{r:G}(h:o.bind f=some r):∃x,o=some x/\f x=some r:=by
 cases o with
 |none=>cases h
 |some x=>exact⟨x,rfl,h⟩
def L4{Y Z R:Type}{f:Y->Option R}{g:Z->Option R}{y:Y}{r:R}(h:Sum.elim f g (.inl y)=some r):f y=some r:=h
def cond_t{x y z:V}(hb:b=true)(h:cond b x y=z):x=z:=by rw[hb]at h;exact h
def cond_f{x y z:V}(hb:b=false)(h:cond b x y=z):y=z:=by rw[hb]at h;exact h
def idxn(l:List V)(n:Nat)(k:V->Option G):Option G:=match l[n]? with|some x=>k x|none=>none
def J7{l:List V}{k:V->Option G}{r:G}(h:idxn l n k=some r):∃x,l[n]?=some x/\k x=some r:=by
 unfold idxn at h;split at h
 ·rename_i x hx;exact⟨x,hx,h⟩
 ·cases h
def beq_tt(h:(b==true)=true):b=true:=by cases b<;>simp_all
def beq_tf(h:(b==true)=false):b=false:=by cases b<;>simp_all
def beq_ff(h:(b==false)=true):b=false:=by cases b<;>simp_all
def beq_ft(h:(b==false)=false):b=true:=by cases b<;>simp_all
def G0(h:b=true):(b==true)=true:=by rw[h];rfl
def N8(h:b=false):(b==false)=true:=by rw[h];rfl
def dS(h:b=true):(b==false)=false:=by rw[h];rfl
def O9(h:b=false):(b==true)=false:=by rw[h];rfl
def D5{l:List V}{c:V->G}{x:V}(h:l[i]?=some x):(l.map c)[i]?=some (c x):=by rw[H1,h];rfl
def D3{l:List V}{c:V->G}{x:V}(h:l[i]?=some x):i<(l.map c).length:=by
 rw[B7];exact(E0.1 h).1
def J8{l:List V}{c:V->List G}(h:∀x,(c x).length=k):∀e∈l.map c,e.length=k:=λe he=>by
 obtain⟨x,_,rfl⟩:=H0.1 he;exact h x
def C3{l:List V}{c:V->G}:l.length=(l.map c).length:=(B7 _).symm
def J9{l m:List V}{c:V->G}:(l++m).map c=l.map c++m.map c:=L1
def pD{l:List V}{c:V->G}:(l.take n).map c=((l.map c).take n).drop 0:=by rw[yR];rfl
def drop_map{l:List V}{c:V->G}:(l.drop n).map c=((l.map c).take ((l.map c).length:Int).toNat).drop n:=by rw[oD,H6,R5]
def P7{l:List V}{c:V->List G}{x y:V}{j:Nat}{xs:List G}(h:c y=splice (c x) j xs):(l.set i y).map c=(l.map c).set i (splice (c x) j xs):=by rw[tW,h]
end
abbrev wI(n:Int):Value:=.int .i64 n
abbrev wB(b:Bool):Value:=.bool b
section
variable {O Z:Type}
def mapV(f:O->Value)(g:Z->Value)(m:List (O×Z)):List (Value×Value):=m.map λp=>(f p.1,g p.2)
def mget[BEq O](k:O):List (O×Z)->Option Z
 |[]=>none
 |p::m=>match k==p.1 with|true=>some p.2|false=>mget k m
def mset[BEq O](k:O)(v:Z):List (O×Z)->List (O×Z)
 |[]=>[(k,v)]
 |p::m=>match k==p.1 with|true=>(k,v)::m|false=>p::mset k v m
def find_int(k:Int)(g:Z->Value):∀m:List (Int×Z),findV (.int .i64) (.int .i64 k) (mapV wI g m)=some ((mget k m).map g)
 |[]=>rfl
 |p::m=>by
  have ih:=find_int k g m;unfold mapV at ih ⊢;rw[M2];unfold findV mget;simp only[Instr.sameNow,if_true];cases k==p.1 with
  |true=>rfl
  |false=>exact ih
def set_int(k:Int)(v:Z)(g:Z->Value):∀m:List (Int×Z),setV (.int .i64) (.int .i64 k) (g v) (mapV wI g m)=some (mapV wI g (mset k v m))
 |[]=>rfl
 |p::m=>by
  have ih:=set_int k v g m;unfold mapV at ih ⊢;rw[M2];unfold setV mset;simp only[Instr.sameNow,if_true];cases k==p.1 with
  |true=>rfl
  |false=>simp only[ih];rfl
def get_arr(ks:A2)(g:Z->Value):∀m:List (A2×Z),getA ks (m.map λp=>(p.1,g p.2))=(mget ks m).map g
 |[]=>rfl
 |p::m=>by
  rw[M2];unfold getA mget;rw[show(ks==p.1)=decide (ks=p.1) from by rw[yF];simp];simp only;cases decide (ks=p.1) with
  |true=>rfl
  |false=>exact get_arr ks g m
def set_arr(ks:A2)(v:Z)(g:Z->Value):∀m:List (A2×Z),setA ks (g v) (m.map λp=>(p.1,g p.2))=(mset ks v m).map λp=>(p.1,g p.2)
 |[]=>rfl
 |p::m=>by
  rw[M2];unfold setA mset;rw[show(ks==p.1)=decide (ks=p.1) from by rw[yF];simp];simp only;cases decide (ks=p.1) with
  |true=>rfl
  |false=>simp only[set_arr ks v g m];rfl
def cA(l:A2):List IV:=l.map λc=>.val (.int .i64 c)
def flat_cA{l:A2}:cA l=(l.map cI).flatten:=by
 induction l with
 |nil=>rfl
 |cons c l ih=>rw[M2,V4,<- ih];rfl
def len_mapV{O Z:Type}{f:O->Value}{g:Z->Value}{m:List (O×Z)}:m.length=(mapV f g m).length:=(B7 _).symm
def rT{cs:List IV}{ks:A2}{g:Z->Value}{m:List (A2×Z)}(hc:cs=ks.map λc=>.val (.int .i64 c))(hn:ks.length=n/\∀p∈m,p.1.length=n):KeysA n cs (mapV wA g m) ks (m.map λp=>(p.1,g p.2)) :=
 ⟨hc,hn.1,by unfold mapV;rw[List.map_map];rfl,λp hp=>by obtain⟨q,hq,rfl⟩:=H0.1 hp;exact hn.2 q hq⟩
def mapA_set(g:Z->Value)(m:List (A2×Z)):mapV wA g m=(m.map λp=>(p.1,g p.2)).map λp=>(wA p.1,p.2):=by unfold mapV;rw[List.map_map];rfl
def getD_map{g:Z->Value}{d:Z}{z:Value}(h:g d=z)(o:Option Z):g (o.getD d)=(o.map g).getD z:=by cases o<;>simp[h]
def zW{g:Z->Value}(o:Option Z):o.isSome=(o.map g).isSome:=by cases o<;>rfl
def clr_map{V G:Type}{c:V->G}{z:V}{e:G}{l:List V}(hc:c z=e):(l.take k++List.replicate (l.length-k) z).map c=(l.map c).take k++List.replicate ((l.map c).length-k) e:=by rw[L1,yR,List.map_replicate,B7,hc]
def cut_own{V G:Type}{c:V->G}{l:List V}:(l.take k).map c=(l.map c).take k:=yR
def len_own{V G:Type}{c:V->G}{l:List V}:l.length-k=(l.map c).length-k:=by rw[B7]
def Z6{V G:Type}{c:V->G}{z:V}{e:G}{n m:Nat}(h:n=m)(hc:c z=e):(List.replicate n z).map c=List.replicate m e:=by rw[List.map_replicate,h,hc]
end
def flat_map{V:Type}{f:V->Value}{l:List V}(h:∀x:V,∃v,(IV.val (f x))=.val v):∀e∈l.map (λx=>[IV.val (f x)]),∀x∈e,∃v,x=.val v:=λe he x hx=>by
 obtain⟨y,_,rfl⟩:=H0.1 he;rcases I7.1 hx with rfl;exact⟨_,rfl⟩
def flat_row{e:TypeId}{es:List (List IV)}(h:∀e∈es,∀x∈e,∃v,x=.val v):flatRs (.mk false [.ow (.row e k es)] []):=⟨λc hc=>by rcases I7.1 hc with rfl;exact h,λy hy=>by cases hy⟩
def fO{v:Value}:flatRs (.mk false [.im (.val v)] []):=⟨λc hc=>by rcases I7.1 hc with rfl;exact Or.inl ⟨v,rfl⟩,λy hy=>by cases hy⟩
def B5{V:Type}{c:V->List IV}{l:List V}(h:Ok (.sl (l.map c))):l.length<=17592186044416:=by have:=h.sl.1;rwa [B7]at this
def okl_len{V:Type}{c:V->List IV}{l:List V}(h:OkL (l.map c)):l.length<=17592186044416:=by have:=h.1;rwa [B7]at this
def Holds.avl{X:St}{V:Type}{c:V->List IV}{l:List V}(t:Nat)(h:X.av t=.im (.sl (l.map c))):Holds X (l.length<=17592186044416):=(Holds.av t h).mono B5
def Holds.cel{X:St}{V:Type}{c:V->List IV}{l:List V}(o i:Nat){t:TypeId}{m:Nat}(hk:X.kd o=.box t m)(hi:i<m)(h:X.ce o i=.im (.sl (l.map c))):Holds X (l.length<=17592186044416):=(Holds.ce o i hk hi h).mono B5
def rowAt_map{V:Type}{c:V->List IV}{g:List (List V)}{e:List V}(h:g[i]?=some e):rowAt (g.map (cL c)) i=e.map c:=by
 unfold rowAt;rw[H1,h];rfl
def sp_cast{xs xs':List Arg}(h:xs'=xs)(c:Sp P g xs r):Sp P g xs' r:=h ▸ c
def oN{V:Type}(c:V->List IV):Option (List V)->IV
 |none=>.val (.slice none 0 0)
 |some l=>.nsl (l.map c)
abbrev cO{V:Type}(c:V->List IV)(o:Option (List V)):List IV:=[oN c o]
def nilS_oN{V:Type}{c:V->List IV}(o:Option (List V)):nilS (.im (oN c o)) o.isNone:=by
 cases o with
 |none=>exact .inl ⟨rfl,rfl⟩
 |some l=>exact .inr ⟨rfl,_,rfl⟩
def uR{V:Type}{c:V->List IV}{g:List (List V)}{r:List V}:(g.set i r).map (cL c)=(g.map (cL c)).set i [.sl (r.map c)]:=by rw[tW]
def iT{V:Type}{c:V->List IV}{g:List (List V)}{i j k:Nat}{ev:List V}{x y:V}{xs:List IV}(h:c y=splice (c x) k xs):(g.set i (ev.set j y)).map (cL c)=(g.map (cL c)).set i [.sl ((ev.map c).set j (splice (c x) k xs))]:=by
 rw[<- h,tW];show(g.map (cL c)).set i [.sl ((ev.set j y).map c)]=_;rw[tW]
def Holds.kdg{X:St}{V:Type}{c:V->List IV}{l:List V}(o:Nat){e e':TypeId}{q:Option Nat}(hk:X.kd o=.grid e e' k (l.map c) q):Holds X (l.length<=17592186044416):=λB a w ⟨Y,hs⟩=>by
 have ho:=hs.obs o;rw[hk]at ho;obtain⟨_,_,us,h,_⟩:=ho;simpa using h
def Holds.kdql{X:St}{V:Type}{c:V->List IV}{l:List V}(o:Nat){t:TypeId}(hk:X.kd o=.que t k (l.map c)):Holds X (l.length<=17592186044416):=(Holds.kdq o hk).mono okl_len
def Holds.kdl{X:St}{V:Type}{c:V->List IV}{l:List V}(o:Nat){t:TypeId}(hk:X.kd o=.row t k (l.map c)):Holds X (l.length<=17592186044416):=(Holds.kd o hk).mono okl_len
def J6{Y Z:Type}(oc:Y⊕Z)(st:Y->St)(X':St):Prop:=∃y,oc=.inl y/\Ent X' (st y)
def Cut.mkS{Y Z:Type}(oc:Y⊕Z)(st:Y->St)(J:Y->Prop){body:(St->Prop)->Prop}{rest:St->Prop}(hJ:∀y,Holds (st y) (J y))(h:body (J6 oc st))(k:∀y,oc=.inl y->J y->rest (st y)):Cut body rest:=by
 unfold Cut;have e:J6 oc st=λX'=>∃X1,Ent X' X1/\∃y,oc=.inl y/\X1=st y:=funext λX'=>propext ⟨λ⟨y,h1,h2⟩=>⟨_,h2,y,h1,rfl⟩,λ⟨X1,h1,y,h2,h3⟩=>⟨y,h2,h3 ▸ h1⟩⟩;rw[e]at h;refine⟨λX1=>∃y,oc=.inl y/\X1=st y,h,?_⟩;rintro X ⟨y,h1,rfl⟩;exact⟨J y,hJ y,k y h1⟩
attribute [irreducible] J6
def J6.mk'{Y Z:Type}{oc:Y⊕Z}{st:Y->St}{X':St}(y:Y)(h:oc=.inl y)(e:Ent X' (st y)):J6 oc st X':=by unfold J6;exact⟨y,h,e⟩
abbrev A6:=@bind_some
abbrev A3:=@Side.mk
abbrev zlC:=@Both.mk
abbrev C1:=@Both.yes
abbrev E1:=@Both.no
abbrev A7:=@Nf.mk
abbrev C8:=@Join.mk
abbrev C9:=@Holds.avl
abbrev D4:=@Ok.agg_at
abbrev S8:=@Cut.mkS
abbrev D2:=@Nxt.mk
end
structure A8 where
 I:Int
 S:Int
 N:A4
 O:A4
 deriving DecidableEq
def D9(s:A8):List IV:=[nI s.I,nI s.S,nL (cL cI) s.N,nL (cL cI) s.O]
structure CH where
 Step:A2
 Reset:Int
 deriving DecidableEq
structure BW where
 Lost:Int
 Wrong:Int
 Crash:Int
 deriving DecidableEq
structure tG where
 M:A8
 State:Int
 Ready:Bool
 Latency:CH
 Faults:BW
 Seed:Int
 Steps:Int
 Resets:Int
 Time:Int
 deriving DecidableEq
structure C7 where
 In:A2
 O:A2
 deriving DecidableEq
def I6(s:C7):List IV:=[nL cI s.In,nL cI s.O]
structure G7 where
 I:Int
 T:List C7
 deriving DecidableEq
def P1(s:G7):List IV:=[nI s.I,nL I6 s.T]
structure T_api_Oracle where
 Device:tG
 Obs:G7
 Votes:Int
 Tries:Int
 Asked:Int
 Hits:Int
 deriving DecidableEq
structure bV where
 I:Int
 P:A4
 X:A4
 deriving DecidableEq
def wH(s:bV):List IV:=[nI s.I,nL (cL cI) s.P,nL (cL cI) s.X]
structure T_api_Baseline where
 M:A8
 Words:A4
 deriving DecidableEq
structure T_api_Report where
 Run:Int
 Changes:List C7
 deriving DecidableEq
structure BX where
 I:Int
 Abstract:Int
 S:Int
 N:A4
 Sym:A4
 deriving DecidableEq
structure T_api_Clash where
 Word:A2
 First:Int
 Second:Int
 deriving DecidableEq
structure T_api_Hyp where
 M:A8
 Access:A4
 deriving DecidableEq
structure A9 where
 I:Int
 S:Int
 N:A4
 O:A4
 deriving DecidableEq
def G9(s:A9):List IV:=[nI s.I,nI s.S,nL (cL cI) s.N,nL (cL cI) s.O]
structure AF where
 I:Int
 Short:A4
 X:A4
 deriving DecidableEq
structure T_api_Split where
 Prefix:A2
 Symbol:Int
 Suffix:A2
 deriving DecidableEq
structure T_learnerlaw28_Case where
 M:A8
 O:G7
 L:AF
 S:T_api_Split
 deriving DecidableEq
structure T_learnerlaw35_Parts where
 P:A9
 W:A2
 S:Int
 T:Int
 O:Int
 deriving DecidableEq
structure zr4 where
 Mealy:A8
 deriving DecidableEq
structure T_mealy_runner where
 machine:zr4
 at_:Int
 deriving DecidableEq
structure T_api_Mutation where
 Kind:Int
 State:Int
 Input:Int
 Value:Int
 Value2:Int
 deriving DecidableEq
structure T_regress_runner where
 m:A8
 report:T_api_Report
 deriving DecidableEq
structure T_table_view where
 rows:List (A4)
 gP:A2
 next:A4
 number:List (ByteArray×Int)
 deriving DecidableEq
structure T_refine_reached where
 m:A8
 states:A2
 words:A4
 class_:A2
 deriving DecidableEq
structure T_mapper_set where
 list:A2
 word:A2
 deriving DecidableEq
structure T_mapper_builder where
 m:A8
 p:BX
 sets:List T_mapper_set
 of:List (ByteArray×Int)
 deriving DecidableEq
structure X7 where
 score:Int
 blue:Int
 red:Int
 deriving DecidableEq
def xY(s:X7):List IV:=[nI s.score,nI s.blue,nI s.red]
structure T_lazy_reader where
 l:AF
 o:G7
 missing:A4
 long:Bool
 deriving DecidableEq
structure T_nondet_group where
 word:A2
 before:A2
 least:A2
 deriving DecidableEq
structure T_device_unit where
 Device:tG
 deriving DecidableEq
structure eW where
 s:Int
 t:Int
 deriving DecidableEq
def wW(s:eW):List IV:=[nI s.s,nI s.t]
structure T_mapper_runner where
 Mapper:BX
 state:Int
 deriving DecidableEq
structure T_cover_place where
 state:Int
 word:A2
 deriving DecidableEq
structure T_A2 where
 f0:Int
 f1:Int
 deriving DecidableEq
def c_A2(s:T_A2):List IV:=[nI s.f0,nI s.f1]
structure bP where
 up:List (Int×Int)
 deriving DecidableEq
structure W5 where
 at_:eW
 word:A2
 deriving DecidableEq
def lL(s:W5):List IV:=[nI s.at_.s,nI s.at_.t,nL cI s.word]
structure T_A2_api_Mealy where
 f0:A8
 f1:A8
 deriving DecidableEq
structure Y6 where
 S:Int
 T:Int
 Word:A2
 deriving DecidableEq
def kC(s:Y6):List IV:=[nI s.S,nI s.T,nL cI s.Word]
structure T_api_DNode where
 Leaf:Bool
 Access:A2
 Suffix:A2
 Outs:A4
 Kids:A2
 deriving DecidableEq
structure T_api_DTree where
 Nodes:List T_api_DNode
 deriving DecidableEq
structure zti where
 I:Int
 Tree:T_api_DTree
 deriving DecidableEq
structure T_treelearn_learner where
 TreeState:zti
 o:G7
 deriving DecidableEq
structure T_analyze_subject where
 h:T_api_Hyp
 o:G7
 w:A2
 states:A2
 outs:A2
 deriving DecidableEq
structure T_treelearn_extension where
 w:A2
 node:Int
 deriving DecidableEq
end Go.Proofs.YtkeplokjplkcmaaGreat.Sym
namespace Go.Proofs.YtkeplokjplkcmaaGreat
section
open Go.ChangeShapes Go.WideShapes Go.ChangeAt Go.RowKit
def Tryz.own:ownKnob Tryz.prog.godebug=none:=by kernel_rfl
def Tryz.laidOut:laidOutB Tryz.prog=true:=by kernel_rfl
end
end Go.Proofs.YtkeplokjplkcmaaGreat
namespace Go.Proofs.YtkeplokjplkcmaaGreat.Sym
section
open Go.ChangeShapes Go.WideShapes Go.ChangeAt Go.RowKit Go.Deep
section
variable {H:Type}{enc:TypeId×Value->H}{W:World}{V G:Type}
def bulk_pos(d:DataW H):1<=Rows.uptoBulk d:=by
 cases d with
 |lit l=>cases l<;>simp[Rows.uptoBulk]
 |nil=>simp[Rows.uptoBulk]
 |ptr d=>simp[Rows.uptoBulk]
 |slice elems spare=>simp[Rows.uptoBulk]
 |agg parts=>simp[Rows.uptoBulk]
 |iface t d=>simp[Rows.uptoBulk]
 |map entries=>simp[Rows.uptoBulk]
 |held h=>simp[Rows.uptoBulk]
def bulk_mem{d:DataW H}{l:List (DataW H)}(h:d∈l):Rows.uptoBulk d<=Rows.uptoBulkAll l:=by
 induction l with
 |nil=>cases h
 |cons x r ih =>
  simp only[Rows.uptoBulkAll];rcases M4.1 h with e|e
  ·subst e;omega
  ·have:=ih e;omega
def AS(l r:List (DataW H)):Rows.uptoBulkAll (l++r)=Rows.uptoBulkAll l+Rows.uptoBulkAll r:=by
 induction l with
 |nil=>simp[Rows.uptoBulkAll]
 |cons x l ih=>simp only[kH,Rows.uptoBulkAll,ih];omega
def bulk_length(l:List (DataW H)):l.length<=Rows.uptoBulkAll l:=by
 induction l with
 |nil=>simp[Rows.uptoBulkAll]
 |cons x r ih=>have:=bulk_pos x;simp only[Rows.uptoBulkAll,G8];omega
def bulk_small{l:List (DataW H)}(hk:Rows.uptoSmall H l=true):Rows.uptoBulkAll l<=1048576:=by
 simpa[Rows.uptoSmall]using hk
def lowS(W:World):Nat->Prop:=λb=>b<W.heap.size
def Opn(W:World)(enc:TypeId×Value->H)(t:TypeId)(c:V->List IV)(sz:V->Nat)(ok:V->Prop):Prop :=
 ∀(fuel:Nat) (cs:List Value) (d:DataW H) (ps:List MemPlace),DataW.trod enc Tryz.prog W 0 (λ_=>true) true fuel t cs=some (d,ps)->Rows.uptoBulk d<=1048576 ->
  ∃x,X3 W (lowS W) cs (c x)/\(∀u∈cs,u.oneCell'=true)/\sz x<=Rows.uptoBulk d/\ok x
def sz1{V:Type}(_:V):Nat:=1
def szL(sz:V->Nat)(l:List V):Nat:=(l.map sz).sum+1
def okL(ok:V->Prop)(l:List V):Prop:=∀x∈l,ok x
def okT{V:Type}(_:V):Prop:=True
def opn_int:Opn W enc 3 cI sz1 inR:=by
 intro fuel cs d ps h hd;cases fuel with
 |zero=>simp[DataW.trod]at h
 |succ f =>
  unfold DataW.trod at h;rw[Tryz.underlying3]at h;split at h<;>try (cases h;done)
  all_goals (try (rename_i e;cases e;done))
  rename_i k k' n e;injection e with e
  injection e with e
  subst e;split at h
  ·rename_i hw;injection h with h
   injection h with h1 h2
   subst h1;obtain⟨rfl,hw⟩:=hw;refine⟨n,⟨rfl,λi u x hu hx=>?_⟩,λu hu=>?_,by simp[sz1,Rows.uptoBulk],?_⟩
   ·match i,hu,hx with
    |0,hu,hx =>
     simp at hu hx;subst hu hx;exact .val _
   ·rcases I7.1 hu with rfl;rfl
   ·simp[Lit.wf,IntKind.min,IntKind.max,IntKind.wrap,IntKind.bits,IntKind.signed]at hw;unfold inR;omega
  ·cases h
def opn_elems{t:TypeId}{c:V->List IV}{sz:V->Nat}{ok:V->Prop}{k b o:Nat}(hc:∀x,(c x).length=k)(D:Nat->DataW H):∀(n:Nat),
  (∀i,i<n->∃(x:V) (cs:List Value),(∀j,j<k->W.cell? ⟨b,o+(i*k+j),none⟩=cs[j]?)/\X3 W (lowS W) cs (c x)/\(∀u∈cs,u.oneCell'=true)/\sz x<=Rows.uptoBulk (D i)/\ok x) ->
  ∃(xs:List V) (us:List Value),xs.length=n/\us.length=n*k/\(∀(i:Nat) u,us[i]?=some u->W.cell? ⟨b,o+i,none⟩=some u)/\X3 W (lowS W) us (xs.map c).flatten/\(∀u∈us,u.oneCell'=true) /\
   (xs.map sz).sum<=Rows.uptoBulkAll ((List.range n).map D)/\∀x∈xs,ok x
 |0,_=>⟨[],[],rfl,by simp,by simp,⟨rfl,by simp⟩,by simp,by simp,by simp⟩
 |n+1,h=>by
  obtain⟨xs,us,h1,h2,h3,h4,h5,h6,h7⟩:=opn_elems (t:=t) hc D n λi hi=>h i (by omega);obtain⟨x,cs,g1,g2,g3,g4,g5⟩:=h n (by omega);have hcl:cs.length=k:=by rw[g2.1,hc]
  have a3:(xs.map c).flatten.length=n*k:=by rw[<- h4.1,h2]
  refine⟨xs++[x],us++cs,by simp[h1],by rw[H4,h2,hcl,Nat.add_mul];omega,λi u hu=>?_,⟨?_,λi u y hu hy=>?_⟩,λu hu=>?_,?_,λy hy=>?_⟩
  ·rw[Q0]at hu;split at hu
   ·exact h3 i u hu
   ·rename_i a2;have hj:=(E0.1 hu).1;have:=g1 (i-us.length) (by omega);rw[hu,show o+(n*k+(i-us.length))=o+i by omega]at this;exact this
  ·rw[L1,kI,H4,H4,h4.1];simp[g2.1]
  ·rw[L1,kI,Q0]at hy;rw[Q0]at hu;by_cases a2:i<us.length
   ·rw[if_pos a2]at hu;rw[if_pos (by rw[a3,<- h2];exact a2)]at hy;exact h4.2 i u y hu hy
   ·rw[if_neg a2]at hu;rw[if_neg (by rw[a3,<- h2];exact a2),a3,<- h2]at hy;simp only[M2,rH,V4,oG,W8]at hy;exact g2.2 _ u y hu hy
  ·rcases I2.1 hu with hu|hu
   ·exact h5 u hu
   ·exact g3 u hu
  ·rw[eD,L1,L1,List.sum_append,AS];simp only[M2,rH,List.sum_cons,List.sum_nil,Rows.uptoBulkAll];omega
  ·rcases I2.1 hy with hy|hy
   ·exact h7 y hy
   ·rcases I7.1 hy with rfl;exact g5
def opn_slice{t e:TypeId}{c:V->List IV}{sz:V->Nat}{ok:V->Prop}{k:Nat}(ht:Tryz.prog.underlying t=some (.slice e))(hk:Tryz.prog.cellsOf e=k)(hk0:0<k)(hc:∀x,(c x).length=k)(O:Opn W enc e c sz ok) :
  Opn W enc t (cL c) (szL sz) (okL ok):=by
 intro fuel cs d ps h hd;rcases open_slice ht h with⟨rfl,hx⟩|⟨a,len,b6,m,n,D,Pl,rfl,_,hl,_,hm,hx,a3⟩
 ·injection hx with a4 a8
  subst a4;refine⟨[],⟨rfl,λi u x hu hx=>?_⟩,λu hu=>?_,by simp[szL,Rows.uptoBulk],λx hx=>by cases hx⟩
  ·match i,hu,hx with
   |0,hu,hx =>
    simp at hu hx;subst hu hx;exact .emp _ _
  ·rcases I7.1 hu with rfl;rfl
 ·injection hx with a4 a8
  subst a4;simp only[if_true]at hm;subst hm
  have b2:Rows.uptoBulkAll ((List.range len).map D)+1<=Rows.uptoBulk (.slice ((List.range len).map D) ((List.range (m-len)).map λj=>D (len+j))):=by
   simp only[Rows.uptoBulk];omega
  have b5:len<=1048576:=by
   have:=bulk_length ((List.range len).map D);simp at this;omega
  by_cases h0:len=0
  ·subst h0;refine⟨[],⟨rfl,λi u x hu hx=>?_⟩,λu hu=>?_,by simp[szL,Rows.uptoBulk],λx hx=>by cases hx⟩
   ·match i,hu,hx with
    |0,hu,hx =>
     simp at hu hx;subst hu hx;exact .emp _ _
   ·rcases I7.1 hu with rfl;rfl
  ·obtain⟨ab,ao,a7⟩:=a;rw[hk]at a3
   have b4:a7=none:=by
    obtain⟨a6,h1,_⟩:=a3 0 (by omega);obtain⟨_,b3,a2⟩:=World.cells?_some h1;have h2:=a2 0 hk0;rw[K8 (by omega)]at h2;unfold World.cell? Addr.add at h2;simp only[dG,if_true]at h2;cases a7 with
    |none=>rfl
    |some q =>
     simp at h2;split at h2<;>simp at h2
   subst b4
   obtain⟨xs,us,h1,h2,h3,h4,h5,h6,h7⟩:=opn_elems (W:=W) (t:=e) (sz:=sz) (ok:=ok) (b:=ab) (o:=ao) hc D len λi hi=>by
    obtain⟨a6,e1,e2⟩:=a3 i (by omega);obtain⟨_,b3,a2⟩:=World.cells?_some e1;obtain⟨x,r1,r2,r3,r4⟩:=O _ _ _ _ e2 (aP (bulk_mem (H0.2 ⟨i,K6.2 hi,rfl⟩)) (by omega));refine⟨x,a6,λj hj=>?_,r1,r2,r3,r4⟩;have:=a2 j hj;rw[addr_add,addr_add,Y7]at this;exact this
   have a5:ab<W.heap.size:=by
    have a9:0<us.length:=by rw[h2];exact Nat.mul_pos (by omega) hk0
    exact World.block_lt_of_cell? W _ (h3 0 _ (K8 a9))
   refine⟨xs,⟨rfl,λi u x hu hx=>?_⟩,λu hu=>?_,?_,h7⟩
   ·match i,hu,hx with
    |0,hu,hx =>
     simp at hu hx;subst hu hx;refine .sl ab ao m k len (xs.map c) us (by simp[h1]) (λe he=>by obtain⟨y,_,rfl⟩:=H0.1 he;exact hc y) hl (by omega) a5 h4.1 h5 h3 h4.2
   ·rcases I7.1 hu with rfl;rfl
   ·show(xs.map sz).sum+1<=_;omega
def OpnFs(W:World)(enc:TypeId×Value->H)(fs:List Field)(off len:Nat)(c:V->List IV)(sz:V->Nat)(ok:V->Prop):Prop :=
 ∀(n:Nat) (cs:List Value) (xs:List (DataW H×List MemPlace)),xs.length=fs.length ->
  (∀(i:Nat) f,fs[i]?=some f->DataW.trod enc Tryz.prog W 0 (λ_=>true) true n f.type ((cs.drop f.offset).take (Tryz.prog.cellsOf f.type))=xs[i]?)->Rows.uptoBulkAll (xs.map (·.1))<=1048576 ->
  ∃x,X3 W (lowS W) ((cs.drop off).take len) (c x)/\(∀u∈(cs.drop off).take len,u.oneCell'=true)/\sz x<=Rows.uptoBulkAll (xs.map (·.1))/\ok x
def opnFs_nil{off:Nat}:OpnFs W enc [] off 0 (λ_:Unit=>[]) (λ_=>0) okT:=by
 intro n cs xs hx h hb;exact⟨(),⟨by simp,by simp⟩,by simp,D8 _,trivial⟩
def sV{f:Field}{fs:List Field}{off k len:Nat}{c1:V->List IV}{c2:G->List IV}{s1:V->Nat}{s2:G->Nat}{ok1:V->Prop}{ok2:G->Prop}(ho:f.offset=off)(hk:Tryz.prog.cellsOf f.type=k)
  (O:Opn W enc f.type c1 s1 ok1) (hc:∀x,(c1 x).length=k) (R:OpnFs W enc fs (off+k) len c2 s2 ok2) :
  OpnFs W enc (f::fs) off (k+len) (λp:V×G=>c1 p.1++c2 p.2) (λp=>s1 p.1+s2 p.2) (λp=>ok1 p.1/\ok2 p.2):=by
 intro n cs xs hx h hb
 match xs,hx with
 |x::xs,hx =>
  have e0:=h 0 f rfl;rw[ho,hk]at e0;simp only[M2,Rows.uptoBulkAll]at hb;obtain⟨a,r1,r2,r3,r4⟩:=O n _ x.1 x.2 e0 (by omega)
  obtain⟨b,q1,q2,q3,q4⟩:=R n cs xs (by simpa using hx) (λi g hg=>by
   have:=h (i+1) g (by simpa using hg)
   simpa using this) (by omega)
  have a2:(cs.drop off).take (k+len)=(cs.drop off).take k++(cs.drop (off+k)).take len:=by
   rw[List.take_add,List.drop_drop]
  have a4:((cs.drop off).take k).length=(c1 a).length:=r1.1;refine⟨(a,b),?_,λu hu=>?_,by simp only[M2,Rows.uptoBulkAll];omega,r4,q4⟩
  ·rw[a2];refine⟨by rw[H4,H4,r1.1,q1.1],λi u y hu hy=>?_⟩;rw[Q0,a4]at hu;rw[Q0]at hy;split at hu
   ·rename_i a3;rw[if_pos a3]at hy;exact r1.2 i u y hu hy
   ·rename_i a3;rw[if_neg a3]at hy;exact q1.2 _ u y hu hy
  ·rw[a2]at hu;rcases I2.1 hu with hu|hu
   ·exact r2 u hu
   ·exact q2 u hu
def opn_struct{t:TypeId}{fs:Array Field}{len:Nat}{c:V->List IV}{sz:V->Nat}{ok:V->Prop}{c':G->List IV}{sz':G->Nat}{ok':G->Prop}(ht:Tryz.prog.underlying t=some (.struct fs))(hl:Tryz.prog.cellsOf t=len)
  (R:OpnFs W enc fs.toList 0 len c sz ok) (conv:V->G) (hc:∀p,c' (conv p)=c p) (hs:∀p,sz' (conv p)=sz p+1) (ho:∀p,ok p->ok' (conv p)):Opn W enc t c' sz' ok':=by
 intro fuel cs d ps h hd;obtain⟨xs,n,rfl,hx,a2,a3,hf⟩:=DataW.trod_struct ht h;injection hx with a4 a5
 subst a4;simp only[Rows.uptoBulk]at hd;obtain⟨x,r1,r2,r3,r4⟩:=R n cs xs (by rw[a3];simp) (λi f hi=>hf i f (by simpa using hi)) (by omega);rw[hl]at a2;have e:(cs.drop 0).take len=cs:=by rw[rD,<- a2,R5]
 rw[e]at r1 r2;refine⟨conv x,by rw[hc];exact r1,r2,?_,ho x r4⟩;rw[hs];simp only[Rows.uptoBulk];omega
def arg_struct{t:TypeId}{fs:Array Field}{v:Value}{d:DataW H}{p:List MemPlace}{base:Nat}{c:V->List IV}{sz:V->Nat}{ok:V->Prop}(ht:Tryz.prog.underlying t=some (.struct fs))(hv:Value.okWide Tryz.prog W .any base t v)
  (h:DataW.Trod enc Tryz.prog W 0 (λ_=>true) true t v d p) (O:Opn W enc t c sz ok) (hb:Rows.uptoBulk d<=1048576):∃x,RepI W (lowS W) v (.agg (c x))/\sz x<=Rows.uptoBulk d/\ok x:=by
 obtain⟨cs,rfl,_⟩:=okWide_struct ht hv;obtain⟨fuel,hf⟩:=h;obtain⟨x,r1,r2,r3,r4⟩:=O fuel cs.toList d p (by simpa[Value.cells]using hf) hb;refine⟨x,?_,r3,r4⟩;have:=RepI.agg (w:=W) (S:=lowS W) cs.toList (c x) r1.1 r2 r1.2;simpa using this
def arg_slice{t e:TypeId}{v:Value}{d:DataW H}{p:List MemPlace}{base:Nat}{c:V->List IV}{sz:List V->Nat}{ok:List V->Prop}(ht:Tryz.prog.underlying t=some (.slice e))(hv:Value.okWide Tryz.prog W .any base t v)
  (h:DataW.Trod enc Tryz.prog W 0 (λ_=>true) true t v d p) (O:Opn W enc t (cL c) sz ok) (hb:Rows.uptoBulk d<=1048576):∃x,RepI W (lowS W) v (nL c x)/\sz x<=Rows.uptoBulk d/\ok x:=by
 obtain⟨a,l,cp,rfl⟩:=okWide_slice ht hv;obtain⟨fuel,hf⟩:=h;obtain⟨x,r1,r2,r3,r4⟩:=O fuel [.slice a l cp] d p (by simpa[Value.cells]using hf) hb;exact⟨x,r1.2 0 _ _ rfl rfl,r3,r4⟩
def sp_law{f:FuncId}{W:World}{vs:List Value}{xs:List Arg}(h:Sp Tryz.prog f xs (.im (nB true)))(ha:Q7 W (lowS W) vs xs []) :
  Calls Tryz.prog f vs.toArray W λe W'=>e=.returned (.bool true)/\Below W.heap.size W W':=by
 refine(h.2 W (lowS W) vs [] (λb hb=>hb) ha jE (λb hb=>by cases hb)).mono ?_;rintro e W' ⟨v,F',rfl,hb,⟨us,F1,F2,e1,ho,_,_⟩,_,_⟩;have e1:us=[v]:=e1;subst e1;refine⟨?_,hb.below λb hb=>by cases hb⟩;obtain⟨F3,F4,⟨hr,_⟩,_⟩:=ho;cases hr;rfl
end
end
section
section
variable {H:Type}{enc:TypeId×Value->H}{W:World}
def opn_0:Opn W enc 60 (cL cI) (szL sz1) (okL inR):=opn_slice (k:=1) Tryz.underlying60 (by kernel_rfl) (by decide) (λ_=>rfl) opn_int
def opn_1:Opn W enc 22 (cL (cL cI)) (szL (szL sz1)) (okL (okL inR)):=opn_slice (k:=1) Tryz.underlying22 (by kernel_rfl) (by decide) (λ_=>rfl) opn_0
def BR(x:A8):Nat:=(sz1 x.I+(sz1 x.S+((szL (szL sz1)) x.N+((szL (szL sz1)) x.O+0))))+1
def BV(x:A8):Prop:=inR x.I/\inR x.S/\(okL (okL inR)) x.N/\(okL (okL inR)) x.O
def opn_api_Mealy:Opn W enc 50 D9 BR BV :=
 opn_struct (len:=4) Tryz.underlying50 (by kernel_rfl) (sV (k:=1) rfl (by kernel_rfl) opn_int (λ_=>rfl) (sV (k:=1) rfl (by kernel_rfl) opn_int (λ_=>rfl) (sV (k:=1) rfl (by kernel_rfl) opn_1 (λ_=>rfl) (sV (k:=1) rfl (by kernel_rfl) opn_1 (λ_=>rfl) opnFs_nil)))) (λp=>⟨p.1,p.2.1,p.2.2.1,p.2.2.2.1⟩) (λ_=>rfl) (λ_=>rfl) (λp h=>⟨h.1,h.2.1,h.2.2.1,h.2.2.2.1⟩)
end
end
end Go.Proofs.YtkeplokjplkcmaaGreat.Sym
namespace Go.Proofs.YtkeplokjplkcmaaGreat
def F8:List Int->List Int->Nat
 |x::xs,y::ys=>if x=y then F8 xs ys+1 else 0
 |_,_=>0
def mZ:∀xs ys:List Int,F8 xs ys<=xs.length/\F8 xs ys<=ys.length
 |[],_=>by simp[F8]
 |_::_,[]=>by simp[F8]
 |x::xs,y::ys=>by
  have h:=mZ xs ys;simp only[F8];split<;>simp<;>omega
def vU{xs ys:List Int}{k:Nat}(h:xs.length<=k\/ys.length<=k):F8 (xs.drop k) (ys.drop k)=0:=by
 rcases h with h|h
 ·rw[List.drop_eq_nil_of_le h];simp[F8]
 ·rw[List.drop_eq_nil_of_le h];cases xs.drop k<;>simp[F8]
def tE:∀xs:List Int,F8 xs xs=xs.length
 |[]=>rfl
 |x::xs=>by simp[F8,tE xs]
def AL:∀xs ys:List Int,F8 xs ys=xs.length->F8 xs ys=ys.length->xs=ys
 |[],[],_,_=>rfl
 |[],y::ys,_,h=>by simp[F8]at h
 |x::xs,[],h,_=>by simp[F8]at h
 |x::xs,y::ys,h1,h2=>by
  simp only[F8]at h1 h2;split at h1
  ·rename_i he;subst he;simp at h1 h2;rw[AL xs ys h1 h2]
  ·simp at h1
def same_iff(xs ys:List Int):(xs.length=ys.length/\F8 xs ys=xs.length)↔xs=ys:=by
 constructor
 ·rintro⟨h1,h2⟩;exact AL xs ys h2 (by omega)
 ·rintro rfl;exact⟨rfl,tE xs⟩
def tA:∀w p:List Int,F8 w p=p.length↔p <+: w
 |[],[]=>by simp[F8]
 |[],y::ys=>by simp[F8]
 |x::xs,[]=>by simp[F8]
 |x::xs,y::ys=>by
  simp only[F8,List.length_cons,List.cons_prefix_cons];by_cases h:x=y
  ·subst h;simp[tA xs ys]
  ·rw[if_neg h];constructor
   ·intro h';omega
   ·rintro⟨rfl,_⟩;exact absurd rfl h
def lexI:List Int->List Int->Int
 |[],[]=>0
 |[],_::_=>-1
 |_::_,[]=>1
 |x::xs,y::ys=>if x<y then -1 else if y<x then 1 else lexI xs ys
def cmpW(a b:List Int):Int:=if a.length<b.length then -1 else if b.length<a.length then 1 else lexI a b
def pY:∀a b:List Int,lexI a b=-1\/lexI a b=0\/lexI a b=1
 |[],[]=>by simp[lexI]
 |[],_::_=>by simp[lexI]
 |_::_,[]=>by simp[lexI]
 |x::xs,y::ys=>by
  simp only[lexI];split
  ·simp
  ·split
   ·simp
   ·exact pY xs ys
def uV:∀a b:List Int,lexI a b=0↔a=b
 |[],[]=>by simp[lexI]
 |[],_::_=>by simp[lexI]
 |_::_,[]=>by simp[lexI]
 |x::xs,y::ys=>by
  simp only[lexI,List.cons.injEq];by_cases h1:x<y
  ·rw[if_pos h1];constructor
   ·intro h;omega
   ·rintro⟨rfl,_⟩;omega
  ·rw[if_neg h1];by_cases h2:y<x
   ·rw[if_pos h2];constructor
    ·intro h;omega
    ·rintro⟨rfl,_⟩;omega
   ·rw[if_neg h2,uV xs ys];constructor
    ·intro h;exact⟨by omega,h⟩
    ·rintro⟨_,h⟩;exact h
def uT:∀a b:List Int,lexI b a=- lexI a b
 |[],[]=>by simp[lexI]
 |[],_::_=>by simp[lexI]
 |_::_,[]=>by simp[lexI]
 |x::xs,y::ys=>by
  simp only[lexI];by_cases h1:x<y
  ·rw[if_neg (show ¬y<x by omega),if_pos h1,if_pos h1];simp
  ·by_cases h2:y<x
   ·rw[if_pos h2,if_neg h1,if_pos h2]
   ·rw[if_neg h2,if_neg h1,if_neg h1,if_neg h2];exact uT xs ys
def wE:∀a b c:List Int,lexI a b=-1->lexI b c=-1->lexI a c=-1
 |[],[],_,h,_=>by simp[lexI]at h
 |[],_::_,[],_,h=>by simp[lexI]at h
 |[],_::_,_::_,_,_=>by simp[lexI]
 |_::_,[],_,h,_=>by simp[lexI]at h
 |_::_,_::_,[],_,h=>by simp[lexI]at h
 |x::xs,y::ys,z::zs,h1,h2=>by
  simp only[lexI]at h1 h2 ⊢;by_cases p:x<y
  ·by_cases q:y<z
   ·rw[if_pos (by omega)]
   ·rw[if_neg q]at h2;by_cases r:z<y
    ·rw[if_pos r]at h2;omega
    ·rw[if_pos (by omega)]
  ·rw[if_neg p]at h1;by_cases p':y<x
   ·rw[if_pos p']at h1;omega
   ·rw[if_neg p']at h1;by_cases q:y<z
    ·rw[if_pos (by omega)]
    ·rw[if_neg q]at h2;by_cases r:z<y
     ·rw[if_pos r]at h2;omega
     ·rw[if_neg r]at h2;rw[if_neg (by omega),if_neg (by omega)];exact wE xs ys zs h1 h2
def BK:∀a b:List Int,lexI a b =
  if F8 a b=a.length/\F8 a b=b.length then 0 else
  if F8 a b=a.length\/(F8 a b<b.length/\a.getD (F8 a b) 0<b.getD (F8 a b) 0) then -1 else 1
 |[],[]=>by simp[lexI,F8]
 |[],_::_=>by simp[lexI,F8]
 |_::_,[]=>by simp[lexI,F8]
 |x::xs,y::ys=>by
  have ih:=BK xs ys;simp only[lexI,F8];by_cases h:x=y
  ·subst h;rw[if_neg (by omega),if_neg (by omega),ih];simp
  ·by_cases h1:x<y
   ·simp[h,h1]
   ·have h2:y<x:=by omega
    simp[h,h1,h2]
def pX(a b:List Int):cmpW a b=-1\/cmpW a b=0\/cmpW a b=1:=by
 unfold cmpW;split
 ·simp
 ·split
  ·simp
  ·exact pY a b
def sN(a b:List Int):cmpW a b=0↔a=b:=by
 unfold cmpW;by_cases h1:a.length<b.length
 ·rw[if_pos h1];constructor
  ·intro h;omega
  ·rintro rfl;omega
 ·rw[if_neg h1];by_cases h2:b.length<a.length
  ·rw[if_pos h2];constructor
   ·intro h;omega
   ·rintro rfl;omega
  ·rw[if_neg h2,uV]
def eQ(a:List Int):cmpW a a=0:=(sN a a).2 rfl
def sH(a b:List Int):cmpW b a=- cmpW a b:=by
 unfold cmpW;by_cases h1:a.length<b.length
 ·rw[if_neg (by omega),if_pos h1,if_pos h1];simp
 ·by_cases h2:b.length<a.length
  ·rw[if_pos h2,if_neg h1,if_pos h2]
  ·rw[if_neg h2,if_neg h1,if_neg h1,if_neg h2];exact uT a b
def jX(a b c:List Int)(h1:cmpW a b=-1)(h2:cmpW b c=-1):cmpW a c=-1:=by
 unfold cmpW at *;by_cases p:a.length<b.length
 ·by_cases q:b.length<c.length
  ·rw[if_pos (by omega)]
  ·rw[if_neg q]at h2;by_cases r:c.length<b.length
   ·rw[if_pos r]at h2;omega
   ·rw[if_pos (by omega)]
 ·rw[if_neg p]at h1;by_cases p':b.length<a.length
  ·rw[if_pos p']at h1;omega
  ·rw[if_neg p']at h1;by_cases q:b.length<c.length
   ·rw[if_pos (by omega)]
   ·rw[if_neg q]at h2;by_cases r:c.length<b.length
    ·rw[if_pos r]at h2;omega
    ·rw[if_neg r]at h2;rw[if_neg (by omega),if_neg (by omega)];exact wE a b c h1 h2
def Asc(l:List (List Int)):Prop:=l.Pairwise λa b=>cmpW a b=-1
def jV(l:List (List Int)):Nat:=l.foldl (λn w=>max n w.length) 0
def foldl_max_le(l:List (List Int)):∀n b:Nat,(l.foldl (λn w=>max n w.length) n<=b↔n<=b/\∀x∈l,x.length<=b):=by
 induction l with
 |nil=>intro n b;simp
 |cons y l ih =>
  intro n b;rw[List.foldl_cons,ih];simp only[List.forall_mem_cons];constructor
  ·rintro⟨h1,h2⟩;exact⟨by omega,by omega,h2⟩
  ·rintro⟨h1,h2,h3⟩;exact⟨by omega,h3⟩
def longestL_le(l:List (List Int))(b:Nat):jV l<=b↔∀x∈l,x.length<=b:=by
 rw[jV,foldl_max_le];simp
def M1(l:List (List Int))(w:List Int):Nat:=(l.takeWhile λx=>cmpW x w==-1).length
def placeL_le(l:List (List Int))(w:List Int):M1 l w<=l.length:=by
 unfold M1;exact(List.takeWhile_sublist _).length_le
def R8(xs:List Int)(inputs:Int):Int :=
 if 1<=inputs/\inputs<=1024 then if 1024<xs.length then 3 else if xs.all λa=>decide (0<=a/\a<inputs) then 0 else 1 else 2
def Asc.get{l:List (List Int)}(h:Asc l){i j:Nat}{x y:List Int}(hij:i<j)(hx:l[i]?=some x)(hy:l[j]?=some y):cmpW x y=-1:=by
 have hj:j<l.length:=(List.getElem?_eq_some_iff.1 hy).1;have h1:=List.pairwise_iff_getElem.1 h i j (by omega) hj hij;rw[List.getElem?_eq_getElem (by omega)]at hx;rw[List.getElem?_eq_getElem hj]at hy;injection hx with hx
 injection hy with hy
 rw[<- hx,<- hy];exact h1
def insW(l:List (List Int))(x:List Int):List (List Int):=if x∈l then l else l.take (M1 l x)++x::l.drop (M1 l x)
def tD:∀(l:List (List Int)) (w:List Int),(∀i x,i<M1 l w->l[i]?=some x->cmpW x w=-1)/\(∀x,l[M1 l w]?=some x->cmpW x w≠-1)
 |[],w=>by simp[M1]
 |y::l,w=>by
  have ih:=tD l w;by_cases hy:cmpW y w=-1
  ·have e:M1 (y::l) w=M1 l w+1:=by simp[M1,hy]
   rw[e];refine⟨λi x hi hx=>?_,λx hx=>ih.2 x (by simpa using hx)⟩;cases i with
   |zero=>simp at hx;rw[<- hx];exact hy
   |succ i=>exact ih.1 i x (by omega) (by simpa using hx)
  ·have e:M1 (y::l) w=0:=by simp[M1,hy]
   rw[e];refine⟨λi x hi=>absurd hi (by omega),λx hx=>?_⟩;simp at hx;rw[<- hx];exact hy
def Asc.mem_place{l:List (List Int)}(h:Asc l)(w:List Int):w∈l↔l[M1 l w]?=some w:=by
 constructor
 ·intro hm;obtain⟨i,hi⟩:=List.getElem?_of_mem hm;have hs:=tD l w
  have h1:¬i<M1 l w:=λa2=>by
   have:=hs.1 i w a2 hi;rw[eQ]at this;omega
  by_cases h2:i=M1 l w
  ·rw[<- h2];exact hi
  ·have a3:i<l.length:=(List.getElem?_eq_some_iff.1 hi).1;have hg:l[M1 l w]?=some l[M1 l w]:=List.getElem?_eq_getElem (by omega);have:=h.get (by omega) hg hi;exact absurd this (hs.2 _ hg)
 ·intro h2;exact List.mem_of_getElem? h2
def mem_insW(l:List (List Int))(x y:List Int):y∈insW l x↔y∈l\/y=x:=by
 unfold insW;split
 ·rename_i h;constructor
  ·exact Or.inl
  ·rintro (h'|rfl)
   ·exact h'
   ·exact h
 ·have e:y∈l↔y∈l.take (M1 l x)\/y∈l.drop (M1 l x):=by
   rw[<- List.mem_append,List.take_append_drop]
  rw[List.mem_append,List.mem_cons,e];constructor
  ·rintro (h|h|h)
   ·exact Or.inl (Or.inl h)
   ·exact Or.inr h
   ·exact Or.inl (Or.inr h)
  ·rintro ((h|h)|h)
   ·exact Or.inl h
   ·exact Or.inr (Or.inr h)
   ·exact Or.inr (Or.inl h)
def Asc.insW{l:List (List Int)}(h:Asc l)(x:List Int):Asc (insW l x):=by
 unfold Go.Proofs.YtkeplokjplkcmaaGreat.insW;split
 ·exact h
 ·rename_i hm;have hs:=tD l x
  have a2:∀a∈l.take (M1 l x),cmpW a x=-1:=λa ha=>by
   obtain⟨i,hi⟩:=List.getElem?_of_mem ha;rw[List.getElem?_take]at hi;split at hi
   ·rename_i a5;exact hs.1 i a a5 hi
   ·cases hi
  have a3:∀b∈l.drop (M1 l x),cmpW x b=-1:=λb hb=>by
   obtain⟨i,hi⟩:=List.getElem?_of_mem hb;rw[List.getElem?_drop]at hi;have a6:M1 l x+i<l.length:=(List.getElem?_eq_some_iff.1 hi).1;have hg:l[M1 l x]?=some l[M1 l x]:=List.getElem?_eq_getElem (by omega);have h0:=hs.2 _ hg;have a7:cmpW l[M1 l x] x≠0:=λe=>hm (by rw[<- (sN _ _).1 e];exact List.getElem_mem _);have hr:=pX l[M1 l x] x;have h1:cmpW x l[M1 l x]=-1:=by rw[sH];omega
   by_cases a4:i=0
   ·subst a4;rw[Nat.add_zero,hg]at hi;injection hi with hi
    rw[<- hi];exact h1
   ·exact jX _ _ _ h1 (h.get (by omega) hg hi)
  unfold Asc;rw[List.pairwise_append,List.pairwise_cons];refine⟨List.Pairwise.sublist (List.take_sublist _ _) h,⟨a3,List.Pairwise.sublist (List.drop_sublist _ _) h⟩,λa ha b hb=>?_⟩;rcases List.mem_cons.1 hb with rfl|hb
  ·exact a2 a ha
  ·exact jX _ _ _ (a2 a ha) (a3 b hb)
def insW_length(l:List (List Int))(x:List Int):(insW l x).length<=l.length+1:=by
 unfold insW;split
 ·omega
 ·simp;omega
def asc_nil:Asc []:=List.Pairwise.nil
def mK:∀{l m:List (List Int)},Asc l->Asc m->(∀x,x∈l↔x∈m)->l=m
 |[],[],_,_,_=>rfl
 |[],y::m,_,_,h=>absurd ((h y).2 (by simp)) (by simp)
 |x::l,[],_,_,h=>absurd ((h x).1 (by simp)) (by simp)
 |x::l,y::m,hl,hm,h=>by
  have h1:=List.pairwise_cons.1 hl;have h2:=List.pairwise_cons.1 hm
  have hxy:x=y:=by
   rcases List.mem_cons.1 ((h x).1 (by simp)) with e|hx
   ·exact e
   ·rcases List.mem_cons.1 ((h y).2 (by simp)) with e|hy
    ·exact e.symm
    ·have a:=h2.1 x hx;have b:=h1.1 y hy;rw[sH]at a;omega
  subst hxy
  have a2:∀{k:List (List Int)},(∀b∈k,cmpW x b=-1)->x∉k:=λhk hx=>by
   have:=hk x hx;rw[eQ]at this;omega
  rw[mK h1.2 h2.2 λz=>?_];have:=h z;simp only[List.mem_cons]at this;constructor
  ·intro hz;rcases this.1 (Or.inr hz) with rfl|h'
   ·exact absurd hz (a2 h1.1)
   ·exact h'
  ·intro hz;rcases this.2 (Or.inr hz) with rfl|h'
   ·exact absurd hz (a2 h2.1)
   ·exact h'
def sortW(l:List (List Int)):List (List Int):=l.foldl insW []
def zK(l:List (List Int))(x:List Int):sortW (l++[x])=insW (sortW l) x:=by simp[sortW]
def sT:∀(l a:List (List Int)),Asc a->Asc (l.foldl insW a)/\(∀x,x∈l.foldl insW a↔x∈a\/x∈l)/\(l.foldl insW a).length<=a.length+l.length
 |[],a,h=>⟨h,λx=>by simp,by simp⟩
 |y::l,a,h=>by
  obtain⟨h1,h2,h3⟩:=sT l (insW a y) (h.insW y);refine⟨h1,λx=>?_,?_⟩
  ·rw[List.foldl_cons,h2,mem_insW,List.mem_cons,or_assoc]
  ·have:=insW_length a y;rw[List.foldl_cons,List.length_cons];omega
def dC(l:List (List Int)):Asc (sortW l):=(sT l [] asc_nil).1
def Q3(l:List (List Int))(x:List Int):x∈sortW l↔x∈l:=by
 rw[sortW,(sT l [] asc_nil).2.1 x];simp
def jY(l:List (List Int)):(sortW l).length<=l.length:=by
 have:=(sT l [] asc_nil).2.2;simpa[sortW]using this
def stage{V:Type}(us:List V)(z:V)(i:Nat):List V:=us.take i++z::us.drop i
def stage_end{V:Type}(us:List V)(z:V):stage us z us.length=us++[z]:=by simp[stage]
def stage_at{V:Type}{us:List V}{z:V}{i:Nat}(h:i<=us.length):(stage us z i)[i]?=some z:=by
 simp[stage,List.getElem?_append,Nat.min_eq_left h]
def stage_before{V:Type}{us:List V}{z:V}{i j:Nat}(h:j<i)(h2:i<=us.length):(stage us z i)[j]?=us[j]?:=by
 rw[stage,List.getElem?_append,if_pos (by simp;omega),List.getElem?_take,if_pos h]
def stage_set{V:Type}{us:List V}{z u:V}{i:Nat}(h:i<=us.length):(stage us z i).set i u=stage us u i:=by
 rw[stage,List.set_append,if_neg (by simp;omega)];have:i-(us.take i).length=0:=by simp;omega
 rw[this];rfl
def stage_down{V:Type}{us:List V}{u:V}{j:Nat}(h:us[j]?=some u):stage us u (j+1)=stage us u j:=by
 obtain⟨hj,e⟩:=List.getElem?_eq_some_iff.1 h;unfold stage;rw[List.take_add_one,h,List.drop_eq_getElem_cons hj,e];simp
section
def Keeps(w w':World):Prop:=∀p u,w.cell? p=some u->w'.cell? p=some u
def S9{V:Type}(w:World)(R:Value->V->Prop)(A:Option Addr)(n c:Nat)(l:List V):Prop :=
 l.length=n/\n<=c/\n<=17592186044416 /\
  (0<n->∃b o,A=some ⟨b,o,none⟩/\∀i x,l[i]?=some x->∃u,w.cell? ⟨b,o+i,none⟩=some u/\R u x)
def cW(u:Value)(x:Int):Prop:=u=.int .i64 x
section
variable {V:Type}{w w':World}{R R':Value->V->Prop}{A:Option Addr}{n c k:Nat}{l:List V}
def S9.len(h:S9 w R A n c l):l.length=n:=h.1
def S9.small(h:S9 w R A n c l):n<=17592186044416:=h.2.2.1
def S9.keep(h:S9 w R A n c l)(hk:Keeps w w')(hR:∀u x,R u x->R' u x):S9 w' R' A n c l :=
 ⟨h.1,h.2.1,h.2.2.1,λhn=>by
  obtain⟨b,o,e,hc⟩:=h.2.2.2 hn
  refine⟨b,o,e,λi x hx=>?_⟩
  obtain⟨u,hu,hr⟩:=hc i x hx
  exact⟨u,hk _ _ hu,hR _ _ hr⟩⟩
def S9.at_(h:S9 w R A n c l)(hk:k<n):∃b o u x,A=some ⟨b,o,none⟩/\l[k]?=some x/\w.cell? ⟨b,o+k,none⟩=some u/\R u x:=by
 obtain⟨b,o,e,hc⟩:=h.2.2.2 (by omega);have hl:k<l.length:=by rw[h.1];exact hk
 obtain⟨u,hu,hr⟩:=hc k l[k] (List.getElem?_eq_getElem hl);exact⟨b,o,u,l[k],e,List.getElem?_eq_getElem hl,hu,hr⟩
end
def S9.int_at{w:World}{A:Option Addr}{n c k:Nat}{xs:List Int}(h:S9 w cW A n c xs)(hk:k<n) :
  ∃b o x,A=some ⟨b,o,none⟩/\xs[k]?=some x/\w.cell? ⟨b,o+k,none⟩=some (.int .i64 x):=by
 obtain⟨b,o,u,x,e,hx,hu,rfl⟩:=h.at_ hk;exact⟨b,o,x,e,hx,hu⟩
def gO{k:IntKind}{a b:Int}(h:a=b):Ending.returned (.int k a)=.returned (.int k b):=by rw[h]
def S9.kept{V:Type}{w w':World}{R:Value->V->Prop}{A:Option Addr}{n c:Nat}{l:List V}(h:S9 w R A n c l)(hk:Keeps w w'):S9 w' R A n c l:=h.keep hk λ_ _ h=>h
def W4{V:Type}{l:List V}{k:Nat}{x:V}(hl:l[k]?=some x):l.take (k+1)=l.take k++[x]:=by
 rw[List.take_add_one,hl];rfl
def tK{V:Type}{l:List V}{k:Nat}{x d:V}(h:l[k]?=some x):l.getD k d=x:=by simp[List.getD_eq_getElem?_getD,h]
end
section
def Tryz.infoInt:(Tryz.prog.info? 3).map (λi=>(i.zero,i.size,i.bytes))=some (some (.int .i64 0),1,8):=by kernel_rfl
def Tryz.infoWord:(Tryz.prog.info? 60).map (λi=>(i.zero,i.size,i.bytes))=some (some (.slice none 0 0),1,24):=by kernel_rfl
def addr_add(b o j:Nat):(⟨b,o,none⟩:Addr).add j=⟨b,o+j,none⟩:=by
 unfold Addr.add;split
 ·rename_i h;subst h;rfl
 ·rfl
def Src(w:World)(A:Option Addr)(m:Nat)(news:List Value):Prop :=
 news.length=m/\(0<m->∃b o,A=some ⟨b,o,none⟩/\∀j u,news[j]?=some u->w.cell? ⟨b,o+j,none⟩=some u)
section
variable {P:Program}{w:World}
end
def lF{w w':World}(hg:w.grownBy w' none):Keeps w w':=λ_ _ hu=>hg.cell hu (by simp)
def wR{w w':World}{row:Option Nat}(hg:w.grownBy w' row){B:Nat}(hB:B<=w.heap.size)(hr:∀g,row=some g->B<=g):Below B w w':=(Below.refl B w).grown hg hB hr
end
end Go.Proofs.YtkeplokjplkcmaaGreat
namespace Go.Proofs.YtkeplokjplkcmaaGreat.Sym
section
section
variable {P:Program}{w:World}
def xM{ops:Array Oper}{rest:List Oper}{o:Oper}{a:Act}{Q:Exit->Act->World->Prop}(hgd:o.guard=none)(s x:Operand)(t:TypeId)
  (ho:o.op=.call { callee:=.builtin .append,args:=#[s,x],argTypes:=#[t,t] })
  (base:Nat) (e:TypeId) (i:TypeInfo) (z:Value) (size bytes:Nat) (ht:P.underlying t=some (.slice e)) (hi:P.info? e=some i) (hz:i.zero=some z)
  (hsize:i.size=size) (hby:i.bytes=bytes) (hzs:z.cells.size=size) (hsz:0<size) (v:Value) (n:Nat) (xs:List Value) (hs:a.eval s=v) (hown:w.ownsRow base e size v n xs)
  (A:Option Addr) (m c:Nat) (news:List Value) (hx:a.eval x=.slice A m c) (hl:news.length=m*size) (hsrc:0<m->∃b q,A=some ⟨b,q,none⟩/\∀(j:Nat) u,news[j]?=some u->w.cell? ⟨b,q+j,none⟩=some u) (h1:∀u∈news,u.oneCell'=true)
  (a2:n+m<=maxLen) (hbytes:(n+m)*bytes<=140737488355328) (hbase:base<=w.heap.size)
  (h:∀v' w',w'.ownsRow base e size v' (n+m) (xs++news)->w.grownBy w' v.ownBlock->(v'.ownBlock=v.ownBlock\/v'.ownBlock=some w.heap.size)->wpList P ops Q rest (a.put o.dst v') w') :
  wpList P ops Q (o::rest) a w:=by
 refine wpList_plain hgd λ_ hK=>?_;obtain⟨v',w',a3,h2,h3,h4⟩:=lJ (P:=P) base t o.type e i z size bytes ht hi hz hsize hby hzs hsz v n xs hown A m c news hl hsrc h1 a2 hbytes hbase;unfold Oper.wp execOp;simp only[ho,resolve,invoke,builtin,Sem.run_bind,Sem.run_pure,Result.andThen_ok,List.map_toArray,M2,rH,hs,hx,a3];exact hK _ _ (h v' w' h2 h3 h4)
end
def vZ{a b c:World}{row row':Option Nat}(h:a.grownBy b row)(k:b.grownBy c row')(hr:row'=row\/∀g,row'=some g->a.heap.size<=g):a.grownBy c row :=
 ⟨k.os.trans h.os,k.tape.trans h.tape,k.output.trans h.output,aP h.size k.size,λi hi hne =>
  (k.block i (jF hi h.size) (by
   rcases hr with e|e
   ·rw[e];exact hne
   ·intro he
    have:=e i he.symm
    omega)).trans (h.block i hi hne)⟩
def sO(t:TypeId)(k n:Nat)(us:List Value)(w:World)(e:Ending)(w':World):Prop :=
 ∃v',e=.returned v'/\w'.ownsRow w.heap.size t k v' n us/\Below w.heap.size w w'
def xB(w:World)(t:TypeId)(k:Nat):(w.alloc (.cells #[] t)).ownsRow w.heap.size t k (.slice (some ⟨w.heap.size,0,none⟩) 0 0) 0 []:=by
 refine⟨by simp,.inr ⟨w.heap.size,0,#[],rfl,F9 _,?_,D8 _,by unfold maxLen;omega,by simp,by simp⟩⟩;exact heap_alloc_new w _
def wO{g:FuncId}{t:TypeId}{k by_:Nat}(he:∀args w,(callFunc g args).run Tryz.prog w=.ok (.enter g args) w)(hk0:0<k)
  (h:∀(w:World) (A:Option Addr) (n c:Nat) (us:List Value),us.length=n*k->(0<n->∃b q,A=some ⟨b,q,none⟩/\∀(j:Nat) u,us[j]?=some u->w.cell? ⟨b,q+j,none⟩=some u) ->
   (∀u∈us,u.oneCell'=true)->n<=17592186044416->n*by_<=140737488355328->Calls Tryz.prog g #[.slice A n c] w (sO t k n us w))
  {es:List (List IV)} (hk:∀e∈es,e.length=k) (hc:B4 es.length by_):Sp Tryz.prog g [.im (.sl es)] (.row t k es):=by
 refine⟨he,λw S vs F hS hv hn hF=>?_⟩
 match vs,hv with
 |[v],⟨F1,F2,⟨h3,e1⟩,h5,e3⟩ =>
  have h5:F2=[]:=h5;subst e1 h5 e3;obtain⟨A,c,us,rfl,hl,h1,a2,a4,hr⟩:=kJ h3 hk;have a8:us.length=es.length*k:=by rw[hl,R1 hk]
  refine(h w A es.length c us a8 a4 h1 a2 hc.1).mono ?_;rintro e w' ⟨v',rfl,ho,hb⟩
  have a6:w'.ownsRow 0 t k v' es.length us:=by
   refine⟨ho.1,?_⟩;rcases ho.2 with h6|⟨g1,cap,cur,k1,_,k3⟩
   ·exact .inl h6
   ·exact .inr ⟨g1,cap,cur,k1,D8 _,k3⟩
  have a7:=ho.lt
  have a3:∀b∈(F6 v').toList,w.heap.size<=b/\b<w'.heap.size:=λb hb=>by
   refine a7 b ?_;rw[dU a6];simpa using hb
  refine⟨v',(F6 v').toList,rfl,.of hb,⟨[v'],(F6 v').toList,[],rfl,⟨(F6 v').toList,[],⟨row_one a6,[],⟨us,hk0,hk,a2,a6,hl,h1,λi u x hu hx=>?_⟩,rfl⟩,rfl,by simp⟩,rfl,by simp⟩,?_,λb hb=>⟨.inl (a3 b hb).1,(a3 b hb).2⟩⟩
  ·have k1:∀b,S b->(S b\/w.heap.size<=b\/b∈[])/\b<w'.heap.size/\b∉(F6 v').toList:=λb a5=>⟨.inl a5,jF (hS b a5) hb.size,λhm=>by
    have h1:=(a3 b hm).1
    have h2:=hS b a5
    omega⟩
   have k2:∀(p:Addr) u,S p.block->w.cell? p=some u->w'.cell? p=some u:=λp u hp hu=>by
    have h6:=hb.block p.block (hS _ hp)
    have h7:w'.cell? p=w.cell? p:=by
     unfold World.cell?;rw[h6]
    rw[h7];exact hu
   exact(hr i u x hu hx).mono k1 k2
  ·cases F6 v'<;>simp
end
def Tryz.infoC_int:(Tryz.prog.info? 3).map (λi=>(i.zero,i.size,i.bytes))=some (some (.int .i64 0),1,8):=by kernel_rfl
set_option maxRecDepth 100000 in
set_option maxHeartbeats 400000 in
def clone_int(w:World)(A:Option Addr)(n c:Nat)(us:List Value)(hl:us.length=n*1)(hs:0<n->∃b q,A=some ⟨b,q,none⟩/\∀(j:Nat) u,us[j]?=some u->w.cell? ⟨b,q+j,none⟩=some u)
  (h1:∀u∈us,u.oneCell'=true) (hn:n<=17592186044416) (hby:n*8<=140737488355328):Calls Tryz.prog 121 #[.slice A n c] w (sO 3 1 n us w):=by
 obtain⟨j0,ji,b3,b4,b5⟩:=info_parts Tryz.infoC_int;have b6:=Lib.run_eql_slice_nil (P:=Tryz.prog) w 60 3 A n c 0 0 Tryz.underlying60;cases A with
 |none =>
  have h0:n=0:=by
   rcases dJ n with h|h
   ·exact h
   ·obtain⟨b,q,e,_⟩:=hs h;cases e
  subst h0;have a4:us=[]:=V0 (by omega);have HX:=Lib.hid a4;clear a4 hs hl h1
  go_enter Tryz.func121,Tryz.ntmps121
  go_wp2
  go_ret
  rw[HX.out];exact⟨_,rfl,World.ownsRow_nil _ _ _ _,Below.refl _ _⟩
 |some a =>
  have a3:∀o,0<n->∃b q,some a=some ⟨b,q,none⟩/\∀(j:Nat) u,us[j]?=some u->(w.alloc o).cell? ⟨b,q+j,none⟩=some u:=λo h=>by
   obtain⟨b,q,e,hc⟩:=hs h;exact⟨b,q,e,λj u hu=>lF (World.grownBy_alloc w o none) _ _ (hc j u hu)⟩
  have a5:0+n<=maxLen:=by unfold maxLen;omega
  have b2:(0+n)*8<=140737488355328:=by omega
  have a8:∀o,w.heap.size<=(w.alloc o).heap.size:=λo=>by simp
  have a9:=Lib.hid hl;clear hs
  go_enter Tryz.func121,Tryz.ntmps121
  go_wp2_with (at_builtin;refine xM rfl (.tmp 5) (.tmp 6) 60 rfl w.heap.size 3 j0 (.int .i64 0) 1 8 Tryz.underlying60 ji b3 b4 b5 rfl (by decide) (.slice (some ⟨w.heap.size,0,none⟩) 0 0) 0 _ rfl (xB _ _ _) _ _ _ _ rfl a9.out (a3 _) h1 a5 b2 (a8 _) ?_;intro v1 w1 a2 a7 b7)
  go_ret
  have a6:w.grownBy w1 none:=vZ (World.grownBy_alloc w _ none) a7 (.inr λg e=>by
   have:some w.heap.size=some g:=e
   injection this with this
   omega)
  exact⟨v1,rfl,by simpa using a2,wR a6 (F9 _) (λg e=>by cases e)⟩
def Tryz.infoC_words:(Tryz.prog.info? 60).map (λi=>(i.zero,i.size,i.bytes))=some (some (.slice none 0 0),1,24):=by kernel_rfl
set_option maxRecDepth 100000 in
set_option maxHeartbeats 400000 in
def clone_words(w:World)(A:Option Addr)(n c:Nat)(us:List Value)(hl:us.length=n*1)(hs:0<n->∃b q,A=some ⟨b,q,none⟩/\∀(j:Nat) u,us[j]?=some u->w.cell? ⟨b,q+j,none⟩=some u)
  (h1:∀u∈us,u.oneCell'=true) (hn:n<=17592186044416) (hby:n*24<=140737488355328):Calls Tryz.prog 148 #[.slice A n c] w (sO 60 1 n us w):=by
 obtain⟨j0,ji,b3,b4,b5⟩:=info_parts Tryz.infoC_words;have b6:=Lib.run_eql_slice_nil (P:=Tryz.prog) w 22 60 A n c 0 0 Tryz.underlying22;cases A with
 |none =>
  have h0:n=0:=by
   rcases dJ n with h|h
   ·exact h
   ·obtain⟨b,q,e,_⟩:=hs h;cases e
  subst h0;have a4:us=[]:=V0 (by omega);have HX:=Lib.hid a4;clear a4 hs hl h1
  go_enter Tryz.func148,Tryz.ntmps148
  go_wp2
  go_ret
  rw[HX.out];exact⟨_,rfl,World.ownsRow_nil _ _ _ _,Below.refl _ _⟩
 |some a =>
  have a3:∀o,0<n->∃b q,some a=some ⟨b,q,none⟩/\∀(j:Nat) u,us[j]?=some u->(w.alloc o).cell? ⟨b,q+j,none⟩=some u:=λo h=>by
   obtain⟨b,q,e,hc⟩:=hs h;exact⟨b,q,e,λj u hu=>lF (World.grownBy_alloc w o none) _ _ (hc j u hu)⟩
  have a5:0+n<=maxLen:=by unfold maxLen;omega
  have b2:(0+n)*24<=140737488355328:=by omega
  have a8:∀o,w.heap.size<=(w.alloc o).heap.size:=λo=>by simp
  have a9:=Lib.hid hl;clear hs
  go_enter Tryz.func148,Tryz.ntmps148
  go_wp2_with (at_builtin;refine xM rfl (.tmp 5) (.tmp 6) 22 rfl w.heap.size 60 j0 (.slice none 0 0) 1 24 Tryz.underlying22 ji b3 b4 b5 rfl (by decide) (.slice (some ⟨w.heap.size,0,none⟩) 0 0) 0 _ rfl (xB _ _ _) _ _ _ _ rfl a9.out (a3 _) h1 a5 b2 (a8 _) ?_;intro v1 w1 a2 a7 b7)
  go_ret
  have a6:w.grownBy w1 none:=vZ (World.grownBy_alloc w _ none) a7 (.inr λg e=>by
   have:some w.heap.size=some g:=e
   injection this with this
   omega)
  exact⟨v1,rfl,by simpa using a2,wR a6 (F9 _) (λg e=>by cases e)⟩
def Tryz.infoC_traces:(Tryz.prog.info? 70).map (λi=>(i.zero,i.size,i.bytes))=some (some (.agg #[.slice none 0 0,.slice none 0 0]),2,48):=by kernel_rfl
set_option maxRecDepth 100000 in
set_option maxHeartbeats 400000 in
def clone_traces(w:World)(A:Option Addr)(n c:Nat)(us:List Value)(hl:us.length=n*2)(hs:0<n->∃b q,A=some ⟨b,q,none⟩/\∀(j:Nat) u,us[j]?=some u->w.cell? ⟨b,q+j,none⟩=some u)
  (h1:∀u∈us,u.oneCell'=true) (hn:n<=17592186044416) (hby:n*48<=140737488355328):Calls Tryz.prog 140 #[.slice A n c] w (sO 70 2 n us w):=by
 obtain⟨j0,ji,b3,b4,b5⟩:=info_parts Tryz.infoC_traces;have b6:=Lib.run_eql_slice_nil (P:=Tryz.prog) w 33 70 A n c 0 0 Tryz.underlying33;cases A with
 |none =>
  have h0:n=0:=by
   rcases dJ n with h|h
   ·exact h
   ·obtain⟨b,q,e,_⟩:=hs h;cases e
  subst h0;have a4:us=[]:=V0 (by omega);have HX:=Lib.hid a4;clear a4 hs hl h1
  go_enter Tryz.func140,Tryz.ntmps140
  go_wp2
  go_ret
  rw[HX.out];exact⟨_,rfl,World.ownsRow_nil _ _ _ _,Below.refl _ _⟩
 |some a =>
  have a3:∀o,0<n->∃b q,some a=some ⟨b,q,none⟩/\∀(j:Nat) u,us[j]?=some u->(w.alloc o).cell? ⟨b,q+j,none⟩=some u:=λo h=>by
   obtain⟨b,q,e,hc⟩:=hs h;exact⟨b,q,e,λj u hu=>lF (World.grownBy_alloc w o none) _ _ (hc j u hu)⟩
  have a5:0+n<=maxLen:=by unfold maxLen;omega
  have b2:(0+n)*48<=140737488355328:=by omega
  have a8:∀o,w.heap.size<=(w.alloc o).heap.size:=λo=>by simp
  have a9:=Lib.hid hl;clear hs
  go_enter Tryz.func140,Tryz.ntmps140
  go_wp2_with (at_builtin;refine xM rfl (.tmp 5) (.tmp 6) 33 rfl w.heap.size 70 j0 (.agg #[.slice none 0 0,.slice none 0 0]) 2 48 Tryz.underlying33 ji b3 b4 b5 rfl (by decide) (.slice (some ⟨w.heap.size,0,none⟩) 0 0) 0 _ rfl (xB _ _ _) _ _ _ _ rfl a9.out (a3 _) h1 a5 b2 (a8 _) ?_;intro v1 w1 a2 a7 b7)
  go_ret
  have a6:w.grownBy w1 none:=vZ (World.grownBy_alloc w _ none) a7 (.inr λg e=>by
   have:some w.heap.size=some g:=e
   injection this with this
   omega)
  exact⟨v1,rfl,by simpa using a2,wR a6 (F9 _) (λg e=>by cases e)⟩
end Go.Proofs.YtkeplokjplkcmaaGreat.Sym
namespace Go.Proofs.YtkeplokjplkcmaaGreat
def GrowPost(t:TypeId)(w:World)(e:Ending)(w':World):Prop:=∃v',e=.returned v'/\w'.ownsRow w.heap.size t 1 v' 0 []/\Below w.heap.size w w'
def CL(w:World)(Z:Array Value)(t:TypeId)(c:Nat)(hc:c<=maxLen)(hZ:Z.size=c) :
  (w.drew.alloc (.cells Z t)).ownsRow w.heap.size t 1 (.slice (some ⟨w.heap.size,0,none⟩) 0 c) 0 []:=by
 refine⟨rfl,.inr ⟨w.heap.size,c,Z,rfl,Nat.le_refl _,?_,Nat.zero_le _,hc,by omega,by simp⟩⟩;exact heap_alloc_new w.drew _
def AK(w:World)(o:Obj):Below w.heap.size w (w.drew.alloc o):=(Below.refl w.heap.size w).drew.alloc (Nat.le_refl _) o
set_option maxRecDepth 100000 in
set_option maxHeartbeats 800000 in
def growI_any(n:Nat)(hn:n<=1000000000)(w:World) :
  Calls Tryz.prog 174 #[.slice none 0 0,.int .i64 n] w (GrowPost 3 w):=by
 obtain⟨i0,hi,a9,b3,b2⟩:=info_parts Tryz.infoInt;have h1:¬((n:Int)<0):=by omega
 by_cases h0:n=0
 ·subst h0
  go_enter Tryz.func174,Tryz.ntmps174
  go_wp2
  go_ret
  exact⟨_,rfl,World.ownsRow_nil _ _ _ _,Below.refl _ _⟩
 ·have h4:(n:Int) > 0:=by omega
  have a4:=Lib.run_append_nil_zeros (P:=Tryz.prog) w 60 3 60 3 i0 (.int .i64 0) .i64 .i64 Tryz.underlying60 Tryz.underlying3 hi a9 n (by omega) (by omega) (by omega) (by rw[b2];omega);generalize a3:grownCap w n 0 3=cap2 at a4;have a7:n<=cap2:=by rw[<- a3];exact grownCap_ge w _ 0 _
  have a2:cap2<=maxLen:=by rw[<- a3];exact grownCap_le_maxLen w _ 0 _ (by unfold maxLen;omega)
  generalize hZ:(Builtin.zeroCells (Value.cells (.int .i64 0)) n++Builtin.zeroCells (Value.cells (.int .i64 0)) (cap2-n))=Z at a4;have a6:Z.size=cap2:=by rw[<- hZ];simp[size_zeroCells,Value.cells];omega
  have a5:=CL w Z 3 cap2 a2 a6;have a8:cap2<=9223372036854775807:=by unfold maxLen at a2;omega
  have HO:=Lib.hid (And.intro a5 (AK w (.cells Z 3)));clear a3 hZ a5 a6
  go_enter Tryz.func174,Tryz.ntmps174
  go_wp2_with (at_builtin;refine Lib.wpList_append_run _ rfl _ _ _ _ rfl _ _ rfl rfl _ _ a4 ?_)
  go_ret
  exact⟨_,rfl,HO.out.1,HO.out.2⟩
set_option maxRecDepth 100000 in
set_option maxHeartbeats 800000 in
def growW_any(n:Nat)(hn:n<=1000000000)(w:World) :
  Calls Tryz.prog 131 #[.slice none 0 0,.int .i64 n] w (GrowPost 60 w):=by
 obtain⟨i0,hi,a9,b3,b2⟩:=info_parts Tryz.infoWord;have h1:¬((n:Int)<0):=by omega
 by_cases h0:n=0
 ·subst h0
  go_enter Tryz.func131,Tryz.ntmps131
  go_wp2
  go_ret
  exact⟨_,rfl,World.ownsRow_nil _ _ _ _,Below.refl _ _⟩
 ·have h4:(n:Int) > 0:=by omega
  have a4:=Lib.run_append_nil_zeros (P:=Tryz.prog) w 22 3 22 60 i0 (.slice none 0 0) .i64 .i64 Tryz.underlying22 Tryz.underlying3 hi a9 n (by omega) (by omega) (by omega) (by rw[b2];omega);generalize a3:grownCap w n 0 60=cap2 at a4;have a7:n<=cap2:=by rw[<- a3];exact grownCap_ge w _ 0 _
  have a2:cap2<=maxLen:=by rw[<- a3];exact grownCap_le_maxLen w _ 0 _ (by unfold maxLen;omega)
  generalize hZ:(Builtin.zeroCells (Value.cells (.slice none 0 0)) n++Builtin.zeroCells (Value.cells (.slice none 0 0)) (cap2-n))=Z at a4;have a6:Z.size=cap2:=by rw[<- hZ];simp[size_zeroCells,Value.cells];omega
  have a5:=CL w Z 60 cap2 a2 a6;have a8:cap2<=9223372036854775807:=by unfold maxLen at a2;omega
  have HO:=Lib.hid (And.intro a5 (AK w (.cells Z 60)));clear a3 hZ a5 a6
  go_enter Tryz.func131,Tryz.ntmps131
  go_wp2_with (at_builtin;refine Lib.wpList_append_run _ rfl _ _ _ _ rfl _ _ rfl rfl _ _ a4 ?_)
  go_ret
  exact⟨_,rfl,HO.out.1,HO.out.2⟩
end Go.Proofs.YtkeplokjplkcmaaGreat

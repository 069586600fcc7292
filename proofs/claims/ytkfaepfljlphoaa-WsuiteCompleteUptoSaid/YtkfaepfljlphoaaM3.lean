/-
 The plain reading of code with a range over a function: the code's parts that are shown by hand; what moves between two frames' views.
-/
import Derived.Test.YtkfaepfljlphoaaM2
import Derived.RangeFuncLeaves
import Derived.Test.YtkfaepfljlphoaaRows
import Derived.ProofKit
import Derived.OpenShut
import Derived.JoinedCond
import Derived.Deep.DeepHandedRow
import Derived.Deep.Slices
import Derived.WalkKit
import Derived.Deep.AppendLies
import Derived.Deep.Draws
import Derived.Maps.AppendAt
import Derived.Deep.QuietTactic
import Derived.BigQuiet
import Derived.WalkSpells
import Derived.Outline
import Derived.Lib.Hide
import Derived.Test.YtkfaepfljlphoaaProg
import Derived.Lib.AppendZeros
import Derived.Shelf.SlSortCmp.NoneTotal
import Derived.Lib.OwnBridge
import Derived.Laws.OwnMore
import Derived.Lib.BufferRead
import Derived.WalkSmall
import Derived.Shelf.SlSortCmp.Whole1
import Derived.Shelf.SlGeneric
import Derived.Ground.SlsfProg
set_option linter.all false
namespace Go.Proofs.Ytkfaepfljlphoaa.Sym
open Go.RowKit
theorem SatR.move {B B':Base} {σ:St} {a a':Act} {w w':World} {ρ:Ly} (h:SatR B σ a w ρ) (hsz:w.heap.size≤w'.heap.size) (hsame:∀ b,(Imm B σ ρ w b∨∃ o,Owns σ ρ o b)→w'.heap[b]?=w.heap[b]?) (hbel:Belo B'.G B'.w0.heap.size B'.w0 w')
  (hS:∀ b,Imm B σ ρ w b→Imm B' σ ρ w' b) (hown:∀ o b,Owns σ ρ o b→Mine B' b) (hZ:∀ b,B'.Z b→(Mine B' b∧b<w'.heap.size)∧∀ o,¬ Owns σ ρ o b) (hL:B'.L=B.L) (hn:B'.n=B.n) (ha:a'.tmps=a.tmps) (hd:a'.defers=B'.ds):SatR B' σ a' w' ρ:=by
 have hI:∀ v x,RepI w (Imm B σ ρ w) v x→RepI w' (Imm B' σ ρ w') v x:=fun v x hr=>hr.mono hS fun p u hp hu=>by
  unfold World.cell? at hu ⊢
  rw [hsame _ (.inl hp)]
  exact hu
 have hA:∀ v x,RepA w (Imm B σ ρ w) ρ σ.gn v x→RepA w' (Imm B' σ ρ w') ρ σ.gn v x:=fun v x hr=>hr.mono hI (fun _=>Nat.le_refl _) (fun _ _=>rfl) fun _=>⟨Nat.le_refl _,fun _=>rfl⟩
 exact ⟨hbel,fun o=>(h.obs o).mono rfl rfl (fun _=>rfl) (fun b hb=>hsame b (.inr ⟨o,hb⟩)) hI hA,fun o b ho=>⟨hown o b ho,Nat.lt_of_lt_of_le (h.own o b ho).2 hsz⟩,h.dis,fun t=>by rw [ha];exact hA _ _ (h.tms t),h.igs,hZ,fun o v hl hg=>h.rt o v (by rw [← hL];exact hl) hg,by rw [ha,hn];exact h.siz,hd⟩
def aCodeR (P:Program) (C:FuncId→List Arg→Rs→Prop) (n:Nat) (own:List Nat) (R:Code→(Exit→St→Prop)→St→Prop) (hid:Nat):Code→(Exit→St→Prop)→St→Prop
 | .skip,K,σ=>K .normal σ
 | .region id ops draw,K,σ=>match Nat.beq id hid with
  | true=>R (.region id ops draw) K σ
  | false=>aOps P C n own ops.toList ops.toList [] σ fun fs σ'=>Chk (!draw||drawOk ops.toList fs) (K .normal σ')
 | .seq a b,K,σ=>match one a with
  | true=>aCodeR P C n own R hid a (fun e σ'=>match e with | .normal=>aCodeR P C n own R hid b K σ' | e=>K e σ') σ
  | false=>Cut (fun J=>aCodeR P C n own R hid a (fun e σ'=>match e with | .normal=>J σ' | e=>K e σ') σ) fun σ'=>aCodeR P C n own R hid b K σ'
 | .cond c a b,K,σ=>match asBool (evA σ c) with
  | some t=>Both t (aCodeR P C n own R hid a K σ) (aCodeR P C n own R hid b K σ)
  | none=>False
 | .block id body,K,σ=>match oneB id body with
  | true=>aCodeR P C n own R hid body (fun e σ'=>match e with | .exit j=>if j=id then K .normal σ' else K (.exit j) σ' | e=>K e σ') σ
  | false=>Cut (fun J=>aCodeR P C n own R hid body (fun e σ'=>match e with | .normal=>J σ' | .exit j=>if j=id then J σ' else K (.exit j) σ' | e=>K e σ') σ) fun σ'=>K .normal σ'
 | .loop body,K,σ=>Loops (fun K' σ'=>aCodeR P C n own R hid body K' σ') K σ
 | .exit id,K,σ=>K (.exit id) σ
 | .ret,K,σ=>K .ret σ
 | .scope body,K,σ=>aCodeR P C n own R hid body (fun e σ'=>match e with | .goto _=>False | e=>K e σ') σ
 | .label _,K,σ=>K .normal σ
 | .rangeFunc g ps asg bd,K,σ=>R (.rangeFunc g ps asg bd) K σ
 | _,_,_=>False
structure Back (n:Nat) (X:St→Act→World→Prop):Prop where
 back:∀ σ a w,X σ a w→∃ B:Base,B.n=n∧Sat B σ a w∧∀ σ' a' w',Sat B σ' a' w'→X σ' a' w'
section
variable {P:Program}
open Classical in
theorem loop_okR {n:Nat} {X:St→Act→World→Prop} (hX:Back n X) {body:Code} {K:Exit→St→Prop} {σ:St} {f:(Exit→St→Prop)→St→Prop} (h:Loops f K σ)
  (hbody:∀ (K':Exit→St→Prop) (σ:St),f K' σ→∀ a w,X σ a w→∀ Q:Exit→Act→World→Prop,(∀ e σ' a' w',K' e σ'→X σ' a' w'→Q e a' w')→body.wp P Q a w)
  {a:Act} {w:World} (hs:X σ a w) {Q:Exit→Act→World→Prop} (hQ:∀ e σ' a' w',K e σ'→X σ' a' w'→Q e a' w'):(Code.loop body).wp P Q a w:=by
 obtain ⟨I,m0,h0,hI⟩:=h.out
 let L:Act→World→Nat→Prop:=fun a w m=>∃ σ,I m σ∧X σ a w
 let μ:Act→World→Nat:=fun a w=>if h:∃ m,L a w m then Classical.choose (least h) else 0
 refine wp_loop (fun a w=>∃ m,L a w m) μ ⟨m0,σ,h0,hs⟩ fun a w hL=>?_
 obtain ⟨h1,h2⟩:=Classical.choose_spec (least hL)
 have hμ:μ a w=Classical.choose (least hL):=by simp only [μ];rw [dif_pos hL]
 generalize hm:Classical.choose (least hL)=m at h1 h2 hμ
 obtain ⟨σ1,hσ1,hs1⟩:=h1
 obtain ⟨σ2,φ,hent,hφ,hb⟩:=hI m σ1 hσ1
 obtain ⟨B,_,hb1,hcl⟩:=hX.back _ _ _ hs1
 have hb2:=hent B a w hb1
 have hs2:=hcl _ _ _ hb2
 refine hbody _ σ2 (hb (hφ B a w hb2)) a w hs2 _ fun e σ' a' w' hk hs'=>?_
 cases e with
 | normal =>
  obtain ⟨m',hlt,hI'⟩:=hk
  have hL':∃ m,L a' w' m:=⟨m',σ',hI',hs'⟩
  refine ⟨hL',?_⟩
  have h3:=(Classical.choose_spec (least hL')).2 m' ⟨σ',hI',hs'⟩
  have hμ':μ a' w'=Classical.choose (least hL'):=by simp only [μ];rw [dif_pos hL']
  rw [hμ',hμ]
  omega
 | exit id=>exact hQ _ σ' a' w' hk hs'
 | goto l=>exact hQ _ σ' a' w' hk hs'
 | ret=>exact hQ _ σ' a' w' hk hs'
 | panic ch=>exact hQ _ σ' a' w' hk hs'
 | outgrown=>exact hQ _ σ' a' w' hk hs'
theorem aCodeR_ok {n:Nat} {X:St→Act→World→Prop} (hX:Back n X) {R:Code→(Exit→St→Prop)→St→Prop} {hid:Nat} (hR:∀ c K σ,R c K σ→∀ a w,X σ a w→∀ Q:Exit→Act→World→Prop,(∀ e σ' a' w',K e σ'→X σ' a' w'→Q e a' w')→c.wp P Q a w) (hm:P.follows .mixedOrders=true) {C:FuncId→List Arg→Rs→Prop} (hC:∀ g xs r,C g xs r→Sp P g xs r) {own:List Nat}:∀ (c:Code) (K:Exit→St→Prop) (σ:St),aCodeR P C n own R hid c K σ→∀ a w,X σ a w→∀ Q:Exit→Act→World→Prop,
  (∀ e σ' a' w',K e σ'→X σ' a' w'→Q e a' w')→c.wp P Q a w
 | .skip,K,σ,h,a,w,hs,Q,hQ=>wp_skip (hQ .normal σ a w h hs)
 | .region id ops draw,K,σ,h,a,w,hs,Q,hQ=>by
  simp only [aCodeR] at h
  split at h
  ·exact hR _ K σ h a w hs Q hQ
  ·obtain ⟨B,rfl,hb,hcl⟩:=hX.back _ _ _ hs
   exact aRegion_ok hm hC (id:=id) h hb fun e σ' a' w' hk hs'=>hQ e σ' a' w' hk (hcl _ _ _ hs')
 | .seq x y,K,σ,h,a,w,hs,Q,hQ=>by
  simp only [aCodeR] at h
  split at h
  case h_2 =>
   obtain ⟨Post,h1,h2⟩:=h.out
   refine wp_seq (aCodeR_ok hX hR hm hC x _ σ h1 a w hs _ fun e σ' a' w' hk hs'=>?_)
   cases e with
   | normal =>
    obtain ⟨σ1,he,hp⟩:=hk
    obtain ⟨φ,hφ,h3⟩:=h2 σ1 hp
    obtain ⟨B,_,hb1,hcl⟩:=hX.back _ _ _ hs'
    have hb2:=he B a' w' hb1
    exact aCodeR_ok hX hR hm hC y K σ1 (h3 (hφ B a' w' hb2)) a' w' (hcl _ _ _ hb2) Q hQ
   | exit id=>exact hQ _ σ' a' w' hk hs'
   | goto l=>exact hQ _ σ' a' w' hk hs'
   | ret=>exact hQ _ σ' a' w' hk hs'
   | panic ch=>exact hQ _ σ' a' w' hk hs'
   | outgrown=>exact hQ _ σ' a' w' hk hs'
  refine wp_seq (aCodeR_ok hX hR hm hC x _ σ h a w hs _ fun e σ' a' w' hk hs'=>?_)
  cases e with
  | normal=>exact aCodeR_ok hX hR hm hC y K σ' hk a' w' hs' Q hQ
  | exit id=>exact hQ _ σ' a' w' hk hs'
  | goto l=>exact hQ _ σ' a' w' hk hs'
  | ret=>exact hQ _ σ' a' w' hk hs'
  | panic ch=>exact hQ _ σ' a' w' hk hs'
  | outgrown=>exact hQ _ σ' a' w' hk hs'
 | .cond c x y,K,σ,h,a,w,hs,Q,hQ=>by
  simp only [aCodeR] at h
  split at h
  ·rename_i t ht
   obtain ⟨h1,h2⟩:=h.out
   have hc:a.eval c=.bool t:=by
    obtain ⟨B,_,⟨ρ,hs⟩,_⟩:=hX.back _ _ _ hs
    exact asBool_inv ht (evA_ok hs c)
   cases ht':t with
   | true=>exact wp_cond_true (hc.trans (by rw [ht'])) (aCodeR_ok hX hR hm hC x K σ (h1 ht') a w hs Q hQ)
   | false=>exact wp_cond_false (hc.trans (by rw [ht'])) (aCodeR_ok hX hR hm hC y K σ (h2 ht') a w hs Q hQ)
  ·exact h.elim
 | .block id body,K,σ,h,a,w,hs,Q,hQ=>by
  simp only [aCodeR] at h
  split at h
  case h_2 =>
   obtain ⟨Post,h1,h2⟩:=h.out
   have fin:∀ σ' a' w',(∃ σ1,Ent σ' σ1∧Post σ1)→X σ' a' w'→Q .normal a' w':=fun σ' a' w' ⟨σ1,he,hp⟩ hs'=>by
    obtain ⟨φ,hφ,h3⟩:=h2 σ1 hp
    obtain ⟨B,_,hb1,hcl⟩:=hX.back _ _ _ hs'
    have hb2:=he B a' w' hb1
    exact hQ _ σ1 a' w' (h3 (hφ B a' w' hb2)) (hcl _ _ _ hb2)
   refine wp_block (aCodeR_ok hX hR hm hC body _ σ h1 a w hs _ fun e σ' a' w' hk hs'=>?_)
   cases e with
   | exit j =>
    simp only at hk
    show (if j=id then Q .normal a' w' else Q (.exit j) a' w')
    by_cases e:j=id
    ·rw [if_pos e] at hk ⊢;exact fin σ' a' w' hk hs'
    ·rw [if_neg e] at hk ⊢;exact hQ _ σ' a' w' hk hs'
   | normal=>exact fin σ' a' w' hk hs'
   | goto l=>exact hQ _ σ' a' w' hk hs'
   | ret=>exact hQ _ σ' a' w' hk hs'
   | panic ch=>exact hQ _ σ' a' w' hk hs'
   | outgrown=>exact hQ _ σ' a' w' hk hs'
  refine wp_block (aCodeR_ok hX hR hm hC body _ σ h a w hs _ fun e σ' a' w' hk hs'=>?_)
  cases e with
  | exit j =>
   simp only at hk
   show (if j=id then Q .normal a' w' else Q (.exit j) a' w')
   by_cases e:j=id
   ·rw [if_pos e] at hk ⊢;exact hQ _ σ' a' w' hk hs'
   ·rw [if_neg e] at hk ⊢;exact hQ _ σ' a' w' hk hs'
  | normal=>exact hQ _ σ' a' w' hk hs'
  | goto l=>exact hQ _ σ' a' w' hk hs'
  | ret=>exact hQ _ σ' a' w' hk hs'
  | panic ch=>exact hQ _ σ' a' w' hk hs'
  | outgrown=>exact hQ _ σ' a' w' hk hs'
 | .loop body,K,σ,h,a,w,hs,Q,hQ=>loop_okR hX h (fun K' σ h a w hs Q hQ=>aCodeR_ok hX hR hm hC body K' σ h a w hs Q hQ) hs hQ
 | .exit id,K,σ,h,a,w,hs,Q,hQ=>wp_exit (hQ _ σ a w h hs)
 | .ret,K,σ,h,a,w,hs,Q,hQ=>wp_ret (hQ _ σ a w h hs)
 | .rangeFunc g ps asg bd,K,σ,h,a,w,hs,Q,hQ=>hR _ K σ h a w hs Q hQ
 | .scope body,K,σ,h,a,w,hs,Q,hQ=>by
  refine wp_scope_straight (aCodeR_ok hX hR hm hC body _ σ h a w hs _ fun e σ' a' w' hk hs'=>?_)
  cases e with
  | goto l=>exact hk.elim
  | exit j=>exact hQ _ σ' a' w' hk hs'
  | normal=>exact hQ _ σ' a' w' hk hs'
  | ret=>exact hQ _ σ' a' w' hk hs'
  | panic ch=>exact hQ _ σ' a' w' hk hs'
  | outgrown=>exact hQ _ σ' a' w' hk hs'
 | .label _,K,σ,h,a,w,hs,Q,hQ=>wp_label (hQ _ σ a w h hs)
 | .goto _,_,_,h,_,_,_,_,_=>h.elim
 | .refuse _,_,_,h,_,_,_,_,_=>h.elim
end
end Go.Proofs.Ytkfaepfljlphoaa.Sym

/-
 The plain reading of an iterator's code: a region with a call of yield; the iterator's contract.
-/
namespace Go.Proofs.Ytkfaepfljlphoaa.Sym
open Go.RowKit
section
variable {P:Program} {B:Base} {ops:Array Oper}
theorem aOps_runsP {C:FuncId→List Arg→Rs→Prop} (hC:∀ g xs r,C g xs r→Sp P g xs r) {own:List Nat}:∀ (l:List Oper) (k:Nat) (fs0:List Mk) (σ:St) (K:List Mk→St→Prop),(∀ j o,l[j]?=some o→ops[k+j]?=some o) →
  aOps P C B.n own ops.toList l fs0 σ K→∃ fs σ',Runs P B ops (List.range' k l.length) σ fs σ'∧K (fs0++fs.map fun p=>fxm p.2) σ'
 | [],k,fs0,σ,K,_,h=>⟨[],σ,.nil σ,by simpa [aOps] using h⟩
 | o::l,k,fs0,σ,K,hl,h=>by
  simp only [aOps] at h
  obtain ⟨fx,h2,he⟩:=aGuard_ok (B:=B) hC h
  rw [frcF_eq] at h2
  obtain ⟨fs,σ',hr,hk⟩:=aOps_runsP hC l (k+1) (fs0++[fxm fx]) (app σ fx.wr) K (fun j o' hj=>by have:=hl (j+1) o' (by simpa using hj);simpa [Nat.add_assoc,Nat.add_comm 1 j] using this) h2
  have ho:ops[k]?=some o:=by simpa using hl 0 o rfl
  refine ⟨(k,fx)::fs,σ',?_,by simpa using hk⟩
  rw [List.length_cons,List.range'_succ]
  exact .cons k o _ σ σ' fx fs ho he hr
theorem aOps_in (hd:noDefer ops.toList=true) {C:FuncId→List Arg→Rs→Prop} (hC:∀ g xs r,C g xs r→Sp P g xs r) {own:List Nat} {ro:Option Nat} {n:Nat} {l:List Oper} {k:Nat} {σ:St} {K:List Mk→St→Prop} (hl:∀ j o,l[j]?=some o→ops[k+j]?=some o)
  (h:aOps P C B.n own ops.toList l [] σ K) {a:Act} {w:World} (hs:Sat B σ a w) {rest:List Nat} {Q:Exit→Act→World→Prop} (hQ:∀ fs σ' a' w',K fs σ'→Sat B σ' a' w'→wpOpsIn (wf ro) n P ops Q rest a' w'):wpOpsIn (wf ro) n P ops Q (List.range' k l.length++rest) a w:=by
 obtain ⟨fs,σ',hr,hk⟩:=aOps_runsP (B:=B) hC l k [] σ K hl h
 exact runs_in hd hr hs fun a' w' hs'=>hQ _ σ' a' w' hk hs'
theorem region_in {C:FuncId→List Arg→Rs→Prop} (hC:∀ g xs r,C g xs r→Sp P g xs r) (hd:noDefer ops.toList=true) {own:List Nat} {ro:Option Nat} {n id:Nat} {σ:St} {K:St→Prop} (h:aOps P C B.n own ops.toList ops.toList [] σ fun _ σ'=>K σ') {a:Act} {w:World} (hs:Sat B σ a w)
  {Q:Exit→Act→World→Prop} (hQ:∀ σ' a' w',K σ'→Sat B σ' a' w'→Q .normal a' w'):(Code.region id ops false).wpIn (wf ro) n P Q a w:=by
 refine wpIn_region ?_
 have:=aOps_in (ro:=ro) (n:=n) hd hC (l:=ops.toList) (k:=0) (fun j o h=>by rw [Nat.zero_add,← Array.getElem?_toList];exact h) h hs (rest:=[]) (Q:=Q) fun fs σ' a' w' hk hs'=>hQ σ' a' w' hk hs'
 rw [List.append_nil] at this
 rw [List.range_eq_range']
 simpa using this
def yReg (P:Program) (C:FuncId→List Arg→Rs→Prop) (n:Nat) (own:List Nat) (Y:List Arg→Rs→Prop) (l q k:Nat) (f x:Operand) (d:Nat) (ops:Array Oper) (K:Exit→St→Prop) (σ:St):Prop :=
 aOps P C n own ops.toList (ops.toList.take k) [] σ fun _ σ1=>aYield own Y l q f x d (fun σ2=>aOps P C n own ops.toList (ops.toList.drop (k+1)) [] σ2 fun _ σ3=>K .normal σ3) σ1
theorem yReg_ok {C:FuncId→List Arg→Rs→Prop} (hC:∀ g xs r,C g xs r→Sp P g xs r) (hd:noDefer ops.toList=true) {y:Oper} {own:List Nat} {c:Call} {f x:Operand} {d q l k id:Nat} {L:Obj} {Y:List Arg→Rs→Prop} {bp:Value} {σ:St} {K:Exit→St→Prop}
  (hY:∀ xs r,Y xs r→YSp P l L bp xs r) (hy:ops[k]?=some y) (hop:y.op=.call c) (hcal:c.callee=.value f) (hargs:c.args=#[x]) (hdst:y.dst=some d) (hgd:y.guard=none) (hdn:d<B.n) (hl:l<B.w0.heap.size) (hlG:¬ B.G l) (hlS:¬ B.S0 l) (hL:B.w0.heap[l]?=some L) (hq:B.L q=some bp)
  (h:yReg P C B.n own Y l q k f x d ops K σ) {a:Act} {w:World} (hs:Sat B σ a w) {Q:Exit→Act→World→Prop} (hQ:∀ e σ' a' w',K e σ'→Sat B σ' a' w'→Q e a' w'):(Code.region id ops false).wp P Q a w:=by
 refine (wpIn_wide (n:=0)).1 (wpIn_region ?_)
 have hk:k<ops.size:=(Array.getElem?_eq_some_iff.1 hy).1
 have hsz:ops.toList.length=ops.size:=by simp
 have h1:=aOps_in (ro:=none) (n:=0) (Q:=Q) hd hC (l:=ops.toList.take k) (k:=0) (fun j o hj=>by
  rw [Nat.zero_add,← Array.getElem?_toList]
  rw [List.getElem?_take] at hj
  split at hj
  ·exact hj
  ·cases hj) h hs (rest:=k::(List.range' (k+1) (ops.toList.drop (k+1)).length++[])) fun _ σ1 a1 w1 hy1 hs1=>by
   simp only [wpOpsIn,hy]
   rw [if_pos (by simp [Region.wanted,hgd])]
   exact yield_ok hY hop hcal hargs hdst hdn hl hlG hlS hL hq hy1 hs1 fun σ2 a2 w2 h2 hs2=>aOps_in (ro:=none) (n:=0) hd hC (l:=ops.toList.drop (k+1)) (k:=k+1) (fun j o hj=>by
    rw [← Array.getElem?_toList]
    rw [List.getElem?_drop] at hj
    exact hj) h2 hs2 (rest:=[]) fun _ σ3 a3 w3 h3 hs3=>hQ _ σ3 a3 w3 h3 hs3
 have e:List.range ops.size=List.range' 0 (ops.toList.take k).length++(k::(List.range' (k+1) (ops.toList.drop (k+1)).length++[])):=by
  rw [List.append_nil,List.length_take,List.length_drop,hsz,Nat.min_eq_left (Nat.le_of_lt hk),List.range_eq_range']
  have:k::List.range' (k+1) (ops.size-(k+1))=List.range' k (ops.size-k):=by
   rw [show ops.size-k=(ops.size-(k+1))+1 by omega,List.range'_succ]
  rw [this]
  have:=List.range'_append (s:=0) (m:=k) (n:=ops.size-k) (step:=1)
  simp only [Nat.one_mul,Nat.zero_add] at this
  rw [this]
  congr 1
  omega
 rw [e]
 exact h1
def Ry (P:Program) (n:Nat) (own:List Nat) (Y:List Arg→Rs→Prop) (l q k:Nat) (f x:Operand) (d:Nat) (c:Code) (K:Exit→St→Prop) (σ:St):Prop :=
 ∃ id ops y c',c=.region id ops false∧noDefer ops.toList=true∧ops[k]?=some y∧y.op=.call c'∧c'.callee=.value f∧c'.args=#[x]∧y.dst=some d∧y.guard=none∧yReg P (Sp P) n own Y l q k f x d ops K σ
end
theorem iter_of {P:Program} {f:FuncId} {fn:Func} {c:Code} {xs:List Arg} {r:Rs} (hm:P.follows .mixedOrders=true) (own:List Nat) (hf:P.funcs[f]?=some fn) (hname:(fn.name=="runtime.NumGoroutine")=false) (hb:fn.body=some c) {q:Nat} (hxs:xs.length=q+1)
  (hn:xs.length≤fn.ntmps) (hok:entOk xs=true) {Y:List Arg→Rs→Prop} {l k hid d:Nat} {fo xo:Operand} (hdn:d<fn.ntmps) (h:OkAs xs→frcW (entW xs++[(.tmp q,.av (.im .any))]) 0 sig0 fun _ σ=>aCodeR P (Sp P) fn.ntmps own (Ry P fn.ntmps own Y l q k fo xo d) hid c (retK P fn.results.toList xs r) σ)
  {w:World} {S:Nat→Prop} {vs:List Value} {bp:Value} {F:List Nat} {L:Obj} (hS:∀ b,S b→b<w.heap.size) (ha:ArgsOk w S (vs++[bp]) xs F) (hnd:F.Nodup) (hF:∀ b∈F,¬ S b∧b<w.heap.size) (hL:w.heap[l]?=some L) (hlF:l∉F) (hlS:¬ S l) (hY:∀ xs r,Y xs r→YSp P l L bp xs r) (hlent:lentL xs (vs++[bp]) q=some bp) :
  Calls P f vs.toArray w fun e w'=>∃ (v:Value) (F':List Nat),e=.returned v∧Belo (fun b=>b∈F) w.heap.size w w' ∧
   ResOk w' (fun b=>(S b∨w.heap.size≤b∨b∈F)∧b<w'.heap.size∧b∉F') v (bxVs (vs++[bp]) xs) r F'∧F'.Nodup∧∀ b∈F',(w.heap.size≤b∨b∈F)∧b<w'.heap.size:=by
 have h:=h (oks_of ha)
 rw [frcW_eq,app_append] at h
 have hlen:=ha.len
 have hvl:vs.length=q:=by
  rw [List.length_append,List.length_singleton] at hlen
  omega
 obtain ⟨B,hB⟩:∃ B:Base,B=⟨w,S,fn.ntmps,fun b=>b∈F,fun _=>False,lentL xs (vs++[bp]),[]⟩:=⟨_,rfl⟩
 have hs0:Sat B (app (st0 xs) [(.tmp q,.av (.im .any))]) { tmps:=vs.toArray++Array.replicate (fn.ntmps-vs.toArray.size) undef,defers:=[] } w:=by
  have h1:=st0_sat w S ha hnd hF hS fn.ntmps (by rw [hlen];exact hn) hok
  rw [← hB] at h1
  obtain ⟨ρ,h1⟩:=h1
  refine ⟨ρ,h1.slots (SameObj.tmp (st0 xs) q (.av (.im .any))) (fun t=>?_) ?_ ?_⟩
  ·show RepA w (Imm B (st0 xs) ρ w) ρ (st0 xs).gn _ ((upd (st0 xs) (.tmp q) (.av (.im .any))).av t)
   by_cases e:t=q
   ·subst e
    rw [show (upd (st0 xs) (.tmp t) (.av (.im .any))).av t=.im .any by simp [St.av,upd_at]]
    exact .im _ _ (.any _)
   ·rw [show (upd (st0 xs) (.tmp q) (.av (.im .any))).av t=(st0 xs).av t by simp [St.av,upd_at,e]]
    have h2:=h1.tms t
    have h3:((vs.toArray++Array.replicate (fn.ntmps-vs.toArray.size) undef:Array Value).getD t undef)=(((vs++[bp]).toArray++Array.replicate (fn.ntmps-(vs++[bp]).toArray.size) undef:Array Value).getD t undef):=by
     simp only [Array.getD_eq_getD_getElem?,Array.getElem?_append,List.size_toArray,List.length_append,List.length_singleton,List.getElem?_toArray,Array.getElem?_replicate,List.getElem?_append]
     have hq1:q+1≤fn.ntmps:=by omega
     have hv2:((vs.length+1:Nat))=q+1:=by omega
     by_cases h4:t<vs.length
     ·have c1:t<vs.length+1:=by omega
      simp only [h4,c1,if_true]
     ·have c1:¬ t<vs.length+1:=by omega
      simp only [h4,c1,if_false]
      by_cases h5:t<fn.ntmps
      ·have c2:t-vs.length<fn.ntmps-vs.length:=by omega
       have c3:t-(vs.length+1)<fn.ntmps-(vs.length+1):=by omega
       simp only [c2,c3,if_true]
      ·have c2:¬ t-vs.length<fn.ntmps-vs.length:=by omega
       have c3:¬ t-(vs.length+1)<fn.ntmps-(vs.length+1):=by omega
       simp only [c2,c3,if_false]
    rw [h3]
    exact h2
  ·rw [hB]
   simp
   omega
  ·rw [hB]
 have hBn:B.n=fn.ntmps:=by rw [hB]
 refine calls_of_wp hf hb (aCodeR_ok (X:=Sat B) (n:=fn.ntmps) ⟨fun σ a w h=>⟨B,hBn,h,fun _ _ _ h=>h⟩⟩ (fun c' K σ hR a w1 hs Q hQ=>?_) hm (C:=Sp P) (fun _ _ _ h=>h) c _ _ h _ _ hs0 _ fun e σ' a' w' hk hs'=>?_)
 ·obtain ⟨id,ops,y,c1,rfl,g1,g2,g3,g4,g5,g6,g7,hreg⟩:=hR
  rw [← hBn] at hreg
  refine yReg_ok (B:=B) (C:=Sp P) (fun _ _ _ h=>h) g1 hY g2 g3 g4 g5 g6 g7 (by rw [hBn];exact hdn) ?_ ?_ ?_ ?_ ?_ hreg hs hQ
  ·rw [hB];exact (Array.getElem?_eq_some_iff.1 hL).1
  ·rw [hB];exact hlF
  ·rw [hB];exact hlS
  ·rw [hB];exact hL
  ·rw [hB];exact hlent
 have fin:RetOk P fn.results.toList xs σ' r→a'.defers=[]∧∃ v,(results fn a'.tmps).run P w'=.ok v w'∧∃ (v':Value) (F':List Nat),Ending.returned v=.returned v'∧Belo (fun b=>b∈F) w.heap.size w w' ∧
   ResOk w' (fun b=>(S b∨w.heap.size≤b∨b∈F)∧b<w'.heap.size∧b∉F') v' (bxVs (vs++[bp]) xs) r F'∧F'.Nodup∧∀ b∈F',(w.heap.size≤b∨b∈F)∧b<w'.heap.size:=fun hk=>by
  subst hB
  obtain ⟨v,F',hv,hres,h1,h2⟩:=results_ok (vs0:=vs++[bp]) hk hs' hlen fun j v hv=>hv
  obtain ⟨ρ,hs'⟩:=hs'
  exact ⟨hs'.dfr,v,hv,v,F',rfl,hs'.bel,hres,h1,h2⟩
 cases e with
 | ret=>exact fin hk
 | normal=>exact fin hk
 | exit id=>exact hk.elim
 | goto l=>exact hk.elim
 | panic ch=>exact hk.elim
 | outgrown=>exact hk.elim
end Go.Proofs.Ytkfaepfljlphoaa.Sym

/-
 The plain reading of a round of a range over a function: a body that turns one box.
-/
namespace Go.Proofs.Ytkfaepfljlphoaa.Sym
open Go.RowKit
def tmpsOf:List (Loc×Ct)→List Nat
 | []=>[]
 | (.tmp t,_)::l=>t::tmpsOf l
 | _::l=>tmpsOf l
theorem tmpsOf_mem:∀ {l:List (Loc×Ct)} {p:Loc×Ct} {t:Nat},p∈l→p.1=.tmp t→t∈tmpsOf l
 | (x,c)::l,p,t,hp,e=>by
  rcases List.mem_cons.1 hp with rfl | hp
  ·simp only at e
   subst e
   simp [tmpsOf]
  ·have:=tmpsOf_mem hp e
   cases x<;>simp [tmpsOf,this]
theorem av_far {σ:St} {wr:List (Loc×Ct)} {t:Nat} (h:t∉tmpsOf wr):(app σ wr).av t=σ.av t:=by
 unfold St.av
 rw [app_get fun p hp e=>h (tmpsOf_mem hp e)]
theorem av_put1 (σ:St) (t s:Nat) (v:AV):(app σ [(.tmp t,.av v)]).av s=if s=t then v else σ.av s:=by
 show (upd σ (.tmp t) (.av v)).av s=_
 by_cases e:s=t
 ·subst e
  simp [St.av,upd_at]
 ·rw [if_neg e]
  simp [St.av,upd_at,e]
theorem same_tmps:∀ (l:List (Nat×AV)) (σ:St),SameObj σ (app σ (l.map fun p=>(.tmp p.1,.av p.2)))
 | [],σ=>⟨rfl,rfl,rfl,rfl⟩
 | (t,v)::l,σ=>by
  have h1:=SameObj.tmp σ t (.av v)
  have h2:=same_tmps l (upd σ (.tmp t) (.av v))
  exact ⟨h2.gn.trans h1.gn,h2.ig.trans h1.ig,h2.kd.trans h1.kd,h2.ce.trans h1.ce⟩
def roundW (pt pb:Nat) (A0 A1:AV):List (Loc×Ct):=[(.tmp 0,.av (.im .any)),(.tmp 1,.av (.im .any)),(.tmp pt,.av A0),(.tmp pb,.av A1)]
theorem round_sat {n:Nat} {w:World} {S:Nat→Prop} {v0 bp:Value} {F:List Nat} {xs:List Arg} (ha:ArgsOk w S [v0,bp] xs F) (hnd:F.Nodup) (hS:∀ b,S b→b<w.heap.size) (hF:∀ b∈F,¬ S b∧b<w.heap.size) (hok:entOk xs=true)
  {T:Array Value} {pt pb:Nat} (hT:T.size=n) (hpb:T.getD pb undef=bp) (hpt:pt<n) (hne:pt≠pb) (hn:2≤n) (htm:(tmpsOf (entW xs)).all (fun t=>Nat.blt t 2)=true) {A0 A1:AV} (h0:(st0 xs).av 0=A0) (h1:(st0 xs).av 1=A1) :
  Sat ⟨w,S,n,fun b=>b∈F,fun _=>False,lentL xs [v0,bp],[]⟩ (app (st0 xs) (roundW pt pb A0 A1)) { tmps:=T.setIfInBounds pt v0,defers:=[] } w:=by
 have hlen:=ha.len
 obtain ⟨ρ,h⟩:=st0_sat w S ha hnd hF hS n (by simpa using hn) hok
 have hv0:=h.tms 0
 have hv1:=h.tms 1
 have e0:((#[v0,bp]++Array.replicate (n-2) undef:Array Value)).getD 0 undef=v0:=by simp [Array.getD_eq_getD_getElem?,Array.getElem?_append]
 have e1:((#[v0,bp]++Array.replicate (n-2) undef:Array Value)).getD 1 undef=bp:=by simp [Array.getD_eq_getD_getElem?,Array.getElem?_append]
 change RepA _ _ _ _ ((#[v0,bp]++Array.replicate (n-2) undef:Array Value).getD 0 undef) _ at hv0
 change RepA _ _ _ _ ((#[v0,bp]++Array.replicate (n-2) undef:Array Value).getD 1 undef) _ at hv1
 rw [e0] at hv0
 rw [e1] at hv1
 have hsame:SameObj (st0 xs) (app (st0 xs) (roundW pt pb A0 A1)):=same_tmps [(0,.im .any),(1,.im .any),(pt,A0),(pb,A1)] (st0 xs)
 refine ⟨ρ,h.slots hsame (fun t=>?_) (by simp [hT]) rfl⟩
 have hav:(app (st0 xs) (roundW pt pb A0 A1)).av t=if t=pb then A1 else if t=pt then A0 else .im .any:=by
  show (app (app (app (app (st0 xs) [(.tmp 0,.av (.im .any))]) [(.tmp 1,.av (.im .any))]) [(.tmp pt,.av A0)]) [(.tmp pb,.av A1)]).av t=_
  rw [av_put1,av_put1,av_put1,av_put1]
  by_cases e1:t=pb
  ·rw [if_pos e1,if_pos e1]
  ·rw [if_neg e1,if_neg e1]
   by_cases e2:t=pt
   ·rw [if_pos e2,if_pos e2]
   ·rw [if_neg e2,if_neg e2]
    by_cases e3:t=1
    ·rw [if_pos e3]
    ·rw [if_neg e3]
     by_cases e4:t=0
     ·rw [if_pos e4]
     ·rw [if_neg e4]
      show (app sig0 (entW xs)).av t=_
      rw [av_far fun hm=>by
       have:=List.all_eq_true.1 htm t hm
       have:t+1≤2:=Nat.le_of_ble_eq_true this
       omega]
      rfl
 rw [hav]
 by_cases e1:t=pb
 ·subst e1
  rw [if_pos rfl,← h1,show (T.setIfInBounds pt v0).getD t undef=bp by
   rw [← hpb]
   simp [Array.getD_eq_getD_getElem?,Array.getElem?_setIfInBounds_ne hne]]
  exact hv1
 ·rw [if_neg e1]
  by_cases e2:t=pt
  ·subst e2
   rw [if_pos rfl,← h0,show (T.setIfInBounds t v0).getD t undef=v0 by
    simp [Array.getD_eq_getD_getElem?,hT,hpt]]
   exact hv0
  ·rw [if_neg e2]
   exact .im _ _ (.any _)
theorem belo_put {G:Nat→Prop} {m:Nat} {w:World} {r:Nat} {o:Obj} (h:m≤r∨G r):Belo G m w (w.putObj r o) :=
 ⟨rfl,rfl,rfl,by simp,fun k hk hg=>World.putObj_heap_other fun e=>by
  subst e
  rcases h with h | h
  ·omega
  ·exact hg h⟩
theorem round_ok {P:Program} {n l:Nat} {L:Obj} {bp:Value} {fid:FuncId} {T:Array Value} {pt pb D id1 idb id2:Nat} {ops1 ops2:Array Oper} (hLd:L=.loop { state:=.ready,pending:=none,fn:=fid,tmps:=T,params:=#[pt],assign:=.region id1 ops1 false,body:=.block idb (.region id2 ops2 false),defers:=D })
  (hT:T.size=n) (hpb:T.getD pb undef=bp) (hpt:pt<n) (hne:pt≠pb) (hn:2≤n) {xs ys:List Arg} {own1 own2:List Nat} (hok:entOk xs=true) (htm:(tmpsOf (entW xs)).all (fun t=>Nat.blt t 2)=true) {A0 A1:AV} (h0:(st0 xs).av 0=A0) (h1:(st0 xs).av 1=A1)
  (nd1:noDefer ops1.toList=true) (nd2:noDefer ops2.toList=true)
  (h:OkAs xs→frcW (entW xs++roundW pt pb A0 A1) 0 sig0 fun _ σ=>aOps P (Sp P) n own1 ops1.toList ops1.toList [] σ fun _ σ1=>aOps P (Sp P) n own2 ops2.toList ops2.toList [] σ1 fun _ σ2=>RetOk P [] xs σ2 (.mk true [] ys)) :
  YSp P l L bp xs (.mk false [.im (.val (.bool true))] ys):=by
 intro w S v0 F hL hlF hlS hS ha hnd hF
 have h:=h (oks_of ha)
 rw [frcW_eq,app_append] at h
 have hlw:l<w.heap.size:=(Array.getElem?_eq_some_iff.1 hL).1
 have hlen:=ha.len
 have hs:=round_sat (n:=n) ha hnd hS hF hok hT hpb hpt hne hn htm h0 h1
 obtain ⟨B,hB⟩:∃ B:Base,B=⟨w,S,n,fun b=>b∈F,fun _=>False,lentL xs [v0,bp],[]⟩:=⟨_,rfl⟩
 rw [← hB] at hs
 have hBn:B.n=n:=by rw [hB]
 have hmine:∀ b,Mine B b↔w.heap.size≤b∨b∈F:=fun b=>by rw [hB];exact Iff.rfl
 have hmb:∀ b,Mine B b→b≠l:=fun b hb e=>by
  rw [hmine] at hb
  rw [e] at hb
  rcases hb with hb | hb
  ·omega
  ·exact hlF hb
 have hLr:=hL
 rw [hLd] at hLr
 refine ⟨fid,T.setIfInBounds pt v0,.region id1 ops1 false,.block idb (.region id2 ops2 false),by rw [run_yield hLr rfl];simp,roundIn_of_wpIn trivial ?_⟩
 rw [← hBn] at h
 refine region_in (ro:=some l) (n:=0) (B:=B) (C:=Sp P) (fun _ _ _ h=>h) nd1 h hs fun σ1 a1 w1 hk1 hs1=>?_
 obtain ⟨ρ1,hs1⟩:=hs1
 have hbel1:Belo (fun b=>b∈F) w.heap.size w w1:=by
  have:=hs1.bel
  rw [hB] at this
  exact this
 have hL1:w1.heap[l]?=some L:=by rw [hbel1.block l hlw hlF];exact hL
 have hl1:l<w1.heap.size:=(Array.getElem?_eq_some_iff.1 hL1).1
 rw [hLd] at hL1
 refine ⟨_,run_beginRound hL1 rfl,?_⟩
 obtain ⟨w2,hw2⟩:∃ w2,w2=w1.putObj l (.loop { state:=.busy,pending:=none,fn:=fid,tmps:=T,params:=#[pt],assign:=.region id1 ops1 false,body:=.block idb (.region id2 ops2 false),defers:=D }):=⟨_,rfl⟩
 rw [← hw2]
 have hsz2:w2.heap.size=w1.heap.size:=by rw [hw2];simp
 have hob2:∀ b,b≠l→w2.heap[b]?=w1.heap[b]?:=fun b hb=>by rw [hw2];exact World.putObj_heap_other hb
 have hL2:w2.heap[l]?=some (.loop { state:=.busy,pending:=none,fn:=fid,tmps:=T,params:=#[pt],assign:=.region id1 ops1 false,body:=.block idb (.region id2 ops2 false),defers:=D }):=by rw [hw2];exact World.putObj_heap_same hl1
 have himm1:∀ b,Imm B σ1 ρ1 w1 b→S b∨w.heap.size≤b∨b∈F:=fun b hb=>by
  have:=hb.1
  rw [hmine] at this
  rw [hB] at this
  exact this
 have himl:∀ b,Imm B σ1 ρ1 w1 b→b≠l:=fun b hb e=>by
  have:=himm1 b hb
  rw [e] at this
  rcases this with h | h | h
  ·exact hlS h
  ·omega
  ·exact hlF h
 have howl:∀ o b,Owns σ1 ρ1 o b→b≠l:=fun o b ho=>hmb b (hs1.own o b ho).1
 obtain ⟨B2,hB2⟩:∃ B2:Base,B2=⟨w2,Imm B σ1 ρ1 w1,n,fun b=>∃ o,Owns σ1 ρ1 o b,fun _=>False,B.L,[]⟩:=⟨_,rfl⟩
 have hs2:SatR B2 σ1 a1 w2 ρ1:=by
  refine hs1.move (B':=B2) (by omega) (fun b hb=>hob2 b ?_) ?_ (fun b hb=>?_) (fun o b ho=>?_) (fun b hz=>?_) (by rw [hB2]) (by rw [hB2,hBn]) rfl ?_
  ·rcases hb with hb | ⟨o,ho⟩
   ·exact himl b hb
   ·exact howl o b ho
  ·rw [hB2];exact Belo.refl _ _ _
  ·refine ⟨by rw [hB2];exact .inl hb,by rw [hsz2];exact hb.2.1,hb.2.2.1,by rw [hB2];exact fun h=>h⟩
  ·rw [hB2];exact .inr ⟨o,ho⟩
  ·rw [hB2] at hz;exact hz.elim
  ·rw [hB2,hs1.dfr,hB]
 have hB2n:B2.n=B.n:=by rw [hB2,hBn]
 rw [← hB2n] at hk1
 refine wpIn_block ?_
 refine region_in (ro:=some l) (n:=0) (B:=B2) (C:=Sp P) (fun _ _ _ h=>h) nd2 hk1 ⟨ρ1,hs2⟩ fun σ2 a3 w3 hk2 hs3=>?_
 obtain ⟨ρ3,hs3⟩:=hs3
 have hbel3:Belo (fun b=>∃ o,Owns σ1 ρ1 o b) w2.heap.size w2 w3:=by
  have:=hs3.bel
  rw [hB2] at this
  exact this
 have hL3:w3.heap[l]?=some (.loop { state:=.busy,pending:=none,fn:=fid,tmps:=T,params:=#[pt],assign:=.region id1 ops1 false,body:=.block idb (.region id2 ops2 false),defers:=D }):=by
  rw [hbel3.block l (by omega) fun ⟨o,ho⟩=>howl o l ho rfl]
  exact hL2
 have hl3:l<w3.heap.size:=(Array.getElem?_eq_some_iff.1 hL3).1
 refine ⟨_,_,run_endRound none hL3,?_⟩
 obtain ⟨w4,hw4⟩:∃ w4,w4=w3.putObj l L:=⟨_,rfl⟩
 have hw4':w3.putObj l (.loop { state:=if (none:Option Code).isNone then .ready else .done,pending:=none,fn:=fid,tmps:=T,params:=#[pt],assign:=.region id1 ops1 false,body:=.block idb (.region id2 ops2 false),defers:=D })=w4:=by
  rw [hw4,hLd]
  rfl
 rw [hw4']
 have hsz4:w4.heap.size=w3.heap.size:=by rw [hw4];simp
 have hob4:∀ b,b≠l→w4.heap[b]?=w3.heap[b]?:=fun b hb=>by rw [hw4];exact World.putObj_heap_other hb
 have hL4:w4.heap[l]?=some L:=by rw [hw4];exact World.putObj_heap_same hl3
 have hm2:∀ b,Mine B2 b→Mine B b:=fun b hb=>by
  rw [hB2] at hb
  rcases hb with hb | ⟨o,ho⟩
  ·rw [hmine]
   have:w2.heap.size≤b:=hb
   have:=hbel1.size
   omega
  ·exact (hs1.own o b ho).1
 have hi2:∀ b,Imm B2 σ2 ρ3 w3 b→B.S0 b∨Mine B b:=fun b hb=>by
  rcases hb.1 with h | h
  ·rw [hB2] at h
   exact h.1
  ·exact .inr (hm2 b h)
 have hbel4:Belo (fun b=>b∈F) w.heap.size w w4:=by
  refine ⟨?_,?_,?_,?_,fun k hk hg=>?_⟩
  ·rw [hw4];show w3.os=w.os;rw [hbel3.os,hw2];exact hbel1.os
  ·rw [hw4];show w3.tape=w.tape;rw [hbel3.tape,hw2];exact hbel1.tape
  ·rw [hw4];show w3.output=w.output;rw [hbel3.output,hw2];exact hbel1.output
  ·have:=hbel1.size
   have:=hbel3.size
   omega
  ·have:=hbel1.size
   by_cases e:k=l
   ·rw [e,hL4,hL]
   ·rw [hob4 k e,hbel3.block k (by omega) fun ⟨o,ho⟩=>?_,hob2 k e,hbel1.block k hk hg]
    have:=(hmine k).1 (hs1.own o k ho).1
    rcases this with h | h
    ·omega
    ·exact hg h
 have hs4:SatR B σ2 a3 w4 ρ3:=by
  refine hs3.move (B':=B) (by omega) (fun b hb=>hob4 b ?_) ?_ (fun b hb=>?_) (fun o b ho=>hm2 b (hs3.own o b ho).1) (fun b hz=>?_) (by rw [hB2]) hB2n.symm rfl ?_
  ·rcases hb with hb | ⟨o,ho⟩
   ·rcases hi2 b hb with h | h
    ·intro e
     rw [e,hB] at h
     exact hlS h
    ·exact hmb b h
   ·exact hmb b (hm2 b (hs3.own o b ho).1)
  ·rw [hB];exact hbel4
  ·refine ⟨hi2 b hb,by rw [hsz4];exact hb.2.1,hb.2.2.1,by rw [hB];exact fun h=>h⟩
  ·rw [hB] at hz;exact hz.elim
  ·rw [hs3.dfr,hB2,hB]
 obtain ⟨v,F',_,hres,g1,g2⟩:=results_ok (P:=P) (fn:={ (default:Func) with results:=#[] }) (vs0:=[v0,bp]) hk2 ⟨ρ3,hs4⟩ hlen fun j v hv=>by rw [hB];exact hv
 obtain ⟨us,F1,F2,_,hus,hys,hFF⟩:=hres
 refine ⟨.bool true,F',rfl,hbel4,?_,g1,fun b hb=>?_⟩
 ·have hF1:F1=[]:=by
   cases us with
   | nil=>exact hus
   | cons u us=>exact hus.elim
  have hset:(fun b=>(B.S0 b∨Mine B b)∧b<w4.heap.size∧b∉F')=fun b=>(S b∨w.heap.size≤b∨b∈F)∧b<w4.heap.size∧b∉F':=by rw [hB];rfl
  rw [hset] at hys
  exact ⟨[.bool true],[],F2,rfl,⟨[],[],⟨.val _,rfl⟩,rfl,rfl⟩,hys,by rw [hFF,hF1]⟩
 ·have:=g2 b hb
  rw [hmine] at this
  exact this
end Go.Proofs.Ytkfaepfljlphoaa.Sym

/-
 The plain reading of a range over a function.
-/
namespace Go.Proofs.Ytkfaepfljlphoaa.Sym
open Go.RowKit
abbrev recOf (fid:FuncId) (T:Array Value) (pt:Nat) (asg bd:Code) (D:Nat):Loop:={ state:=.ready,pending:=none,fn:=fid,tmps:=T,params:=#[pt],assign:=asg,body:=bd,defers:=D }
def RngSp (P:Program) (n:Nat) (gf:FuncId) (pt pb:Nat) (asg bd:Code) (xs:List Arg) (r:Rs):Prop :=
 (∀ args w,(callFunc gf args).run P w=.ok (.enter gf args) w) ∧
 ∀ (l:Nat) (fid:FuncId) (T:Array Value) (D:Nat) (w:World) (S:Nat→Prop) (vs:List Value) (bp:Value) (F:List Nat),T.size=n→T.getD pb undef=bp→w.heap[l]?=some (.loop (recOf fid T pt asg bd D))→l∉F→¬ S l →
  (∀ b,S b→b<w.heap.size)→ArgsOk w S (vs++[bp]) xs F→F.Nodup→(∀ b∈F,¬ S b∧b<w.heap.size) →
  Calls P gf (.func (.yield l) #[] #[]::vs).toArray w fun e w'=>∃ (v:Value) (F':List Nat),e=.returned v∧Belo (fun b=>b∈F) w.heap.size w w' ∧
   ResOk w' (fun b=>(S b∨w.heap.size≤b∨b∈F)∧b<w'.heap.size∧b∉F') v (bxVs (vs++[bp]) xs) r F'∧F'.Nodup∧∀ b∈F',(w.heap.size≤b∨b∈F)∧b<w'.heap.size
def aRange (P:Program) (n:Nat) (own:List Nat) (d pb:Nat) (c:Code) (K:Exit→St→Prop) (σ:St):Prop :=
 ∃ g pt asg bd gf caps,c=.rangeFunc g #[pt] asg bd∧evA σ g=.im (.fn gf caps)∧match argsG σ own d 0 (caps.map AV.im++[evA σ (.tmp pb)]) with
  | some (xs,bs,gs)=>Chk (ndB (gs.map (·.1)) (bs.map (·.1))) (SideG σ (bs++gs) (∃ r,RngSp P n gf pt pb asg bd xs r∧match r with
   | .mk tp ls ys=>match ocsPl σ (resNm tp d) 0 ls,bxPl σ (bxG own d 0 (caps.map AV.im++[evA σ (.tmp pb)])) ys with
    | (al,ss),some (bl,ss')=>match resV tp al with
     | some _=>Chk (ndB ((ss++ss').map (·.1)) (bl.map (·.1))) (frcW (fwr bs++(fwr gs++(insWr σ (ss++ss')++bxWr bl))) 0 σ fun _ σ'=>K .normal σ')
     | none=>False
    | _,none=>False))
  | none=>False
structure After (B B3:Base) (D:Nat):Prop where
 n:B3.n=B.n
 L:B3.L=B.L
 ds:B3.ds={ target:=.collected D,args:=#[] }::B.ds
 dblk:B3.w0.heap[D]?=some (.deferred (some []))
 dG:¬ B3.G D
 dS:¬ B3.S0 D
 dM:B.w0.heap.size≤D
 bel:Belo B.G B.w0.heap.size B.w0 B3.w0
 s:∀ b,B3.S0 b→B.S0 b∨Mine B b
 g:∀ b,B3.G b→Mine B b
 z:∀ b,¬ B3.Z b
inductive XR:Base→St→Act→World→Prop
 | here {B:Base} {σ:St} {a:Act} {w:World} (h:Sat B σ a w):XR B σ a w
 | step {B B3:Base} {D:Nat} {σ:St} {a:Act} {w:World} (hA:After B B3 D) (h:XR B3 σ a w):XR B σ a w
theorem XR.base {B:Base} {σ:St} {a:Act} {w:World} (h:XR B σ a w):∃ B',B'.n=B.n∧Sat B' σ a w∧∀ σ' a' w',Sat B' σ' a' w'→XR B σ' a' w':=by
 induction h with
 | here h=>exact ⟨_,rfl,h,fun _ _ _ h=>.here h⟩
 | step hA _ ih =>
  obtain ⟨B',h1,h2,h3⟩:=ih
  exact ⟨B',h1.trans hA.n,h2,fun _ _ _ h=>.step hA (h3 _ _ _ h)⟩
theorem XR.back (B:Base):Back B.n (XR B):=⟨fun _ _ _ h=>h.base⟩
theorem After.mine {B B3:Base} {D:Nat} (h:After B B3 D) {b:Nat} (hb:Mine B3 b):Mine B b:=by
 rcases hb with hb | hb
 ·have:=h.bel.size
  exact .inl (by omega)
 ·exact h.g b hb
theorem After.ne {B B3:Base} {D:Nat} (h:After B B3 D) {b:Nat} (hb:Mine B3 b):b≠D:=fun e=>by
 rw [e] at hb
 rcases hb with hb | hb
 ·have:=(Array.getElem?_eq_some_iff.1 h.dblk).1
  omega
 ·exact h.dG hb
theorem After.home {B B3:Base} {D:Nat} (h:After B B3 D) (hBZ:∀ b,¬ B.Z b) {σ:St} {a:Act} {w:World} (hs:Sat B3 σ a w):w.heap[D]?=some (.deferred (some []))∧Sat B σ { a with defers:=B.ds } (w.putObj D (.deferred none)):=by
 obtain ⟨ρ,hs⟩:=hs
 have hD:D<B3.w0.heap.size:=(Array.getElem?_eq_some_iff.1 h.dblk).1
 have hblk:w.heap[D]?=some (.deferred (some [])):=by rw [hs.bel.block D hD h.dG];exact h.dblk
 refine ⟨hblk,ρ,?_⟩
 have him:∀ b,Imm B3 σ ρ w b→(B.S0 b∨Mine B b)∧b≠D:=fun b hb=>by
  rcases hb.1 with h1 | h1
  ·exact ⟨h.s b h1,fun e=>h.dS (e ▸ h1)⟩
  ·exact ⟨.inr (h.mine h1),h.ne h1⟩
 refine hs.move (B':=B) (by simp) (fun b hb=>World.putObj_heap_other ?_) ?_ (fun b hb=>⟨(him b hb).1,by simpa using hb.2.1,hb.2.2.1,hBZ b⟩) (fun o b ho=>h.mine (hs.own o b ho).1) (fun b hz=>absurd hz (hBZ b)) h.L.symm h.n.symm rfl rfl
 ·rcases hb with hb | ⟨o,ho⟩
  ·exact (him b hb).2
  ·exact h.ne (hs.own o b ho).1
 ·refine (h.bel.trans ⟨hs.bel.os,hs.bel.tape,hs.bel.output,hs.bel.size,fun k hk hg=>hs.bel.block k (Nat.lt_of_lt_of_le hk h.bel.size) fun h3=>?_⟩).trans (belo_put (.inl h.dM))
  rcases h.g k h3 with h4 | h4
  ·omega
  ·exact hg h4
section
variable {P:Program} {B:Base}
theorem range_ok {own:List Nat} {d pb:Nat} {c:Code} {K:Exit→St→Prop} {σ:St} (hBZ:∀ b,¬ B.Z b) (h:aRange P B.n own d pb c K σ) {a:Act} {w:World} (hs:Sat B σ a w) {Q:Exit→Act→World→Prop}
  (hQ:∀ e σ' a' w',K e σ'→XR B σ' a' w'→Q e a' w'):c.wp P Q a w:=by
 obtain ⟨g,pt,asg,bd,gf,caps,rfl,hf,h⟩:=h
 obtain ⟨ρ,hs⟩:=hs
 split at h
 ·rename_i xs bs gs hxs
  obtain ⟨hnd,h⟩:=h.ok
  obtain ⟨hnd1,hnd2⟩:=ndB_spec hnd
  obtain ⟨hgk,r,⟨henter,hsp⟩,h⟩:=h.out
  cases r with
  | mk tp ls ys =>
  simp only at h
  split at h
  ·rename_i al ss bl ss' hpl hbl
   split at h
   ·rename_i va hva
    obtain ⟨hnm,h⟩:=h.ok
    rw [frcW_eq] at h
    obtain ⟨hnm1,hnm2⟩:=ndB_spec hnm
    have hal:al=(ocsPl σ (resNm tp d) 0 ls).1:=by rw [hpl]
    have hss:ss=(ocsPl σ (resNm tp d) 0 ls).2:=by rw [hpl]
    subst hal hss
    have hbxn:=((bxG_sub hxs).nodup hnd1)
    refine (wpIn_wide (n:=0)).1 (wpIn_rangeFunc fun fid _=>?_)
    obtain ⟨W1,hW1⟩:∃ W1,(w.alloc (.deferred (some []))).alloc (.loop (recOf fid a.tmps pt asg bd w.heap.size))=W1:=⟨_,rfl⟩
    have hsz1:W1.heap.size=w.heap.size+2:=by rw [← hW1];simp
    have hblk1:∀ b,b<w.heap.size→W1.heap[b]?=w.heap[b]?:=fun b hb=>by
     rw [← hW1,Below.heap_alloc _ _ _ (by simp;omega),Below.heap_alloc _ _ _ hb]
    have hL1:W1.heap[w.heap.size+1]?=some (.loop (recOf fid a.tmps pt asg bd w.heap.size)):=by
     rw [← hW1]
     have:=World.alloc_heap_new (w.alloc (.deferred (some []))) (.loop (recOf fid a.tmps pt asg bd w.heap.size))
     rwa [World.size_alloc] at this
    have hD1:W1.heap[w.heap.size]?=some (.deferred (some [])):=by
     rw [← hW1]
     exact (Below.heap_alloc _ _ _ (by simp)).trans (World.alloc_heap_new w _)
    have hbel1:Below w.heap.size w W1:=by
     rw [← hW1]
     exact ((Below.refl _ w).alloc (Nat.le_refl _) _).alloc (by simp) _
    have hw0:=hs.bel.size
    obtain ⟨B1,hB1⟩:∃ B1:Base,B1={ B with Z:=fun b=>b=w.heap.size∨b=w.heap.size+1 }:=⟨_,rfl⟩
    have hmine1:∀ b,Mine B1 b↔Mine B b:=fun b=>by rw [hB1];exact Iff.rfl
    have hs1:SatR B1 σ a W1 ρ:=by
     refine hs.move (B':=B1) (by omega) (fun b hb=>hblk1 b ?_) ?_ (fun b hb=>?_) (fun o b ho=>(hmine1 b).2 (hs.own o b ho).1) (fun b hz=>?_) (by rw [hB1]) (by rw [hB1]) rfl (by rw [hB1];exact hs.dfr)
     ·rcases hb with hb | ⟨o,ho⟩
      ·exact hb.2.1
      ·exact (hs.own o b ho).2
     ·rw [hB1]
      exact hs.bel.trans ⟨hbel1.os,hbel1.tape,hbel1.output,hbel1.size,fun k hk _=>hblk1 k (Nat.lt_of_lt_of_le hk hw0)⟩
     ·have hlt:=hb.2.1
      refine ⟨by rw [hB1];exact hb.1,by omega,hb.2.2.1,?_⟩
      rw [hB1]
      rintro (e | e)
      ·omega
      ·omega
     ·rw [hB1] at hz
      refine ⟨⟨(hmine1 b).2 (.inl ?_),?_⟩,fun o ho=>?_⟩
      ·rcases hz with e | e
       ·omega
       ·omega
      ·rcases hz with e | e
       ·omega
       ·omega
      ·have:=(hs.own o b ho).2
       rcases hz with e | e
       ·omega
       ·omega
    obtain ⟨us,hfv,hur⟩:∃ us:List Value,a.eval g=.func (.func gf) #[] us.toArray∧Reps W1 (Imm B1 σ ρ W1) ρ σ.gn us (caps.map AV.im):=by
     have h1:=evA_ok hs1 g
     rw [hf] at h1
     have h1:=h1.im_inv
     generalize a.eval g=v at h1
     cases h1 with
     | fn _ us _ hl hr =>
      refine ⟨us,rfl,by simpa using hl,fun i u y hu hy=>?_⟩
      simp only [List.getElem?_map] at hy
      cases hc:caps[i]? with
      | none=>rw [hc] at hy;cases hy
      | some c =>
       rw [hc] at hy
       simp only [Option.map_some,Option.some.injEq] at hy
       rw [← hy]
       exact .im _ _ (hr i u c hu hc)
    have hbp:Reps W1 (Imm B1 σ ρ W1) ρ σ.gn [a.eval (.tmp pb)] [evA σ (.tmp pb)]:=⟨rfl,fun i u y hu hy=>by
     match i with
     | 0 =>
      simp only [List.getElem?_cons_zero,Option.some.injEq] at hu hy
      rw [← hu,← hy]
      exact evA_ok hs1 _
     | i+1=>simp at hu⟩
    have hargs:=hur.app hbp
    have hrep:=argsG_ok hs1 (bs0:=bs) (fun p hp=>hgk p (List.mem_append_left _ hp)) hargs hxs (fun _ h=>h) fun p hp=>hgk p (List.mem_append_right _ hp)
    obtain ⟨hbv,_⟩:=bxG_ok hs1 hargs hxs fun p hp=>hgk p (List.mem_append_right _ hp)
    have hfl:∀ b∈footG σ ρ gs,b<w.heap.size:=fun b hb=>by
     obtain ⟨p,_,ho⟩:=footG_mem.1 hb
     exact (hs.own p.1 b ho).2
    have hlF:w.heap.size+1∉footG σ ρ gs:=fun hm=>by have:=hfl _ hm;omega
    have hDF:w.heap.size∉footG σ ρ gs:=fun hm=>by have:=hfl _ hm;omega
    have hcalls:=hsp (w.heap.size+1) fid a.tmps w.heap.size W1 (Imm B1 (app σ (fwr bs)) ρ W1) us (a.eval (.tmp pb)) _ hs.siz rfl hL1 hlF (fun hi=>hi.2.2.2 (by rw [hB1];exact .inr rfl)) (fun b hb=>hb.2.1) hrep (footG_nodup hs1 hnd1) fun b hb=>by
     obtain ⟨p,hp,ho⟩:=footG_mem.1 hb
     refine ⟨fun hi=>hi.2.2.1 p.1 ?_,(hs1.own p.1 b ho).2⟩
     unfold Owns at ho ⊢
     rw [fwr_kd,if_neg (hnd2 p.1 (List.mem_map.2 ⟨p,hp,rfl⟩))]
     exact ho
    refine ⟨w.heap.size+1,[{ target:=.collected w.heap.size,args:=#[] }],W1,{ target:=.fn (.func gf) us.toArray,args:=#[.func (.yield (w.heap.size+1)) #[] #[]] },W1,gf,(.func (.yield (w.heap.size+1)) #[] #[]::us).toArray,W1,?_,?_,fun _ _=>trivial,?_,fun e=>(by cases e),?_⟩
    ·rw [← hW1]
     exact run_enterLoop_outer _ _ _ _ _
    ·simp only [resolve,hfv]
     simp [go_sem]
    ·have e:#[Value.func (.yield (w.heap.size+1)) #[] #[]]++us.toArray=(Value.func (.yield (w.heap.size+1)) #[] #[]::us).toArray:=by
      apply Array.ext'
      simp
     rw [← e]
     simp only [invoke,henter]
    ·refine calls_wf (ro:=none) (hcalls.mono ?_)
     rintro e w' ⟨v,F',rfl,hbel,hres,hF1,hF2⟩
     have hl':w'.heap[w.heap.size+1]?=some (.loop (recOf fid a.tmps pt asg bd w.heap.size)):=by rw [hbel.block _ (by omega) hlF];exact hL1
     have hD':w'.heap[w.heap.size]?=some (.deferred (some [])):=by rw [hbel.block _ (by omega) hDF];exact hD1
     refine ⟨none,_,run_endLoop hl' (by simp),?_⟩
     obtain ⟨w4,hw4⟩:∃ w4,w4=w'.putObj (w.heap.size+1) (.loop { recOf fid a.tmps pt asg bd w.heap.size with state:=.exhausted }):=⟨_,rfl⟩
     rw [← hw4]
     have hsz4:w4.heap.size=w'.heap.size:=by rw [hw4];simp
     have hob4:∀ b,b≠w.heap.size+1→w4.heap[b]?=w'.heap[b]?:=fun b hb=>by rw [hw4];exact World.putObj_heap_other hb
     rw [hbv] at hres
     have hfk:=footG_kill (σ:=σ) (ρ:=ρ) (bs:=bs) (gs:=gs) fun p hp=>hnd2 p.1 (List.mem_map.2 ⟨p,hp,rfl⟩)
     rw [← hfk] at hbel hres hF2
     obtain ⟨ρ',g1,_,_⟩:=call_back (hs1.kills bs).1 gs hnd1 hbel (fun b hb=>hb) hres hF1 hF2 hbl rfl hbxn hva hnm1 hnm2 fun p hp=>by rw [fwr_gn,fwr_ig];exact ⟨rfl,rfl⟩
     rw [app_append,app_append,app_append] at h
     generalize (app (app (app (app σ (fwr bs)) (fwr gs)) (insWr σ ((ocsPl σ (resNm tp d) 0 ls).2++ss'))) (bxWr bl))=σ' at h g1
     have hz1:∀ b,b=w.heap.size∨b=w.heap.size+1→∀ o,¬ Owns σ' ρ' o b:=fun b hb=>(g1.res b (by rw [hB1];exact hb)).2
     have himz:∀ b,Imm B1 σ' ρ' w' b→b≠w.heap.size∧b≠w.heap.size+1:=fun b hb=>by
      have:=hb.2.2.2
      rw [hB1] at this
      exact ⟨fun e=>this (.inl e),fun e=>this (.inr e)⟩
     obtain ⟨B3,hB3⟩:∃ B3:Base,B3=⟨w4,Imm B1 σ' ρ' w',B.n,fun b=>∃ o,Owns σ' ρ' o b,fun _=>False,B.L,{ target:=.collected w.heap.size,args:=#[] }::B.ds⟩:=⟨_,rfl⟩
     have hbelB:Belo B.G B.w0.heap.size B.w0 w':=by
      have:=g1.bel
      rw [hB1] at this
      exact this
     have hA:After B B3 w.heap.size:=by
      rw [hB3]
      refine ⟨rfl,rfl,rfl,?_,fun ⟨o,ho⟩=>hz1 _ (.inl rfl) o ho,fun hi=>(himz _ hi).1 rfl,hw0,?_,fun b hb=>?_,fun b ⟨o,ho⟩=>(hmine1 b).1 (g1.own o b ho).1,fun _ h=>h⟩
      ·show w4.heap[w.heap.size]?=_
       rw [hob4 _ (by omega)]
       exact hD'
      ·show Belo B.G B.w0.heap.size B.w0 w4
       rw [hw4]
       exact hbelB.trans (belo_put (.inl (by omega)))
      ·have:=hb.1
       rw [hmine1] at this
       rw [hB1] at this
       exact this
     refine hQ .normal σ' _ w4 h (.step hA (.here ⟨ρ',?_⟩))
     refine g1.move (B':=B3) (by omega) (fun b hb=>hob4 b ?_) ?_ (fun b hb=>?_) (fun o b ho=>?_) (fun b hz=>?_) (by rw [hB3,hB1]) (by rw [hB3,hB1]) rfl ?_
     ·rcases hb with hb | ⟨o,ho⟩
      ·exact (himz b hb).2
      ·exact fun e=>hz1 b (.inr e) o ho
     ·rw [hB3];exact Belo.refl _ _ _
     ·refine ⟨by rw [hB3];exact .inl hb,by rw [hsz4];exact hb.2.1,hb.2.2.1,by rw [hB3];exact fun h=>h⟩
     ·rw [hB3];exact .inr ⟨o,ho⟩
     ·rw [hB3] at hz;exact hz.elim
     ·rw [hB3]
      show _++a.defers=_
      rw [hs.dfr]
      rfl
   ·exact h.elim
  ·exact h.elim
 ·exact h.elim
end
theorem range_okX {P:Program} {B:Base} {own:List Nat} {d pb:Nat} {c:Code} {K:Exit→St→Prop} {σ:St} {a:Act} {w:World} (hBZ:∀ b,¬ B.Z b) (hs:XR B σ a w):aRange P B.n own d pb c K σ→∀ {Q:Exit→Act→World→Prop},
  (∀ e σ' a' w',K e σ'→XR B σ' a' w'→Q e a' w')→c.wp P Q a w:=by
 induction hs with
 | here h=>exact fun h1 Q hQ=>range_ok hBZ h1 h hQ
 | step hA _ ih =>
  intro h1 Q hQ
  rw [← hA.n] at h1
  exact ih hA.z h1 fun e σ' a' w' hk hx=>hQ e σ' a' w' hk (.step hA hx)
theorem leaves_okX {P:Program} {B:Base} {σ:St} {a:Act} {w:World} {fn:Func} {R:Ending→World→Prop} (hBZ:∀ b,¬ B.Z b) (hs:XR B σ a w):(∀ w5 (a5:Act),a5.tmps=a.tmps→Sat B σ a5 w5→LeavesInM Fence.wide 0 P fn a.tmps R B.ds .returning w5)→LeavesInM Fence.wide 0 P fn a.tmps R a.defers .returning w:=by
 induction hs with
 | here h =>
  intro hk
  have hd:=h
  obtain ⟨ρ,hd⟩:=hd
  rw [hd.dfr]
  exact hk _ _ rfl h
 | step hA _ ih =>
  intro hk
  refine ih hA.z fun w5 a5 ha5 hs5=>?_
  obtain ⟨hblk,hs6⟩:=hA.home hBZ hs5
  rw [hA.ds]
  exact ⟨by simp,.inl ⟨_,_,rfl,run_takeDeferred hblk,hk _ _ (by exact ha5) hs6⟩⟩
theorem sp_ofR {P:Program} {f:FuncId} {fn:Func} {c:Code} {xs:List Arg} {r:Rs} (hm:P.follows .mixedOrders=true) (own:List Nat) {d pb hid:Nat} (hf:P.funcs[f]?=some fn) (hname:(fn.name=="runtime.NumGoroutine")=false) (hb:fn.body=some c)
  (hn:xs.length≤fn.ntmps) (hok:entOk xs=true) (h:OkAs xs→frcW (entW xs) 0 sig0 fun _ σ=>aCodeR P (Sp P) fn.ntmps own (aRange P fn.ntmps own d pb) hid c (retK P fn.results.toList xs r) σ):Sp P f xs r:=by
 refine ⟨fun args w=>run_enter hf hname hb args w,fun w S vs F hS hrep hnd hF=>?_⟩
 have h:=h (oks_of hrep)
 rw [frcW_eq] at h
 have hlen:=hrep.len
 obtain ⟨B,hB⟩:∃ B:Base,B=⟨w,S,fn.ntmps,fun b=>b∈F,fun _=>False,lentL xs vs,[]⟩:=⟨_,rfl⟩
 have hBn:B.n=fn.ntmps:=by rw [hB]
 have hBZ:∀ b,¬ B.Z b:=fun b=>by rw [hB];exact fun h=>h
 have hBd:B.ds=[]:=by rw [hB]
 have hs0:=st0_sat w S hrep hnd hF hS fn.ntmps (by rw [hlen];exact hn) hok
 rw [← hB] at hs0
 have back:=XR.back B
 rw [hBn] at back
 refine (callsIn_wide (n:=0)).1 (callsIn_of_wp_marks hf hb trivial ((wpIn_wide (n:=0)).2 (aCodeR_ok back (fun c' K σ hR a w1 hs Q hQ=>?_) hm (C:=Sp P) (fun _ _ _ h=>h) c _ _ h _ _ (.here hs0) _ fun e σ' a' w' hk hs'=>?_)) rfl)
 ·rw [← hBn] at hR
  exact range_okX hBZ hs hR hQ
 have home:∀ w5 (a5:Act),a5.tmps=a'.tmps→Sat B σ' a5 w5→RetOk P fn.results.toList xs σ' r→∃ v,(results fn a'.tmps).run P w5=.ok v w5∧∃ (v':Value) (F':List Nat),Ending.returned v=.returned v'∧Belo (fun b=>b∈F) w.heap.size w w5 ∧
   ResOk w5 (fun b=>(S b∨w.heap.size≤b∨b∈F)∧b<w5.heap.size∧b∉F') v' (bxVs vs xs) r F'∧F'.Nodup∧∀ b∈F',(w.heap.size≤b∨b∈F)∧b<w5.heap.size:=fun w5 a5 ha5 hs5 hk=>by
  subst hB
  obtain ⟨v,F',hv,hres,h1,h2⟩:=results_ok (vs0:=vs) hk hs5 hlen fun j v hv=>hv
  obtain ⟨ρ,hs5⟩:=hs5
  rw [ha5] at hv
  exact ⟨v,hv,v,F',rfl,hs5.bel,hres,h1,h2⟩
 have fin:RetOk P fn.results.toList xs σ' r→LeavesInM Fence.wide 0 P fn a'.tmps (fun e w'=>∃ (v:Value) (F':List Nat),e=.returned v∧Belo (fun b=>b∈F) w.heap.size w w' ∧
   ResOk w' (fun b=>(S b∨w.heap.size≤b∨b∈F)∧b<w'.heap.size∧b∉F') v (bxVs vs xs) r F'∧F'.Nodup∧∀ b∈F',(w.heap.size≤b∨b∈F)∧b<w'.heap.size) a'.defers .returning w':=fun hk=>by
  refine leaves_okX hBZ hs' fun w5 a5 ha5 hs5=>?_
  rw [hBd]
  obtain ⟨v,hv,h1⟩:=home w5 a5 ha5 hs5 hk
  exact ⟨v,hv,h1⟩
 cases e with
 | ret=>exact fin hk
 | normal=>exact fin hk
 | exit id=>exact hk.elim
 | goto l=>exact hk.elim
 | panic ch=>exact hk.elim
 | outgrown=>exact hk.elim
def isBoxArg (xs:List Arg) (i:Nat):Bool:=match xs[i]? with
 | some (.box _ _)=>true
 | _=>false
theorem lent_last {xs:List Arg} {vs:List Value} {y:Arg} {v bp:Value} {q:Nat} (h:isBoxArg xs (q-1)=true) (hq:vs.length+1=q):lentL (y::xs) (v::vs++[bp]) q=some bp:=by
 subst hq
 unfold isBoxArg at h
 rw [Nat.add_sub_cancel] at h
 have hv:(v::vs++[bp])[vs.length+1]?=some bp:=by simp
 unfold lentL
 rw [List.getElem?_cons_succ,hv]
 split at h
 ·rename_i e
  rw [e]
 ·cases h
theorem rng_of {P:Program} {f:FuncId} {fn:Func} {c:Code} {xs:List Arg} {r:Rs} (hm:P.follows .mixedOrders=true) (own:List Nat) (hf:P.funcs[f]?=some fn) (hname:(fn.name=="runtime.NumGoroutine")=false) (hb:fn.body=some c) {q:Nat} (hxs:xs.length=q)
  (hn:q+1≤fn.ntmps) (hok:∀ l,entOk (.im (.val (.func (.yield l) #[] #[]))::xs)=true) {Y:List Arg→Rs→Prop} {k hid d n pt pb:Nat} {asg bd:Code} {fo xo:Operand} (hdn:d<fn.ntmps) (hbox:isBoxArg xs (q-1)=true)
  (hY:∀ xs r,Y xs r→∀ (l:Nat) (fid:FuncId) (T:Array Value) (D:Nat) (bp:Value),T.size=n→T.getD pb undef=bp→YSp P l (.loop (recOf fid T pt asg bd D)) bp xs r)
  (h:∀ l,OkAs (.im (.val (.func (.yield l) #[] #[]))::xs)→frcW (entW (.im (.val (.func (.yield l) #[] #[]))::xs)++[(.tmp q,.av (.im .any))]) 0 sig0 fun _ σ=>aCodeR P (Sp P) fn.ntmps own (Ry P fn.ntmps own Y l q k fo xo d) hid c (retK P fn.results.toList (.im (.val (.func (.yield l) #[] #[]))::xs) r) σ):RngSp P n f pt pb asg bd xs r:=by
 refine ⟨fun args w=>run_enter hf hname hb args w,fun l fid T D w S vs bp F hT hpb hL hlF hlS hS ha hnd hF=>?_⟩
 have hlen:=ha.len
 have hq:vs.length+1=q:=by
  rw [← hxs,← hlen]
  simp
 have:=iter_of hm own hf hname hb (q:=q) (xs:=.im (.val (.func (.yield l) #[] #[]))::xs) (by simp [hxs]) (by simp [hxs];exact hn) (hok l) (Y:=Y) (l:=l) (k:=k) (hid:=hid) (fo:=fo) (xo:=xo) hdn (h l) (vs:=.func (.yield l) #[] #[]::vs) (bp:=bp) hS ⟨[],F,⟨.val _,rfl⟩,ha,rfl⟩ hnd hF hL hlF hlS (fun xs r hy=>hY xs r hy l fid T D bp hT hpb) (lent_last hbox hq)
 exact this
end Go.Proofs.Ytkfaepfljlphoaa.Sym

namespace Go.Proofs.Ytkfaepfljlphoaa.Sym
open Go.RowKit
set_option maxRecDepth 100000
set_option linter.unusedVariables false
set_option maxHeartbeats 4000000
structure T_api_Mealy where
 Inputs:Int
 Start:Int
 Next:List (List Int)
 Out:List (List Int)
 deriving DecidableEq
def c_api_Mealy (s:T_api_Mealy):List IV:=[nI s.Inputs,nI s.Start,nL (cL cI) s.Next,nL (cL cI) s.Out]
structure T_api_Latency where
 Step:List Int
 Reset:Int
 deriving DecidableEq
structure T_api_Faults where
 Lost:Int
 Wrong:Int
 Crash:Int
 deriving DecidableEq
structure T_api_Device where
 M:T_api_Mealy
 State:Int
 Ready:Bool
 Latency:T_api_Latency
 Faults:T_api_Faults
 Seed:Int
 Steps:Int
 Resets:Int
 Time:Int
 deriving DecidableEq
structure T_api_Trace where
 In:List Int
 Out:List Int
 deriving DecidableEq
structure T_api_Obs where
 Inputs:Int
 Traces:List T_api_Trace
 deriving DecidableEq
structure T_api_Oracle where
 Device:T_api_Device
 Obs:T_api_Obs
 Votes:Int
 Tries:Int
 Asked:Int
 Hits:Int
 deriving DecidableEq
structure T_api_Table where
 Inputs:Int
 Prefixes:List (List Int)
 Suffixes:List (List Int)
 deriving DecidableEq
structure T_api_Baseline where
 M:T_api_Mealy
 Words:List (List Int)
 deriving DecidableEq
structure T_api_Report where
 Run:Int
 Changes:List T_api_Trace
 deriving DecidableEq
structure T_api_Mapper where
 Inputs:Int
 Abstract:Int
 Start:Int
 Next:List (List Int)
 Sym:List (List Int)
 deriving DecidableEq
structure T_api_Clash where
 Word:List Int
 First:Int
 Second:Int
 deriving DecidableEq
structure T_api_Hyp where
 M:T_api_Mealy
 Access:List (List Int)
 deriving DecidableEq
structure T_api_Part where
 Inputs:Int
 Start:Int
 Next:List (List Int)
 Out:List (List Int)
 deriving DecidableEq
structure T_api_Lazy where
 Inputs:Int
 Short:List (List Int)
 Suffixes:List (List Int)
 deriving DecidableEq
structure T_api_Split where
 Prefix:List Int
 Symbol:Int
 Suffix:List Int
 deriving DecidableEq
structure T_learnerlaw28_Case where
 M:T_api_Mealy
 O:T_api_Obs
 L:T_api_Lazy
 S:T_api_Split
 deriving DecidableEq
structure T_learnerlaw35_Parts where
 P:T_api_Part
 W:List Int
 S:Int
 T:Int
 Out:Int
 deriving DecidableEq
structure T_mealy_machine where
 Mealy:T_api_Mealy
 deriving DecidableEq
def c_mealy_machine (s:T_mealy_machine):List IV:=[nI s.Mealy.Inputs,nI s.Mealy.Start,nL (cL cI) s.Mealy.Next,nL (cL cI) s.Mealy.Out]
structure T_mealy_runner where
 machine:T_mealy_machine
 at_:Int
 deriving DecidableEq
structure T_api_Mutation where
 Kind:Int
 State:Int
 Input:Int
 Value:Int
 Value2:Int
 deriving DecidableEq
structure T_regress_runner where
 m:T_api_Mealy
 report:T_api_Report
 deriving DecidableEq
structure T_table_view where
 rows:List (List (List Int))
 prefixes:List Int
 next:List (List Int)
 number:List (ByteArray×Int)
 deriving DecidableEq
structure T_refine_reached where
 m:T_api_Mealy
 states:List Int
 words:List (List Int)
 class_:List Int
 deriving DecidableEq
structure T_mapper_set where
 list:List Int
 word:List Int
 deriving DecidableEq
structure T_mapper_builder where
 m:T_api_Mealy
 p:T_api_Mapper
 sets:List T_mapper_set
 of:List (ByteArray×Int)
 deriving DecidableEq
structure T_evidence_candidate where
 score:Int
 blue:Int
 red:Int
 deriving DecidableEq
structure T_lazy_reader where
 l:T_api_Lazy
 o:T_api_Obs
 missing:List (List Int)
 long:Bool
 deriving DecidableEq
structure T_nondet_group where
 word:List Int
 before:List Int
 least:List Int
 deriving DecidableEq
structure T_device_unit where
 Device:T_api_Device
 deriving DecidableEq
structure T_equiv_pair where
 s:Int
 t:Int
 deriving DecidableEq
def c_equiv_pair (s:T_equiv_pair):List IV:=[nI s.s,nI s.t]
structure T_mapper_runner where
 Mapper:T_api_Mapper
 state:Int
 deriving DecidableEq
structure T_cover_place where
 state:Int
 word:List Int
 deriving DecidableEq
def c_cover_place (s:T_cover_place):List IV:=[nI s.state,nL cI s.word]
structure T_A2 where
 f0:Int
 f1:Int
 deriving DecidableEq
structure T_merge_blocks_int_ where
 up:List (Int×Int)
 deriving DecidableEq
structure T_equiv_place where
 at_:T_equiv_pair
 word:List Int
 deriving DecidableEq
def c_equiv_place (s:T_equiv_place):List IV:=[nI s.at_.s,nI s.at_.t,nL cI s.word]
structure T_A2_api_Mealy where
 f0:T_api_Mealy
 f1:T_api_Mealy
 deriving DecidableEq
structure T_learnerref09_Pair where
 S:Int
 T:Int
 Word:List Int
 deriving DecidableEq
structure T_api_DNode where
 Leaf:Bool
 Access:List Int
 Suffix:List Int
 Outs:List (List Int)
 Kids:List Int
 deriving DecidableEq
structure T_api_DTree where
 Nodes:List T_api_DNode
 deriving DecidableEq
structure T_api_TreeState where
 Inputs:Int
 Tree:T_api_DTree
 deriving DecidableEq
structure T_treelearn_learner where
 TreeState:T_api_TreeState
 o:T_api_Obs
 deriving DecidableEq
structure T_analyze_subject where
 h:T_api_Hyp
 o:T_api_Obs
 w:List Int
 states:List Int
 outs:List Int
 deriving DecidableEq
structure T_treelearn_extension where
 w:List Int
 node:Int
 deriving DecidableEq
end Go.Proofs.Ytkfaepfljlphoaa.Sym

/-
 Of a seat without tables: what the rows ask of the program as a whole.
-/
namespace Go.Proofs.Ytkfaepfljlphoaa
open Go.ChangeShapes Go.WideShapes Go.ChangeAt Go.RowKit
theorem Try.own:ownKnob Try.prog.godebug=none:=by kernel_rfl
theorem Try.laidOut:laidOutB Try.prog=true:=by kernel_rfl
end Go.Proofs.Ytkfaepfljlphoaa

/-
 What the arguments read as in plain words, with the bound of the second form. No walk.
-/
namespace Go.Proofs.Ytkfaepfljlphoaa.Sym
open Go.ChangeShapes Go.WideShapes Go.ChangeAt Go.RowKit Go.Deep
set_option maxRecDepth 100000
section
variable {H:Type} {enc:TypeId×Value→H} {W:World} {α β:Type}
theorem bulk_pos (d:DataW H):1≤Rows.uptoBulk d:=by
 cases d with
 | lit l=>cases l<;>simp [Rows.uptoBulk]
 | nil=>simp [Rows.uptoBulk]
 | ptr d=>simp [Rows.uptoBulk]
 | slice elems spare=>simp [Rows.uptoBulk]
 | agg parts=>simp [Rows.uptoBulk]
 | iface t d=>simp [Rows.uptoBulk]
 | map entries=>simp [Rows.uptoBulk]
 | held h=>simp [Rows.uptoBulk]
theorem bulk_mem {d:DataW H} {l:List (DataW H)} (h:d∈l):Rows.uptoBulk d≤Rows.uptoBulkAll l:=by
 induction l with
 | nil=>cases h
 | cons x r ih =>
  simp only [Rows.uptoBulkAll]
  rcases List.mem_cons.1 h with e | e
  ·subst e;omega
  ·have:=ih e;omega
theorem bulk_append (l r:List (DataW H)):Rows.uptoBulkAll (l++r)=Rows.uptoBulkAll l+Rows.uptoBulkAll r:=by
 induction l with
 | nil=>simp [Rows.uptoBulkAll]
 | cons x l ih=>simp only [List.cons_append,Rows.uptoBulkAll,ih];omega
theorem bulk_length (l:List (DataW H)):l.length≤Rows.uptoBulkAll l:=by
 induction l with
 | nil=>simp [Rows.uptoBulkAll]
 | cons x r ih=>have:=bulk_pos x;simp only [Rows.uptoBulkAll,List.length_cons];omega
theorem bulk_small {l:List (DataW H)} (hk:Rows.uptoSmall H l=true):Rows.uptoBulkAll l≤1048576:=by
 simpa [Rows.uptoSmall] using hk
def lowS (W:World):Nat→Prop:=fun b=>b<W.heap.size
def Opn (W:World) (enc:TypeId×Value→H) (t:TypeId) (c:α→List IV) (sz:α→Nat) (ok:α→Prop):Prop :=
 ∀ (fuel:Nat) (cs:List Value) (d:DataW H) (ps:List MemPlace),DataW.trod enc Try.prog W 0 (fun _=>true) true fuel t cs=some (d,ps)→Rows.uptoBulk d≤1048576 →
  ∃ x,RepIs W (lowS W) cs (c x)∧(∀ u∈cs,u.oneCell'=true)∧sz x≤Rows.uptoBulk d∧ok x
def sz1 {α:Type} (_:α):Nat:=1
def szL (sz:α→Nat) (l:List α):Nat:=(l.map sz).sum+1
def okL (ok:α→Prop) (l:List α):Prop:=∀ x∈l,ok x
def okT {α:Type} (_:α):Prop:=True
theorem opn_int:Opn W enc 3 cI sz1 inR:=by
 intro fuel cs d ps h hd
 cases fuel with
 | zero=>simp [DataW.trod] at h
 | succ f =>
  unfold DataW.trod at h
  rw [Try.underlying3] at h
  split at h<;>try (cases h;done)
  all_goals (try (rename_i e;cases e;done))
  rename_i k k' n e
  injection e with e
  injection e with e
  subst e
  split at h
  ·rename_i hw
   injection h with h
   injection h with h1 h2
   subst h1
   obtain ⟨rfl,hw⟩:=hw
   refine ⟨n,⟨rfl,fun i u x hu hx=>?_⟩,fun u hu=>?_,by simp [sz1,Rows.uptoBulk],?_⟩
   ·match i,hu,hx with
    | 0,hu,hx =>
     simp at hu hx
     subst hu hx
     exact .val _
   ·rcases List.mem_singleton.1 hu with rfl
    rfl
   ·simp [Lit.wf,IntKind.min,IntKind.max,IntKind.wrap,IntKind.bits,IntKind.signed] at hw
    unfold inR
    omega
  ·cases h
theorem opn_elems {t:TypeId} {c:α→List IV} {sz:α→Nat} {ok:α→Prop} {k b o:Nat} (hc:∀ x,(c x).length=k) (D:Nat→DataW H):∀ (n:Nat),
  (∀ i,i<n→∃ (x:α) (cs:List Value),(∀ j,j<k→W.cell? ⟨b,o+(i*k+j),none⟩=cs[j]?)∧RepIs W (lowS W) cs (c x)∧(∀ u∈cs,u.oneCell'=true)∧sz x≤Rows.uptoBulk (D i)∧ok x) →
  ∃ (xs:List α) (us:List Value),xs.length=n∧us.length=n*k∧(∀ (i:Nat) u,us[i]?=some u→W.cell? ⟨b,o+i,none⟩=some u)∧RepIs W (lowS W) us (xs.map c).flatten∧(∀ u∈us,u.oneCell'=true) ∧
   (xs.map sz).sum≤Rows.uptoBulkAll ((List.range n).map D)∧∀ x∈xs,ok x
 | 0,_=>⟨[],[],rfl,by simp,by simp,⟨rfl,by simp⟩,by simp,by simp,by simp⟩
 | n+1,h=>by
  obtain ⟨xs,us,h1,h2,h3,h4,h5,h6,h7⟩:=opn_elems (t:=t) hc D n fun i hi=>h i (by omega)
  obtain ⟨x,cs,g1,g2,g3,g4,g5⟩:=h n (by omega)
  have hcl:cs.length=k:=by rw [g2.1,hc]
  have hfl:(xs.map c).flatten.length=n*k:=by rw [← h4.1,h2]
  refine ⟨xs++[x],us++cs,by simp [h1],by rw [List.length_append,h2,hcl,Nat.add_mul];omega,fun i u hu=>?_,⟨?_,fun i u y hu hy=>?_⟩,fun u hu=>?_,?_,fun y hy=>?_⟩
  ·rw [List.getElem?_append] at hu
   split at hu
   ·exact h3 i u hu
   ·rename_i hlt
    have hj:=(List.getElem?_eq_some_iff.1 hu).1
    have:=g1 (i-us.length) (by omega)
    rw [hu,show o+(n*k+(i-us.length))=o+i by omega] at this
    exact this
  ·rw [List.map_append,List.flatten_append,List.length_append,List.length_append,h4.1]
   simp [g2.1]
  ·rw [List.map_append,List.flatten_append,List.getElem?_append] at hy
   rw [List.getElem?_append] at hu
   by_cases hlt:i<us.length
   ·rw [if_pos hlt] at hu
    rw [if_pos (by rw [hfl,← h2];exact hlt)] at hy
    exact h4.2 i u y hu hy
   ·rw [if_neg hlt] at hu
    rw [if_neg (by rw [hfl,← h2];exact hlt),hfl,← h2] at hy
    simp only [List.map_cons,List.map_nil,List.flatten_cons,List.flatten_nil,List.append_nil] at hy
    exact g2.2 _ u y hu hy
  ·rcases List.mem_append.1 hu with hu | hu
   ·exact h5 u hu
   ·exact g3 u hu
  ·rw [List.range_succ,List.map_append,List.map_append,List.sum_append,bulk_append]
   simp only [List.map_cons,List.map_nil,List.sum_cons,List.sum_nil,Rows.uptoBulkAll]
   omega
  ·rcases List.mem_append.1 hy with hy | hy
   ·exact h7 y hy
   ·rcases List.mem_singleton.1 hy with rfl
    exact g5
theorem opn_slice {t e:TypeId} {c:α→List IV} {sz:α→Nat} {ok:α→Prop} {k:Nat} (ht:Try.prog.underlying t=some (.slice e)) (hk:Try.prog.cellsOf e=k) (hk0:0<k) (hc:∀ x,(c x).length=k) (O:Opn W enc e c sz ok) :
  Opn W enc t (cL c) (szL sz) (okL ok):=by
 intro fuel cs d ps h hd
 rcases open_slice ht h with ⟨rfl,hx⟩ | ⟨a,len,cap,m,n,D,Pl,rfl,_,hl,_,hm,hx,hel⟩
 ·injection hx with hx1 hx2
  subst hx1
  refine ⟨[],⟨rfl,fun i u x hu hx=>?_⟩,fun u hu=>?_,by simp [szL,Rows.uptoBulk],fun x hx=>by cases hx⟩
  ·match i,hu,hx with
   | 0,hu,hx =>
    simp at hu hx
    subst hu hx
    exact .emp _ _
  ·rcases List.mem_singleton.1 hu with rfl
   rfl
 ·injection hx with hx1 hx2
  subst hx1
  simp only [if_true] at hm
  subst hm
  have hbulk:Rows.uptoBulkAll ((List.range len).map D)+1≤Rows.uptoBulk (.slice ((List.range len).map D) ((List.range (m-len)).map fun j=>D (len+j))):=by
   simp only [Rows.uptoBulk];omega
  have hlen:len≤1048576:=by
   have:=bulk_length ((List.range len).map D)
   simp at this
   omega
  by_cases h0:len=0
  ·subst h0
   refine ⟨[],⟨rfl,fun i u x hu hx=>?_⟩,fun u hu=>?_,by simp [szL,Rows.uptoBulk],fun x hx=>by cases hx⟩
   ·match i,hu,hx with
    | 0,hu,hx =>
     simp at hu hx
     subst hu hx
     exact .emp _ _
   ·rcases List.mem_singleton.1 hu with rfl
    rfl
  ·obtain ⟨ab,ao,asp⟩:=a
   rw [hk] at hel
   have hsp:asp=none:=by
    obtain ⟨cs',h1,_⟩:=hel 0 (by omega)
    obtain ⟨_,hl',hcell⟩:=World.cells?_some h1
    have h2:=hcell 0 hk0
    rw [List.getElem?_eq_getElem (by omega)] at h2
    unfold World.cell? Addr.add at h2
    simp only [Nat.zero_mul,if_true] at h2
    cases asp with
    | none=>rfl
    | some q =>
     simp at h2
     split at h2<;>simp at h2
   subst hsp
   obtain ⟨xs,us,h1,h2,h3,h4,h5,h6,h7⟩:=opn_elems (W:=W) (t:=e) (sz:=sz) (ok:=ok) (b:=ab) (o:=ao) hc D len fun i hi=>by
    obtain ⟨cs',e1,e2⟩:=hel i (by omega)
    obtain ⟨_,hl',hcell⟩:=World.cells?_some e1
    obtain ⟨x,r1,r2,r3,r4⟩:=O _ _ _ _ e2 (Nat.le_trans (bulk_mem (List.mem_map.2 ⟨i,List.mem_range.2 hi,rfl⟩)) (by omega))
    refine ⟨x,cs',fun j hj=>?_,r1,r2,r3,r4⟩
    have:=hcell j hj
    rw [addr_add,addr_add,Nat.add_assoc] at this
    exact this
   have hblk:ab<W.heap.size:=by
    have hu0:0<us.length:=by rw [h2];exact Nat.mul_pos (by omega) hk0
    exact World.block_lt_of_cell? W _ (h3 0 _ (List.getElem?_eq_getElem hu0))
   refine ⟨xs,⟨rfl,fun i u x hu hx=>?_⟩,fun u hu=>?_,?_,h7⟩
   ·match i,hu,hx with
    | 0,hu,hx =>
     simp at hu hx
     subst hu hx
     refine .sl ab ao m k len (xs.map c) us (by simp [h1]) (fun e he=>by obtain ⟨y,_,rfl⟩:=List.mem_map.1 he;exact hc y) hl (by omega) hblk h4.1 h5 h3 h4.2
   ·rcases List.mem_singleton.1 hu with rfl
    rfl
   ·show (xs.map sz).sum+1≤_
    omega
def OpnFs (W:World) (enc:TypeId×Value→H) (fs:List Field) (off len:Nat) (c:α→List IV) (sz:α→Nat) (ok:α→Prop):Prop :=
 ∀ (n:Nat) (cs:List Value) (xs:List (DataW H×List MemPlace)),xs.length=fs.length →
  (∀ (i:Nat) f,fs[i]?=some f→DataW.trod enc Try.prog W 0 (fun _=>true) true n f.type ((cs.drop f.offset).take (Try.prog.cellsOf f.type))=xs[i]?)→Rows.uptoBulkAll (xs.map (·.1))≤1048576 →
  ∃ x,RepIs W (lowS W) ((cs.drop off).take len) (c x)∧(∀ u∈(cs.drop off).take len,u.oneCell'=true)∧sz x≤Rows.uptoBulkAll (xs.map (·.1))∧ok x
theorem opnFs_nil {off:Nat}:OpnFs W enc [] off 0 (fun _:Unit=>[]) (fun _=>0) okT:=by
 intro n cs xs hx h hb
 exact ⟨(),⟨by simp,by simp⟩,by simp,Nat.zero_le _,trivial⟩
theorem opnFs_cons {f:Field} {fs:List Field} {off k len:Nat} {c1:α→List IV} {c2:β→List IV} {s1:α→Nat} {s2:β→Nat} {ok1:α→Prop} {ok2:β→Prop} (ho:f.offset=off) (hk:Try.prog.cellsOf f.type=k)
  (O:Opn W enc f.type c1 s1 ok1) (hc:∀ x,(c1 x).length=k) (R:OpnFs W enc fs (off+k) len c2 s2 ok2) :
  OpnFs W enc (f::fs) off (k+len) (fun p:α×β=>c1 p.1++c2 p.2) (fun p=>s1 p.1+s2 p.2) (fun p=>ok1 p.1∧ok2 p.2):=by
 intro n cs xs hx h hb
 match xs,hx with
 | x::xs,hx =>
  have e0:=h 0 f rfl
  rw [ho,hk] at e0
  simp only [List.map_cons,Rows.uptoBulkAll] at hb
  obtain ⟨a,r1,r2,r3,r4⟩:=O n _ x.1 x.2 e0 (by omega)
  obtain ⟨b,q1,q2,q3,q4⟩:=R n cs xs (by simpa using hx) (fun i g hg=>by
   have:=h (i+1) g (by simpa using hg)
   simpa using this) (by omega)
  have hsplit:(cs.drop off).take (k+len)=(cs.drop off).take k++(cs.drop (off+k)).take len:=by
   rw [List.take_add,List.drop_drop]
  have hl1:((cs.drop off).take k).length=(c1 a).length:=r1.1
  refine ⟨(a,b),?_,fun u hu=>?_,by simp only [List.map_cons,Rows.uptoBulkAll];omega,r4,q4⟩
  ·rw [hsplit]
   refine ⟨by rw [List.length_append,List.length_append,r1.1,q1.1],fun i u y hu hy=>?_⟩
   rw [List.getElem?_append,hl1] at hu
   rw [List.getElem?_append] at hy
   split at hu
   ·rename_i hlt
    rw [if_pos hlt] at hy
    exact r1.2 i u y hu hy
   ·rename_i hlt
    rw [if_neg hlt] at hy
    exact q1.2 _ u y hu hy
  ·rw [hsplit] at hu
   rcases List.mem_append.1 hu with hu | hu
   ·exact r2 u hu
   ·exact q2 u hu
theorem opn_struct {t:TypeId} {fs:Array Field} {len:Nat} {c:α→List IV} {sz:α→Nat} {ok:α→Prop} {c':β→List IV} {sz':β→Nat} {ok':β→Prop} (ht:Try.prog.underlying t=some (.struct fs)) (hl:Try.prog.cellsOf t=len)
  (R:OpnFs W enc fs.toList 0 len c sz ok) (conv:α→β) (hc:∀ p,c' (conv p)=c p) (hs:∀ p,sz' (conv p)=sz p+1) (ho:∀ p,ok p→ok' (conv p)):Opn W enc t c' sz' ok':=by
 intro fuel cs d ps h hd
 obtain ⟨xs,n,rfl,hx,hcl,hxl,hf⟩:=DataW.trod_struct ht h
 injection hx with hx1 hx2
 subst hx1
 simp only [Rows.uptoBulk] at hd
 obtain ⟨x,r1,r2,r3,r4⟩:=R n cs xs (by rw [hxl];simp) (fun i f hi=>hf i f (by simpa using hi)) (by omega)
 rw [hl] at hcl
 have e:(cs.drop 0).take len=cs:=by rw [List.drop_zero,← hcl,List.take_length]
 rw [e] at r1 r2
 refine ⟨conv x,by rw [hc];exact r1,r2,?_,ho x r4⟩
 rw [hs]
 simp only [Rows.uptoBulk]
 omega
theorem arg_struct {t:TypeId} {fs:Array Field} {v:Value} {d:DataW H} {p:List MemPlace} {base:Nat} {c:α→List IV} {sz:α→Nat} {ok:α→Prop} (ht:Try.prog.underlying t=some (.struct fs)) (hv:Value.okWide Try.prog W .any base t v)
  (h:DataW.Trod enc Try.prog W 0 (fun _=>true) true t v d p) (O:Opn W enc t c sz ok) (hb:Rows.uptoBulk d≤1048576):∃ x,RepI W (lowS W) v (.agg (c x))∧sz x≤Rows.uptoBulk d∧ok x:=by
 obtain ⟨cs,rfl,_⟩:=okWide_struct ht hv
 obtain ⟨fuel,hf⟩:=h
 obtain ⟨x,r1,r2,r3,r4⟩:=O fuel cs.toList d p (by simpa [Value.cells] using hf) hb
 refine ⟨x,?_,r3,r4⟩
 have:=RepI.agg (w:=W) (S:=lowS W) cs.toList (c x) r1.1 r2 r1.2
 simpa using this
def okY (n:Int):Prop:=0≤n∧n≤255
theorem arg_u8 {t:TypeId} (ht:Try.prog.underlying t=some (.int .u8)) {v:Value} {d:DataW H} {p:List MemPlace} {base:Nat} (hv:Value.okWide Try.prog W .any base t v) (h:DataW.Trod enc Try.prog W 0 (fun _=>true) true t v d p):∃ x,RepI W (lowS W) v (nY x)∧okY x:=by
 obtain ⟨z,rfl,rfl,rfl,wz⟩:=open_int ht hv h
 refine ⟨z,.val _,?_⟩
 simp [Lit.wf,IntKind.min,IntKind.max,IntKind.wrap,IntKind.bits,IntKind.signed] at wz
 unfold okY
 omega
theorem sp_law {f:FuncId} {W:World} {vs:List Value} {xs:List Arg} (h:Sp Try.prog f xs (.im (nB true))) (ha:ArgsOk W (lowS W) vs xs []) :
  Calls Try.prog f vs.toArray W fun e W'=>e=.returned (.bool true)∧Below W.heap.size W W':=by
 refine (h.2 W (lowS W) vs [] (fun b hb=>hb) ha List.nodup_nil (fun b hb=>by cases hb)).mono ?_
 rintro e W' ⟨v,F',rfl,hb,⟨us,F1,F2,e1,ho,_,_⟩,_,_⟩
 have e1:us=[v]:=e1
 subst e1
 refine ⟨?_,hb.below fun b hb=>by cases hb⟩
 obtain ⟨F3,F4,⟨hr,_⟩,_⟩:=ho
 cases hr
 rfl
end
end Go.Proofs.Ytkfaepfljlphoaa.Sym

namespace Go.Proofs.Ytkfaepfljlphoaa.Sym
open Go.RowKit
set_option maxRecDepth 100000
section
variable {H:Type} {enc:TypeId×Value→H} {W:World}
theorem opn_0:Opn W enc 26 (cL cI) (szL sz1) (okL inR):=opn_slice (k:=1) Try.underlying26 (by kernel_rfl) (by decide) (fun _=>rfl) opn_int
theorem opn_1:Opn W enc 22 (cL (cL cI)) (szL (szL sz1)) (okL (okL inR)):=opn_slice (k:=1) Try.underlying22 (by kernel_rfl) (by decide) (fun _=>rfl) opn_0
def sz_api_Mealy (x:T_api_Mealy):Nat:=(sz1 x.Inputs+(sz1 x.Start+((szL (szL sz1)) x.Next+((szL (szL sz1)) x.Out+0))))+1
def ok_api_Mealy (x:T_api_Mealy):Prop:=inR x.Inputs∧inR x.Start∧(okL (okL inR)) x.Next∧(okL (okL inR)) x.Out
theorem opn_api_Mealy:Opn W enc 24 c_api_Mealy sz_api_Mealy ok_api_Mealy :=
 opn_struct (len:=4) Try.underlying24 (by kernel_rfl) (opnFs_cons (k:=1) rfl (by kernel_rfl) opn_int (fun _=>rfl) (opnFs_cons (k:=1) rfl (by kernel_rfl) opn_int (fun _=>rfl) (opnFs_cons (k:=1) rfl (by kernel_rfl) opn_1 (fun _=>rfl) (opnFs_cons (k:=1) rfl (by kernel_rfl) opn_1 (fun _=>rfl) opnFs_nil)))) (fun p=>⟨p.1,p.2.1,p.2.2.1,p.2.2.2.1⟩) (fun _=>rfl) (fun _=>rfl) (fun p h=>⟨h.1,h.2.1,h.2.2.1,h.2.2.2.1⟩)
end
end Go.Proofs.Ytkfaepfljlphoaa.Sym

/-
 Plain functions on words (lists of integers) and lists of words, and their laws: no program in sight.
-/
namespace Go.Proofs.Ytkfaepfljlphoaa
def common:List Int→List Int→Nat
 | x::xs,y::ys=>if x=y then common xs ys+1 else 0
 | _,_=>0
theorem common_le:∀ xs ys:List Int,common xs ys≤xs.length∧common xs ys≤ys.length
 | [],_=>by simp [common]
 | _::_,[]=>by simp [common]
 | x::xs,y::ys=>by
  have h:=common_le xs ys
  simp only [common]
  split<;>simp<;>omega
theorem common_end {xs ys:List Int} {k:Nat} (h:xs.length≤k∨ys.length≤k):common (xs.drop k) (ys.drop k)=0:=by
 rcases h with h | h
 ·rw [List.drop_eq_nil_of_le h];simp [common]
 ·rw [List.drop_eq_nil_of_le h];cases xs.drop k<;>simp [common]
theorem common_self:∀ xs:List Int,common xs xs=xs.length
 | []=>rfl
 | x::xs=>by simp [common,common_self xs]
theorem prefix_iff:∀ w p:List Int,common w p=p.length↔p <+: w
 | [],[]=>by simp [common]
 | [],y::ys=>by simp [common]
 | x::xs,[]=>by simp [common]
 | x::xs,y::ys=>by
  simp only [common,List.length_cons,List.cons_prefix_cons]
  by_cases h:x=y
  ·subst h
   simp [prefix_iff xs ys]
  ·rw [if_neg h]
   constructor
   ·intro h';omega
   ·rintro ⟨rfl,_⟩;exact absurd rfl h
def lexI:List Int→List Int→Int
 | [],[]=>0
 | [],_::_=>-1
 | _::_,[]=>1
 | x::xs,y::ys=>if x<y then -1 else if y<x then 1 else lexI xs ys
def cmpW (a b:List Int):Int:=if a.length<b.length then -1 else if b.length<a.length then 1 else lexI a b
theorem lexI_range:∀ a b:List Int,lexI a b=-1∨lexI a b=0∨lexI a b=1
 | [],[]=>by simp [lexI]
 | [],_::_=>by simp [lexI]
 | _::_,[]=>by simp [lexI]
 | x::xs,y::ys=>by
  simp only [lexI]
  split
  ·simp
  ·split
   ·simp
   ·exact lexI_range xs ys
theorem lexI_zero:∀ a b:List Int,lexI a b=0↔a=b
 | [],[]=>by simp [lexI]
 | [],_::_=>by simp [lexI]
 | _::_,[]=>by simp [lexI]
 | x::xs,y::ys=>by
  simp only [lexI,List.cons.injEq]
  by_cases h1:x<y
  ·rw [if_pos h1];constructor
   ·intro h;omega
   ·rintro ⟨rfl,_⟩;omega
  ·rw [if_neg h1]
   by_cases h2:y<x
   ·rw [if_pos h2];constructor
    ·intro h;omega
    ·rintro ⟨rfl,_⟩;omega
   ·rw [if_neg h2,lexI_zero xs ys]
    constructor
    ·intro h;exact ⟨by omega,h⟩
    ·rintro ⟨_,h⟩;exact h
theorem lexI_refl (a:List Int):lexI a a=0:=(lexI_zero a a).2 rfl
theorem lexI_swap:∀ a b:List Int,lexI b a=- lexI a b
 | [],[]=>by simp [lexI]
 | [],_::_=>by simp [lexI]
 | _::_,[]=>by simp [lexI]
 | x::xs,y::ys=>by
  simp only [lexI]
  by_cases h1:x<y
  ·rw [if_neg (show ¬ y<x by omega),if_pos h1,if_pos h1];simp
  ·by_cases h2:y<x
   ·rw [if_pos h2,if_neg h1,if_pos h2]
   ·rw [if_neg h2,if_neg h1,if_neg h1,if_neg h2];exact lexI_swap xs ys
theorem lexI_trans:∀ a b c:List Int,lexI a b=-1→lexI b c=-1→lexI a c=-1
 | [],[],_,h,_=>by simp [lexI] at h
 | [],_::_,[],_,h=>by simp [lexI] at h
 | [],_::_,_::_,_,_=>by simp [lexI]
 | _::_,[],_,h,_=>by simp [lexI] at h
 | _::_,_::_,[],_,h=>by simp [lexI] at h
 | x::xs,y::ys,z::zs,h1,h2=>by
  simp only [lexI] at h1 h2 ⊢
  by_cases p:x<y
  ·by_cases q:y<z
   ·rw [if_pos (by omega)]
   ·rw [if_neg q] at h2
    by_cases r:z<y
    ·rw [if_pos r] at h2;omega
    ·rw [if_pos (by omega)]
  ·rw [if_neg p] at h1
   by_cases p':y<x
   ·rw [if_pos p'] at h1;omega
   ·rw [if_neg p'] at h1
    by_cases q:y<z
    ·rw [if_pos (by omega)]
    ·rw [if_neg q] at h2
     by_cases r:z<y
     ·rw [if_pos r] at h2;omega
     ·rw [if_neg r] at h2
      rw [if_neg (by omega),if_neg (by omega)]
      exact lexI_trans xs ys zs h1 h2
theorem cmpW_range (a b:List Int):cmpW a b=-1∨cmpW a b=0∨cmpW a b=1:=by
 unfold cmpW
 split
 ·simp
 ·split
  ·simp
  ·exact lexI_range a b
theorem cmpW_zero (a b:List Int):cmpW a b=0↔a=b:=by
 unfold cmpW
 by_cases h1:a.length<b.length
 ·rw [if_pos h1];constructor
  ·intro h;omega
  ·rintro rfl;omega
 ·rw [if_neg h1]
  by_cases h2:b.length<a.length
  ·rw [if_pos h2];constructor
   ·intro h;omega
   ·rintro rfl;omega
  ·rw [if_neg h2,lexI_zero]
theorem cmpW_refl (a:List Int):cmpW a a=0:=(cmpW_zero a a).2 rfl
theorem cmpW_swap (a b:List Int):cmpW b a=- cmpW a b:=by
 unfold cmpW
 by_cases h1:a.length<b.length
 ·rw [if_neg (by omega),if_pos h1,if_pos h1];simp
 ·by_cases h2:b.length<a.length
  ·rw [if_pos h2,if_neg h1,if_pos h2]
  ·rw [if_neg h2,if_neg h1,if_neg h1,if_neg h2];exact lexI_swap a b
theorem cmpW_trans (a b c:List Int) (h1:cmpW a b=-1) (h2:cmpW b c=-1):cmpW a c=-1:=by
 unfold cmpW at *
 by_cases p:a.length<b.length
 ·by_cases q:b.length<c.length
  ·rw [if_pos (by omega)]
  ·rw [if_neg q] at h2
   by_cases r:c.length<b.length
   ·rw [if_pos r] at h2;omega
   ·rw [if_pos (by omega)]
 ·rw [if_neg p] at h1
  by_cases p':b.length<a.length
  ·rw [if_pos p'] at h1;omega
  ·rw [if_neg p'] at h1
   by_cases q:b.length<c.length
   ·rw [if_pos (by omega)]
   ·rw [if_neg q] at h2
    by_cases r:c.length<b.length
    ·rw [if_pos r] at h2;omega
    ·rw [if_neg r] at h2
     rw [if_neg (by omega),if_neg (by omega)]
     exact lexI_trans a b c h1 h2
def Asc (l:List (List Int)):Prop:=l.Pairwise fun a b=>cmpW a b=-1
def placeL (l:List (List Int)) (w:List Int):Nat:=(l.takeWhile fun x=>cmpW x w==-1).length
def checkI (xs:List Int) (inputs:Int):Int :=
 if 1≤inputs∧inputs≤1024 then if 1024<xs.length then 3 else if xs.all fun a=>decide (0≤a∧a<inputs) then 0 else 1 else 2
theorem Asc.get {l:List (List Int)} (h:Asc l) {i j:Nat} {x y:List Int} (hij:i<j) (hx:l[i]?=some x) (hy:l[j]?=some y):cmpW x y=-1:=by
 have hj:j<l.length:=(List.getElem?_eq_some_iff.1 hy).1
 have h1:=List.pairwise_iff_getElem.1 h i j (by omega) hj hij
 rw [List.getElem?_eq_getElem (by omega)] at hx
 rw [List.getElem?_eq_getElem hj] at hy
 injection hx with hx
 injection hy with hy
 rw [← hx,← hy]
 exact h1
def insW (l:List (List Int)) (x:List Int):List (List Int):=if x∈l then l else l.take (placeL l x)++x::l.drop (placeL l x)
theorem placeL_spec:∀ (l:List (List Int)) (w:List Int),(∀ i x,i<placeL l w→l[i]?=some x→cmpW x w=-1)∧(∀ x,l[placeL l w]?=some x→cmpW x w≠-1)
 | [],w=>by simp [placeL]
 | y::l,w=>by
  have ih:=placeL_spec l w
  by_cases hy:cmpW y w=-1
  ·have e:placeL (y::l) w=placeL l w+1:=by simp [placeL,hy]
   rw [e]
   refine ⟨fun i x hi hx=>?_,fun x hx=>ih.2 x (by simpa using hx)⟩
   cases i with
   | zero=>simp at hx;rw [← hx];exact hy
   | succ i=>exact ih.1 i x (by omega) (by simpa using hx)
  ·have e:placeL (y::l) w=0:=by simp [placeL,hy]
   rw [e]
   refine ⟨fun i x hi=>absurd hi (by omega),fun x hx=>?_⟩
   simp at hx
   rw [← hx]
   exact hy
theorem mem_insW (l:List (List Int)) (x y:List Int):y∈insW l x↔y∈l∨y=x:=by
 unfold insW
 split
 ·rename_i h
  constructor
  ·exact Or.inl
  ·rintro (h' | rfl)
   ·exact h'
   ·exact h
 ·have e:y∈l↔y∈l.take (placeL l x)∨y∈l.drop (placeL l x):=by
   rw [← List.mem_append,List.take_append_drop]
  rw [List.mem_append,List.mem_cons,e]
  constructor
  ·rintro (h | h | h)
   ·exact Or.inl (Or.inl h)
   ·exact Or.inr h
   ·exact Or.inl (Or.inr h)
  ·rintro ((h | h) | h)
   ·exact Or.inl h
   ·exact Or.inr (Or.inr h)
   ·exact Or.inr (Or.inl h)
theorem Asc.insW {l:List (List Int)} (h:Asc l) (x:List Int):Asc (insW l x):=by
 unfold Go.Proofs.Ytkfaepfljlphoaa.insW
 split
 ·exact h
 ·rename_i hm
  have hs:=placeL_spec l x
  have hlo:∀ a∈l.take (placeL l x),cmpW a x=-1:=fun a ha=>by
   obtain ⟨i,hi⟩:=List.getElem?_of_mem ha
   rw [List.getElem?_take] at hi
   split at hi
   ·rename_i hlt;exact hs.1 i a hlt hi
   ·cases hi
  have hhi:∀ b∈l.drop (placeL l x),cmpW x b=-1:=fun b hb=>by
   obtain ⟨i,hi⟩:=List.getElem?_of_mem hb
   rw [List.getElem?_drop] at hi
   have hlen:placeL l x+i<l.length:=(List.getElem?_eq_some_iff.1 hi).1
   have hg:l[placeL l x]?=some l[placeL l x]:=List.getElem?_eq_getElem (by omega)
   have h0:=hs.2 _ hg
   have hne:cmpW l[placeL l x] x≠0:=fun e=>hm (by rw [← (cmpW_zero _ _).1 e];exact List.getElem_mem _)
   have hr:=cmpW_range l[placeL l x] x
   have h1:cmpW x l[placeL l x]=-1:=by rw [cmpW_swap];omega
   by_cases hi0:i=0
   ·subst hi0
    rw [Nat.add_zero,hg] at hi
    injection hi with hi
    rw [← hi];exact h1
   ·exact cmpW_trans _ _ _ h1 (h.get (by omega) hg hi)
  unfold Asc
  rw [List.pairwise_append,List.pairwise_cons]
  refine ⟨List.Pairwise.sublist (List.take_sublist _ _) h,⟨hhi,List.Pairwise.sublist (List.drop_sublist _ _) h⟩,fun a ha b hb=>?_⟩
  rcases List.mem_cons.1 hb with rfl | hb
  ·exact hlo a ha
  ·exact cmpW_trans _ _ _ (hlo a ha) (hhi b hb)
theorem insW_length (l:List (List Int)) (x:List Int):(insW l x).length≤l.length+1:=by
 unfold insW
 split
 ·omega
 ·simp;omega
theorem asc_nil:Asc []:=List.Pairwise.nil
theorem asc_ext:∀ {l m:List (List Int)},Asc l→Asc m→(∀ x,x∈l↔x∈m)→l=m
 | [],[],_,_,_=>rfl
 | [],y::m,_,_,h=>absurd ((h y).2 (by simp)) (by simp)
 | x::l,[],_,_,h=>absurd ((h x).1 (by simp)) (by simp)
 | x::l,y::m,hl,hm,h=>by
  have h1:=List.pairwise_cons.1 hl
  have h2:=List.pairwise_cons.1 hm
  have hxy:x=y:=by
   rcases List.mem_cons.1 ((h x).1 (by simp)) with e | hx
   ·exact e
   ·rcases List.mem_cons.1 ((h y).2 (by simp)) with e | hy
    ·exact e.symm
    ·have a:=h2.1 x hx
     have b:=h1.1 y hy
     rw [cmpW_swap] at a
     omega
  subst hxy
  have hirr:∀ {k:List (List Int)},(∀ b∈k,cmpW x b=-1)→x∉k:=fun hk hx=>by
   have:=hk x hx
   rw [cmpW_refl] at this
   omega
  rw [asc_ext h1.2 h2.2 fun z=>?_]
  have:=h z
  simp only [List.mem_cons] at this
  constructor
  ·intro hz
   rcases this.1 (Or.inr hz) with rfl | h'
   ·exact absurd hz (hirr h1.1)
   ·exact h'
  ·intro hz
   rcases this.2 (Or.inr hz) with rfl | h'
   ·exact absurd hz (hirr h2.1)
   ·exact h'
def sortW (l:List (List Int)):List (List Int):=l.foldl insW []
theorem foldl_insW:∀ (l a:List (List Int)),Asc a→Asc (l.foldl insW a)∧(∀ x,x∈l.foldl insW a↔x∈a∨x∈l)∧(l.foldl insW a).length≤a.length+l.length
 | [],a,h=>⟨h,fun x=>by simp,by simp⟩
 | y::l,a,h=>by
  obtain ⟨h1,h2,h3⟩:=foldl_insW l (insW a y) (h.insW y)
  refine ⟨h1,fun x=>?_,?_⟩
  ·rw [List.foldl_cons,h2,mem_insW,List.mem_cons,or_assoc]
  ·have:=insW_length a y
   rw [List.foldl_cons,List.length_cons]
   omega
theorem sortW_asc (l:List (List Int)):Asc (sortW l):=(foldl_insW l [] asc_nil).1
theorem mem_sortW (l:List (List Int)) (x:List Int):x∈sortW l↔x∈l:=by
 rw [sortW,(foldl_insW l [] asc_nil).2.1 x];simp
theorem sortW_length (l:List (List Int)):(sortW l).length≤l.length:=by
 have:=(foldl_insW l [] asc_nil).2.2
 simpa [sortW] using this
end Go.Proofs.Ytkfaepfljlphoaa

/-
 How slices of integers, of words and of lists of words read in a world, and what keeps them so. No function of the program in sight.
-/
namespace Go.Proofs.Ytkfaepfljlphoaa
open Go.RowKit
def Keeps (w w':World):Prop:=∀ p u,w.cell? p=some u→w'.cell? p=some u
theorem Keeps.refl (w:World):Keeps w w:=fun _ _ h=>h
theorem Keeps.trans {a b c:World} (h:Keeps a b) (k:Keeps b c):Keeps a c:=fun p u hu=>k p u (h p u hu)
theorem Keeps.of_below {w w':World} (h:Below w.heap.size w w'):Keeps w w':=fun p _ hu =>
 (h.cell (p:=p) (World.block_lt_of_cell? w p hu)).trans hu
theorem Keeps.drewN (w:World) (q:Nat):Keeps w (w.drewN q):=fun _ _ h=>h
def RowOf {α:Type} (w:World) (R:Value→α→Prop) (A:Option Addr) (n c:Nat) (l:List α):Prop :=
 l.length=n∧n≤c∧n≤17592186044416 ∧
  (0<n→∃ b o,A=some ⟨b,o,none⟩∧∀ i x,l[i]?=some x→∃ u,w.cell? ⟨b,o+i,none⟩=some u∧R u x)
def IsInt (u:Value) (x:Int):Prop:=u=.int .i64 x
def IsI (w:World) (v:Value) (xs:List Int):Prop:=∃ A n c,v=.slice A n c∧RowOf w IsInt A n c xs
def IsW (w:World) (v:Value) (l:List (List Int)):Prop:=∃ A n c,v=.slice A n c∧RowOf w (IsI w) A n c l
def IsL (w:World) (v:Value) (l:List (List (List Int))):Prop:=∃ A n c,v=.slice A n c∧RowOf w (IsW w) A n c l
section
variable {α:Type} {w w':World} {R R':Value→α→Prop} {A:Option Addr} {n c k:Nat} {l:List α}
theorem RowOf.len (h:RowOf w R A n c l):l.length=n:=h.1
theorem RowOf.cap (h:RowOf w R A n c l):n≤c:=h.2.1
theorem RowOf.small (h:RowOf w R A n c l):n≤17592186044416:=h.2.2.1
theorem RowOf.keep (h:RowOf w R A n c l) (hk:Keeps w w') (hR:∀ u x,R u x→R' u x):RowOf w' R' A n c l :=
 ⟨h.1,h.2.1,h.2.2.1,fun hn=>by
  obtain ⟨b,o,e,hc⟩:=h.2.2.2 hn
  refine ⟨b,o,e,fun i x hx=>?_⟩
  obtain ⟨u,hu,hr⟩:=hc i x hx
  exact ⟨u,hk _ _ hu,hR _ _ hr⟩⟩
theorem RowOf.at_ (h:RowOf w R A n c l) (hk:k<n):∃ b o u x,A=some ⟨b,o,none⟩∧l[k]?=some x∧w.cell? ⟨b,o+k,none⟩=some u∧R u x:=by
 obtain ⟨b,o,e,hc⟩:=h.2.2.2 (by omega)
 have hl:k<l.length:=by rw [h.1];exact hk
 obtain ⟨u,hu,hr⟩:=hc k l[k] (List.getElem?_eq_getElem hl)
 exact ⟨b,o,u,l[k],e,List.getElem?_eq_getElem hl,hu,hr⟩
theorem RowOf.take (h:RowOf w R A n c l) (hk:k≤n):RowOf w R A k c (l.take k):=by
 refine ⟨by rw [List.length_take,h.1];omega,Nat.le_trans hk h.2.1,Nat.le_trans hk h.2.2.1,fun h0=>?_⟩
 obtain ⟨b,o,e,hc⟩:=h.2.2.2 (by omega)
 refine ⟨b,o,e,fun i x hx=>hc i x ?_⟩
 rw [List.getElem?_take] at hx
 split at hx
 ·exact hx
 ·cases hx
end
theorem IsI.keep {w w':World} {v:Value} {xs:List Int} (h:IsI w v xs) (hk:Keeps w w'):IsI w' v xs:=by
 obtain ⟨A,n,c,e,hr⟩:=h
 exact ⟨A,n,c,e,hr.keep hk fun _ _ h=>h⟩
theorem IsW.keep {w w':World} {v:Value} {l:List (List Int)} (h:IsW w v l) (hk:Keeps w w'):IsW w' v l:=by
 obtain ⟨A,n,c,e,hr⟩:=h
 exact ⟨A,n,c,e,hr.keep hk fun _ _ h=>h.keep hk⟩
theorem IsL.keep {w w':World} {v:Value} {l:List (List (List Int))} (h:IsL w v l) (hk:Keeps w w'):IsL w' v l:=by
 obtain ⟨A,n,c,e,hr⟩:=h
 exact ⟨A,n,c,e,hr.keep hk fun _ _ h=>h.keep hk⟩
theorem IsI.below {w w':World} {v:Value} {xs:List Int} (h:IsI w v xs) (hb:Below w.heap.size w w'):IsI w' v xs:=h.keep (.of_below hb)
theorem IsW.below {w w':World} {v:Value} {l:List (List Int)} (h:IsW w v l) (hb:Below w.heap.size w w'):IsW w' v l:=h.keep (.of_below hb)
theorem IsL.below {w w':World} {v:Value} {l:List (List (List Int))} (h:IsL w v l) (hb:Below w.heap.size w w'):IsL w' v l:=h.keep (.of_below hb)
theorem RowOf.int_at {w:World} {A:Option Addr} {n c k:Nat} {xs:List Int} (h:RowOf w IsInt A n c xs) (hk:k<n) :
  ∃ b o x,A=some ⟨b,o,none⟩∧xs[k]?=some x∧w.cell? ⟨b,o+k,none⟩=some (.int .i64 x):=by
 obtain ⟨b,o,u,x,e,hx,hu,rfl⟩:=h.at_ hk
 exact ⟨b,o,x,e,hx,hu⟩
theorem drewN_two (w:World) (a b:Nat):∃ r,(w.drewN a).drewN b=w.drewN r:=⟨a+b,by rw [World.drewN_drewN]⟩
theorem ret_int {k:IntKind} {a b:Int} (h:a=b):Ending.returned (.int k a)=.returned (.int k b):=by rw [h]
def Qt (w w':World):Prop:=∃ q,w'=w.drewN q
theorem Qt.refl (w:World):Qt w w:=⟨0,rfl⟩
theorem Qt.drewN {w w':World} (h:Qt w w') (n:Nat):Qt w (w'.drewN n):=by
 obtain ⟨q,rfl⟩:=h
 exact drewN_two w q n
theorem Qt.keeps {w w':World} (h:Qt w w'):Keeps w w':=by
 obtain ⟨q,rfl⟩:=h
 exact Keeps.drewN w q
theorem Qt.trans {a b c:World} (h:Qt a b) (k:Qt b c):Qt a c:=by
 obtain ⟨q,rfl⟩:=k
 exact h.drewN q
theorem RowOf.kept {α:Type} {w w':World} {R:Value→α→Prop} {A:Option Addr} {n c:Nat} {l:List α} (h:RowOf w R A n c l) (hk:Keeps w w'):RowOf w' R A n c l:=h.keep hk fun _ _ h=>h
theorem RowOf.words {w w':World} {A:Option Addr} {n c:Nat} {l:List (List Int)} (h:RowOf w (IsI w) A n c l) (hk:Keeps w w'):RowOf w' (IsI w') A n c l:=h.keep hk fun _ _ h=>h.keep hk
theorem RowOf.lists {w w':World} {A:Option Addr} {n c:Nat} {l:List (List (List Int))} (h:RowOf w (IsW w) A n c l) (hk:Keeps w w'):RowOf w' (IsW w') A n c l:=h.keep hk fun _ _ h=>h.keep hk
theorem take_step {α:Type} {l:List α} {k:Nat} {x:α} (hl:l[k]?=some x):l.take (k+1)=l.take k++[x]:=by
 rw [List.take_add_one,hl];rfl
theorem getD_of_some {α:Type} {l:List α} {k:Nat} {x d:α} (h:l[k]?=some x):l.getD k d=x:=by simp [List.getD_eq_getElem?_getD,h]
end Go.Proofs.Ytkfaepfljlphoaa

/-
 Rows that the call itself made: words and lists of words that grow by append. No function of the program in sight.
-/
namespace Go.Proofs.Ytkfaepfljlphoaa
open Go.RowKit
theorem Try.infoInt:(Try.prog.info? 3).map (fun i=>(i.zero,i.size,i.bytes))=some (some (.int .i64 0),1,8):=by kernel_rfl
theorem addr_add (b o j:Nat):(⟨b,o,none⟩:Addr).add j=⟨b,o+j,none⟩:=by
 unfold Addr.add
 split
 ·rename_i h;subst h;rfl
 ·rfl
def Src (w:World) (A:Option Addr) (m:Nat) (news:List Value):Prop :=
 news.length=m∧(0<m→∃ b o,A=some ⟨b,o,none⟩∧∀ j u,news[j]?=some u→w.cell? ⟨b,o+j,none⟩=some u)
section
variable {P:Program} {w:World}
end
def Off (u:Value) (row:Option Nat):Prop:=∀ a n c,u=.slice (some a) n c→0<n→row≠some a.block
def OwnI (w:World) (base:Nat) (v:Value) (xs:List Int):Prop:=w.ownsRow base 3 1 v xs.length (xs.map (Value.int .i64))
def OwnW (w:World) (base:Nat) (v:Value) (l:List (List Int)):Prop :=
 ∃ us:List Value,us.length=l.length∧w.ownsRow base 26 1 v us.length us ∧
  ∀ (i:Nat) x,l[i]?=some x→∃ u,us[i]?=some u∧IsI w u x∧Off u v.ownBlock
theorem IsI.lt {w:World} {v:Value} {x:List Int} (h:IsI w v x):∀ a n c,v=.slice (some a) n c→0<n→a.block<w.heap.size:=by
 obtain ⟨A,n,c,rfl,hr⟩:=h
 rintro a n' c' e h0
 injection e with e1 e2 e3
 subst e1 e2
 obtain ⟨b,o,u,y,e,_,hu,_⟩:=hr.at_ h0
 injection e with e
 subst e
 exact World.block_lt_of_cell? w _ hu
theorem IsI.off_new {w:World} {v:Value} {x:List Int} (h:IsI w v x) {g:Nat} (hg:w.heap.size≤g):Off v (some g):=fun a n c e h0 hh=>by
 have:=h.lt a n c e h0
 injection hh with hh
 omega
theorem IsI.grown {w w':World} {v:Value} {x:List Int} {row:Option Nat} (h:IsI w v x) (hg:w.grownBy w' row) (ho:Off v row):IsI w' v x:=by
 obtain ⟨A,n,c,rfl,hr⟩:=h
 refine ⟨A,n,c,rfl,hr.1,hr.2.1,hr.2.2.1,fun hn=>?_⟩
 obtain ⟨b,o,rfl,hc⟩:=hr.2.2.2 hn
 refine ⟨b,o,rfl,fun i y hy=>?_⟩
 obtain ⟨u,hu,hr'⟩:=hc i y hy
 exact ⟨u,hg.cell hu (fun e=>ho _ _ _ rfl hn e.symm),hr'⟩
theorem grown_keeps {w w':World} (hg:w.grownBy w' none):Keeps w w':=fun _ _ hu=>hg.cell hu (by simp)
theorem grown_below {w w':World} {row:Option Nat} (hg:w.grownBy w' row) {B:Nat} (hB:B≤w.heap.size) (hr:∀ g,row=some g→B≤g):Below B w w':=(Below.refl B w).grown hg hB hr
theorem OwnI.lt {w:World} {base:Nat} {v:Value} {xs:List Int} (h:OwnI w base v xs):∀ k,v.ownBlock=some k→base≤k∧k<w.heap.size:=World.ownsRow.lt h
theorem OwnW.lt {w:World} {base:Nat} {v:Value} {l:List (List Int)} (h:OwnW w base v l):∀ k,v.ownBlock=some k→base≤k∧k<w.heap.size:=by
 obtain ⟨us,_,hown,_⟩:=h
 exact hown.lt
theorem OwnI.kept {w w':World} {base:Nat} {v:Value} {xs:List Int} {row:Option Nat} (h:OwnI w base v xs) (hg:w.grownBy w' row) (hne:v.ownBlock=none∨v.ownBlock≠row):OwnI w' base v xs :=
 World.ownsRow.kept h hg hne
theorem OwnW.kept {w w':World} {base:Nat} {v:Value} {l:List (List Int)} (h:OwnW w base v l) (hg:w.grownBy w' none):OwnW w' base v l:=by
 obtain ⟨us,hl,hown,hel⟩:=h
 refine ⟨us,hl,hown.kept hg (by cases v.ownBlock<;>simp),fun i x hx=>?_⟩
 obtain ⟨u,hu,hi,ho⟩:=hel i x hx
 exact ⟨u,hu,hi.keep (grown_keeps hg),ho⟩
theorem OwnW.alloc {w:World} {base:Nat} {v:Value} {l:List (List Int)} (h:OwnW w base v l) (o:Obj):OwnW (w.alloc o) base v l:=h.kept (World.grownBy_alloc w o none)
theorem OwnI.alloc {w:World} {base:Nat} {v:Value} {xs:List Int} (h:OwnI w base v xs) (o:Obj):OwnI (w.alloc o) base v xs:=World.ownsRow.alloc h o
theorem OwnW.push {w w1 w2:World} {base:Nat} {v v' u:Value} {l:List (List Int)} {x:List Int} {us:List Value} (hl:us.length=l.length)
  (hel:∀ (i:Nat) x,l[i]?=some x→∃ u,us[i]?=some u∧IsI w u x∧Off u v.ownBlock) (hx:IsI w u x) (hoff:Off u v.ownBlock) (h1:w.grownBy w1 none)
  (hown:w2.ownsRow base 26 1 v' (us.length+1) (us++[u])) (hg:w1.grownBy w2 v.ownBlock) (hb:v'.ownBlock=v.ownBlock∨v'.ownBlock=some w1.heap.size):OwnW w2 base v' (l++[x]):=by
 have key:∀ u x,IsI w u x→Off u v.ownBlock→IsI w2 u x∧Off u v'.ownBlock:=fun u x hi ho=>by
  refine ⟨(hi.keep (grown_keeps h1)).grown hg ho,?_⟩
  rcases hb with e | e
  ·rw [e];exact ho
  ·rw [e];exact hi.off_new h1.size
 refine ⟨us++[u],by simp [hl],by simpa using hown,fun i y hy=>?_⟩
 rw [List.getElem?_append] at hy
 split at hy
 ·rename_i hi
  obtain ⟨u',hu',h3,h4⟩:=hel i y hy
  exact ⟨u',by rw [List.getElem?_append,if_pos (by omega)];exact hu',key u' y h3 h4⟩
 ·rename_i hi
  have hi0:i-l.length=0:=by
   rcases Nat.eq_zero_or_pos (i-l.length) with h0 | h0
   ·exact h0
   ·rw [List.getElem?_eq_none (by simp;omega)] at hy;cases hy
  rw [hi0] at hy
  simp at hy
  subst hy
  exact ⟨u,by rw [List.getElem?_append,if_neg (by omega)];simp [hl,hi0],key u x hx hoff⟩
theorem RowOf.src {w:World} {A:Option Addr} {n c:Nat} {xs:List Int} (h:RowOf w IsInt A n c xs):Src w A n (xs.map (Value.int .i64)):=by
 refine ⟨by simp [h.len],fun h0=>?_⟩
 obtain ⟨b,o,e,hc⟩:=h.2.2.2 h0
 refine ⟨b,o,e,fun j u hu=>?_⟩
 rw [List.getElem?_map] at hu
 cases hx:xs[j]? with
 | none=>rw [hx] at hu;cases hu
 | some x =>
  rw [hx] at hu
  simp at hu
  obtain ⟨u',hu',rfl⟩:=hc j x hx
  rw [← hu]
  exact hu'
end Go.Proofs.Ytkfaepfljlphoaa

/-
 The contract of slices.Clone.
-/
namespace Go.Proofs.Ytkfaepfljlphoaa.Sym
open Go.RowKit
section
variable {P:Program} {w:World}
theorem wpList_append_k {ops:Array Oper} {rest:List Oper} {o:Oper} {a:Act} {Q:Exit→Act→World→Prop} (hgd:o.guard=none) (s x:Operand) (t:TypeId)
  (ho:o.op=.call { callee:=.builtin .append,args:=#[s,x],argTypes:=#[t,t] })
  (base:Nat) (e:TypeId) (i:TypeInfo) (z:Value) (size bytes:Nat) (ht:P.underlying t=some (.slice e)) (hi:P.info? e=some i) (hz:i.zero=some z)
  (hsize:i.size=size) (hby:i.bytes=bytes) (hzs:z.cells.size=size) (hsz:0<size) (v:Value) (n:Nat) (xs:List Value) (hs:a.eval s=v) (hown:w.ownsRow base e size v n xs)
  (A:Option Addr) (m c:Nat) (news:List Value) (hx:a.eval x=.slice A m c) (hl:news.length=m*size) (hsrc:0<m→∃ b q,A=some ⟨b,q,none⟩∧∀ (j:Nat) u,news[j]?=some u→w.cell? ⟨b,q+j,none⟩=some u) (h1:∀ u∈news,u.oneCell'=true)
  (h63:n+m≤maxLen) (hbytes:(n+m)*bytes≤140737488355328) (hbase:base≤w.heap.size)
  (h:∀ v' w',w'.ownsRow base e size v' (n+m) (xs++news)→w.grownBy w' v.ownBlock→(v'.ownBlock=v.ownBlock∨v'.ownBlock=some w.heap.size)→wpList P ops Q rest (a.put o.dst v') w') :
  wpList P ops Q (o::rest) a w:=by
 refine wpList_plain hgd fun _ hK=>?_
 obtain ⟨v',w',hrun,h2,h3,h4⟩:=run_append_k (P:=P) base t o.type e i z size bytes ht hi hz hsize hby hzs hsz v n xs hown A m c news hl hsrc h1 h63 hbytes hbase
 unfold Oper.wp execOp
 simp only [ho,resolve,invoke,builtin,Sem.run_bind,Sem.run_pure,Result.andThen_ok,List.map_toArray,List.map_cons,List.map_nil,hs,hx,hrun]
 exact hK _ _ (h v' w' h2 h3 h4)
end
theorem grown_step {a b c:World} {row row':Option Nat} (h:a.grownBy b row) (k:b.grownBy c row') (hr:row'=row∨∀ g,row'=some g→a.heap.size≤g):a.grownBy c row :=
 ⟨k.os.trans h.os,k.tape.trans h.tape,k.output.trans h.output,Nat.le_trans h.size k.size,fun i hi hne =>
  (k.block i (Nat.lt_of_lt_of_le hi h.size) (by
   rcases hr with e | e
   ·rw [e];exact hne
   ·intro he
    have:=e i he.symm
    omega)).trans (h.block i hi hne)⟩
def ClonePost (t:TypeId) (k n:Nat) (us:List Value) (w:World) (e:Ending) (w':World):Prop :=
 ∃ v',e=.returned v'∧w'.ownsRow w.heap.size t k v' n us∧Below w.heap.size w w'
theorem ownsRow_none (w:World) (t:TypeId) (k:Nat):(w.alloc (.cells #[] t)).ownsRow w.heap.size t k (.slice (some ⟨w.heap.size,0,none⟩) 0 0) 0 []:=by
 refine ⟨by simp,.inr ⟨w.heap.size,0,#[],rfl,Nat.le_refl _,?_,Nat.zero_le _,by unfold maxLen;omega,by simp,by simp⟩⟩
 exact heap_alloc_new w _
theorem sp_of_clone {g:FuncId} {t:TypeId} {k by_:Nat} (he:∀ args w,(callFunc g args).run Try.prog w=.ok (.enter g args) w) (hk0:0<k)
  (h:∀ (w:World) (A:Option Addr) (n c:Nat) (us:List Value),us.length=n*k→(0<n→∃ b q,A=some ⟨b,q,none⟩∧∀ (j:Nat) u,us[j]?=some u→w.cell? ⟨b,q+j,none⟩=some u) →
   (∀ u∈us,u.oneCell'=true)→n≤17592186044416→n*by_≤140737488355328→Calls Try.prog g #[.slice A n c] w (ClonePost t k n us w))
  {es:List (List IV)} (hk:∀ e∈es,e.length=k) (hc:capOk es.length by_):Sp Try.prog g [.im (.sl es)] (.row t k es):=by
 refine ⟨he,fun w S vs F hS hv hn hF=>?_⟩
 match vs,hv with
 | [v],⟨F1,F2,⟨h3,e1⟩,h5,e3⟩ =>
  have h5:F2=[]:=h5
  subst e1 h5 e3
  obtain ⟨A,c,us,rfl,hl,h1,hlim,hcell,hr⟩:=sl_src h3 hk
  have hlk:us.length=es.length*k:=by rw [hl,flat_length hk]
  refine (h w A es.length c us hlk hcell h1 hlim hc.1).mono ?_
  rintro e w' ⟨v',rfl,ho,hb⟩
  have ho0:w'.ownsRow 0 t k v' es.length us:=by
   refine ⟨ho.1,?_⟩
   rcases ho.2 with h6 | ⟨g1,cap,cur,k1,_,k3⟩
   ·exact .inl h6
   ·exact .inr ⟨g1,cap,cur,k1,Nat.zero_le _,k3⟩
  have hlt:=ho.lt
  have hbk:∀ b∈(blkOf v').toList,w.heap.size≤b∧b<w'.heap.size:=fun b hb=>by
   refine hlt b ?_
   rw [row_blk ho0]
   simpa using hb
  refine ⟨v',(blkOf v').toList,rfl,.of hb,⟨[v'],(blkOf v').toList,[],rfl,⟨(blkOf v').toList,[],⟨row_one ho0,[],⟨us,hk0,hk,hlim,ho0,hl,h1,fun i u x hu hx=>?_⟩,rfl⟩,rfl,by simp⟩,rfl,by simp⟩,?_,fun b hb=>⟨.inl (hbk b hb).1,(hbk b hb).2⟩⟩
  ·have k1:∀ b,S b→(S b∨w.heap.size≤b∨b∈[])∧b<w'.heap.size∧b∉(blkOf v').toList:=fun b hb'=>⟨.inl hb',Nat.lt_of_lt_of_le (hS b hb') hb.size,fun hm=>by
    have h1:=(hbk b hm).1
    have h2:=hS b hb'
    omega⟩
   have k2:∀ (p:Addr) u,S p.block→w.cell? p=some u→w'.cell? p=some u:=fun p u hp hu=>by
    have h6:=hb.block p.block (hS _ hp)
    have h7:w'.cell? p=w.cell? p:=by
     unfold World.cell?
     rw [h6]
    rw [h7]
    exact hu
   exact (hr i u x hu hx).mono k1 k2
  ·cases blkOf v'<;>simp
end Go.Proofs.Ytkfaepfljlphoaa.Sym

/-
 Walks of slices.Clone.
-/
namespace Go.Proofs.Ytkfaepfljlphoaa.Sym
open Go.RowKit
theorem Try.infoC_int:(Try.prog.info? 3).map (fun i=>(i.zero,i.size,i.bytes))=some (some (.int .i64 0),1,8):=by kernel_rfl
set_option maxRecDepth 100000 in
set_option maxHeartbeats 400000 in
theorem clone_int (w:World) (A:Option Addr) (n c:Nat) (us:List Value) (hl:us.length=n*1) (hs:0<n→∃ b q,A=some ⟨b,q,none⟩∧∀ (j:Nat) u,us[j]?=some u→w.cell? ⟨b,q+j,none⟩=some u)
  (h1:∀ u∈us,u.oneCell'=true) (hn:n≤17592186044416) (hby:n*8≤140737488355328):Calls Try.prog 74 #[.slice A n c] w (ClonePost 3 1 n us w):=by
 obtain ⟨j0,ji,jz0,jz1,jz2⟩:=info_parts Try.infoC_int
 have hnil:=Lib.run_eql_slice_nil (P:=Try.prog) w 26 3 A n c 0 0 Try.underlying26
 cases A with
 | none =>
  have h0:n=0:=by
   rcases Nat.eq_zero_or_pos n with h | h
   ·exact h
   ·obtain ⟨b,q,e,_⟩:=hs h;cases e
  subst h0
  have hxs:us=[]:=List.eq_nil_of_length_eq_zero (by omega)
  have HX:=Lib.hid hxs
  clear hxs hs hl h1
  go_enter Try.func74,Try.ntmps74
  go_wp2
  go_ret
  rw [HX.out]
  exact ⟨_,rfl,World.ownsRow_nil _ _ _ _,Below.refl _ _⟩
 | some a =>
  have hsrc:∀ o,0<n→∃ b q,some a=some ⟨b,q,none⟩∧∀ (j:Nat) u,us[j]?=some u→(w.alloc o).cell? ⟨b,q+j,none⟩=some u:=fun o h=>by
   obtain ⟨b,q,e,hc⟩:=hs h
   exact ⟨b,q,e,fun j u hu=>grown_keeps (World.grownBy_alloc w o none) _ _ (hc j u hu)⟩
  have hc6:0+n≤maxLen:=by unfold maxLen;omega
  have hc7:(0+n)*8≤140737488355328:=by omega
  have hc8:∀ o,w.heap.size≤(w.alloc o).heap.size:=fun o=>by simp
  have HXL:=Lib.hid hl
  clear hs
  go_enter Try.func74,Try.ntmps74
  go_wp2_with (at_builtin;refine wpList_append_k rfl (.tmp 5) (.tmp 6) 26 rfl w.heap.size 3 j0 (.int .i64 0) 1 8 Try.underlying26 ji jz0 jz1 jz2 rfl (by decide) (.slice (some ⟨w.heap.size,0,none⟩) 0 0) 0 _ rfl (ownsRow_none _ _ _) _ _ _ _ rfl HXL.out (hsrc _) h1 hc6 hc7 (hc8 _) ?_;intro v1 w1 hown1 hg1 hb1)
  go_ret
  have hgr:w.grownBy w1 none:=grown_step (World.grownBy_alloc w _ none) hg1 (.inr fun g e=>by
   have:some w.heap.size=some g:=e
   injection this with this
   omega)
  exact ⟨v1,rfl,by simpa using hown1,grown_below hgr (Nat.le_refl _) (fun g e=>by cases e)⟩
theorem Try.infoC_words:(Try.prog.info? 26).map (fun i=>(i.zero,i.size,i.bytes))=some (some (.slice none 0 0),1,24):=by kernel_rfl
set_option maxRecDepth 100000 in
set_option maxHeartbeats 400000 in
theorem clone_words (w:World) (A:Option Addr) (n c:Nat) (us:List Value) (hl:us.length=n*1) (hs:0<n→∃ b q,A=some ⟨b,q,none⟩∧∀ (j:Nat) u,us[j]?=some u→w.cell? ⟨b,q+j,none⟩=some u)
  (h1:∀ u∈us,u.oneCell'=true) (hn:n≤17592186044416) (hby:n*24≤140737488355328):Calls Try.prog 79 #[.slice A n c] w (ClonePost 26 1 n us w):=by
 obtain ⟨j0,ji,jz0,jz1,jz2⟩:=info_parts Try.infoC_words
 have hnil:=Lib.run_eql_slice_nil (P:=Try.prog) w 22 26 A n c 0 0 Try.underlying22
 cases A with
 | none =>
  have h0:n=0:=by
   rcases Nat.eq_zero_or_pos n with h | h
   ·exact h
   ·obtain ⟨b,q,e,_⟩:=hs h;cases e
  subst h0
  have hxs:us=[]:=List.eq_nil_of_length_eq_zero (by omega)
  have HX:=Lib.hid hxs
  clear hxs hs hl h1
  go_enter Try.func79,Try.ntmps79
  go_wp2
  go_ret
  rw [HX.out]
  exact ⟨_,rfl,World.ownsRow_nil _ _ _ _,Below.refl _ _⟩
 | some a =>
  have hsrc:∀ o,0<n→∃ b q,some a=some ⟨b,q,none⟩∧∀ (j:Nat) u,us[j]?=some u→(w.alloc o).cell? ⟨b,q+j,none⟩=some u:=fun o h=>by
   obtain ⟨b,q,e,hc⟩:=hs h
   exact ⟨b,q,e,fun j u hu=>grown_keeps (World.grownBy_alloc w o none) _ _ (hc j u hu)⟩
  have hc6:0+n≤maxLen:=by unfold maxLen;omega
  have hc7:(0+n)*24≤140737488355328:=by omega
  have hc8:∀ o,w.heap.size≤(w.alloc o).heap.size:=fun o=>by simp
  have HXL:=Lib.hid hl
  clear hs
  go_enter Try.func79,Try.ntmps79
  go_wp2_with (at_builtin;refine wpList_append_k rfl (.tmp 5) (.tmp 6) 22 rfl w.heap.size 26 j0 (.slice none 0 0) 1 24 Try.underlying22 ji jz0 jz1 jz2 rfl (by decide) (.slice (some ⟨w.heap.size,0,none⟩) 0 0) 0 _ rfl (ownsRow_none _ _ _) _ _ _ _ rfl HXL.out (hsrc _) h1 hc6 hc7 (hc8 _) ?_;intro v1 w1 hown1 hg1 hb1)
  go_ret
  have hgr:w.grownBy w1 none:=grown_step (World.grownBy_alloc w _ none) hg1 (.inr fun g e=>by
   have:some w.heap.size=some g:=e
   injection this with this
   omega)
  exact ⟨v1,rfl,by simpa using hown1,grown_below hgr (Nat.le_refl _) (fun g e=>by cases e)⟩
end Go.Proofs.Ytkfaepfljlphoaa.Sym

/-
 Walks of the program's slices.Grow.
-/
namespace Go.Proofs.Ytkfaepfljlphoaa
open Go.RowKit
def GrowPost (t:TypeId) (w:World) (e:Ending) (w':World):Prop:=∃ v',e=.returned v'∧w'.ownsRow w.heap.size t 1 v' 0 []∧Below w.heap.size w w'
theorem ownsRow_zeros (w:World) (Z:Array Value) (t:TypeId) (c:Nat) (hc:c≤maxLen) (hZ:Z.size=c) :
  (w.drew.alloc (.cells Z t)).ownsRow w.heap.size t 1 (.slice (some ⟨w.heap.size,0,none⟩) 0 c) 0 []:=by
 refine ⟨rfl,.inr ⟨w.heap.size,c,Z,rfl,Nat.le_refl _,?_,Nat.zero_le _,hc,by omega,by simp⟩⟩
 exact heap_alloc_new w.drew _
theorem below_zeros (w:World) (o:Obj):Below w.heap.size w (w.drew.alloc o):=(Below.refl w.heap.size w).drew.alloc (Nat.le_refl _) o
set_option maxRecDepth 100000 in
set_option maxHeartbeats 800000 in
theorem growI_any (n:Nat) (hn:n≤1000000000) (w:World) :
  Calls Try.prog 89 #[.slice none 0 0,.int .i64 n] w (GrowPost 3 w):=by
 obtain ⟨i0,hi,hz0,hz1,hz2⟩:=info_parts Try.infoInt
 have h1:¬ ((n:Int)<0):=by omega
 by_cases h0:n=0
 ·subst h0
  go_enter Try.func89,Try.ntmps89
  go_wp2
  go_ret
  exact ⟨_,rfl,World.ownsRow_nil _ _ _ _,Below.refl _ _⟩
 ·have h4:(n:Int) > 0:=by omega
  have happ:=Lib.run_append_nil_zeros (P:=Try.prog) w 26 3 26 3 i0 (.int .i64 0) .i64 .i64 Try.underlying26 Try.underlying3 hi hz0 n (by omega) (by omega) (by omega) (by rw [hz2];omega)
  generalize hcap:grownCap w n 0 3=cap2 at happ
  have hcapge:n≤cap2:=by rw [← hcap];exact grownCap_ge w _ 0 _
  have hcaple:cap2≤maxLen:=by rw [← hcap];exact grownCap_le_maxLen w _ 0 _ (by unfold maxLen;omega)
  generalize hZ:(Builtin.zeroCells (Value.cells (.int .i64 0)) n++Builtin.zeroCells (Value.cells (.int .i64 0)) (cap2-n))=Z at happ
  have hZs:Z.size=cap2:=by rw [← hZ];simp [size_zeroCells,Value.cells];omega
  have hown:=ownsRow_zeros w Z 3 cap2 hcaple hZs
  have hcap63:cap2≤9223372036854775807:=by unfold maxLen at hcaple;omega
  have HO:=Lib.hid (And.intro hown (below_zeros w (.cells Z 3)))
  clear hcap hZ hown hZs
  go_enter Try.func89,Try.ntmps89
  go_wp2_with (at_builtin;refine Lib.wpList_append_run _ rfl _ _ _ _ rfl _ _ rfl rfl _ _ happ ?_)
  go_ret
  exact ⟨_,rfl,HO.out.1,HO.out.2⟩
end Go.Proofs.Ytkfaepfljlphoaa

/-
 The contract of slices.Grow of nil.
-/
namespace Go.Proofs.Ytkfaepfljlphoaa.Sym
open Go.RowKit
set_option maxRecDepth 100000
theorem sp_of_grow {g:FuncId} {t:TypeId} {n:Int} (he:∀ args w,(callFunc g args).run Try.prog w=.ok (.enter g args) w) (h0:0≤n) (h1:n≤1000000000)
  (h:∀ (n:Nat),n≤1000000000→∀ w,Calls Try.prog g #[.slice none 0 0,.int .i64 n] w (GrowPost t w)):Sp Try.prog g [.im (.val (.slice none 0 0)),.im (nI n)] (.row t 1 []):=by
 refine ⟨he,fun w S vs F hS hv hn hF=>?_⟩
 match vs,hv with
 | [v,u],⟨F1,F2,⟨h3,e1⟩,⟨F3,F4,⟨h4,e2⟩,h5,e3⟩,e4⟩ =>
  have h5:F4=[]:=h5
  subst e1 e2 h5 e3 e4
  cases h3
  cases h4
  have hc:=h n.toNat (by omega) w
  rw [Int.toNat_of_nonneg h0] at hc
  refine hc.mono ?_
  rintro e w' ⟨v',rfl,ho,hb⟩
  have ho0:w'.ownsRow 0 t 1 v' 0 []:=by
   refine ⟨ho.1,?_⟩
   rcases ho.2 with h6 | ⟨g1,cap,cur,k1,_,k3⟩
   ·exact .inl h6
   ·exact .inr ⟨g1,cap,cur,k1,Nat.zero_le _,k3⟩
  have hlt:=ho.lt
  have hbk:∀ b∈(blkOf v').toList,w.heap.size≤b∧b<w'.heap.size:=fun b hb=>by
   refine hlt b ?_
   rw [row_blk ho0]
   simpa using hb
  refine ⟨v',(blkOf v').toList,rfl,.of hb,⟨[v'],(blkOf v').toList,[],rfl,⟨(blkOf v').toList,[],⟨row_one ho0,[],⟨[],Nat.one_pos,fun x hx=>by simp at hx,by decide,ho0,rfl,fun u hu=>by simp at hu,fun i u x hu=>by simp at hu⟩,rfl⟩,rfl,by simp⟩,rfl,by simp⟩,?_,fun b hb=>⟨.inl (hbk b hb).1,(hbk b hb).2⟩⟩
  cases blkOf v'<;>simp
def lib_Grow_int (n:Int):Option (List Int):=chk (0≤n∧n≤1000000000) (some [])
theorem sp_lib_Grow_int (n:Int) (r:List Int) (h:lib_Grow_int n=some r):Sp Try.prog 89 [.im (.val (.slice none 0 0)),.im (nI n)] (.row 3 1 (List.map cI r)):=by
 obtain ⟨h1,h⟩:=chk_some h
 injection h with h
 subst h
 exact sp_of_grow (fun args w=>run_enter rfl rfl rfl args w) h1.1 h1.2 growI_any
end Go.Proofs.Ytkfaepfljlphoaa.Sym

/-
 The contract of slices.SortFunc under a total comparison.
-/
namespace Go.Proofs.Ytkfaepfljlphoaa.Sym
open Go.RowKit Go.Sort
section plain
variable {α:Type}
def totB [DecidableEq α] (f:α→α→Option Int) (l:List α):Bool :=
 l.all fun a=>l.all fun b=>match f a b,f b a with
  | some m,some n=>(decide (m=0)==decide (a=b))&&(decide (m<0)==decide (0<n))&&(decide (-1≤m∧m≤1))&&l.all fun c=>!(decide (m<0)&&(match f b c with | some x=>decide (x<0) | none=>false))||(match f a c with | some x=>decide (x<0) | none=>false)
  | _,_=>false
def insF (f:α→α→Option Int) (x:α):List α→List α
 | []=>[x]
 | y::l=>match f x y with
  | some m=>cond (decide (m≤0)) (x::y::l) (y::insF f x l)
  | none=>x::y::l
def isortF (f:α→α→Option Int):List α→List α
 | []=>[]
 | x::l=>insF f x (isortF f l)
def libSort [DecidableEq α] (l:List α) (f:α→α→Option Int):Option (List α):=chk (l.length≤1000000000) (cond (totB f l) (some (isortF f l)) none)
def cfv (f:α→α→Option Int) (a b:α):Int:=(f a b).getD 0
structure TotF (f:α→α→Option Int) (l:List α):Prop where
 get:∀ a∈l,∀ b∈l,f a b=some (cfv f a b)
 zero:∀ a∈l,∀ b∈l,cfv f a b=0→a=b
 self:∀ a∈l,cfv f a a=0
 swap:∀ a∈l,∀ b∈l,(cfv f a b<0↔0<cfv f b a)
 trans:∀ a∈l,∀ b∈l,∀ c∈l,cfv f a b<0→cfv f b c<0→cfv f a c<0
theorem totB_iff [DecidableEq α] {f:α→α→Option Int} {l:List α} (h:totB f l=true):TotF f l:=by
 have key:∀ a∈l,∀ b∈l,∃ m n,f a b=some m∧f b a=some n∧(m=0↔a=b)∧(m<0↔0<n)∧∀ c∈l,m<0→(∃ x,f b c=some x∧x<0)→∃ x,f a c=some x∧x<0:=by
  intro a ha b hb
  have h1:=List.all_eq_true.1 (List.all_eq_true.1 h a ha) b hb
  cases e1:f a b with
  | none=>rw [e1] at h1;cases h1
  | some m =>
   cases e2:f b a with
   | none=>rw [e1,e2] at h1;cases h1
   | some n =>
    rw [e1,e2] at h1
    simp only [Bool.and_eq_true] at h1
    obtain ⟨⟨⟨h2,h3⟩,_⟩,h5⟩:=h1
    refine ⟨m,n,rfl,rfl,?_,?_,fun c hc hm ⟨x,hx,hx0⟩=>?_⟩
    ·have h2:=eq_of_beq h2
     simpa using h2
    ·have h3:=eq_of_beq h3
     simpa using h3
    ·have h6:=List.all_eq_true.1 h5 c hc
     rw [hx] at h6
     simp only [hm,hx0,decide_true,Bool.and_self,Bool.not_true,Bool.false_or] at h6
     cases e3:f a c with
     | none=>rw [e3] at h6;cases h6
     | some y=>rw [e3] at h6;exact ⟨y,rfl,by simpa using h6⟩
 have get:∀ a∈l,∀ b∈l,f a b=some (cfv f a b):=fun a ha b hb=>by
  obtain ⟨m,n,e1,_⟩:=key a ha b hb
  unfold cfv
  rw [e1]
  rfl
 refine ⟨get,fun a ha b hb=>?_,fun a ha=>?_,fun a ha b hb=>?_,fun a ha b hb c hc h1 h2=>?_⟩
 ·obtain ⟨m,n,e1,e2,h3,_⟩:=key a ha b hb
  rw [get a ha b hb] at e1
  injection e1 with e1
  rw [e1]
  exact h3.1
 ·obtain ⟨m,n,e1,e2,h3,_⟩:=key a ha a ha
  rw [get a ha a ha] at e1
  injection e1 with e1
  rw [e1]
  exact h3.2 rfl
 ·obtain ⟨m,n,e1,e2,h3,h4,_⟩:=key a ha b hb
  rw [get a ha b hb] at e1
  rw [get b hb a ha] at e2
  injection e1 with e1
  injection e2 with e2
  rw [e1,e2]
  exact h4
 ·obtain ⟨m,n,e1,e2,h3,h4,h5⟩:=key a ha b hb
  rw [get a ha b hb] at e1
  injection e1 with e1
  obtain ⟨x,hx,hx0⟩:=h5 c hc (by omega) ⟨_,get b hb c hc,h2⟩
  rw [get a ha c hc] at hx
  injection hx with hx
  omega
theorem TotF.sub {f:α→α→Option Int} {l l':List α} (T:TotF f l) (h:∀ x∈l',x∈l):TotF f l' :=
 ⟨fun a ha b hb=>T.get a (h a ha) b (h b hb),fun a ha b hb=>T.zero a (h a ha) b (h b hb),fun a ha=>T.self a (h a ha),fun a ha b hb=>T.swap a (h a ha) b (h b hb),fun a ha b hb c hc=>T.trans a (h a ha) b (h b hb) c (h c hc)⟩
def NGt (f:α→α→Option Int) (a b:α):Prop:=¬ cfv f b a<0
theorem TotF.ngt_trans {f:α→α→Option Int} {l:List α} (T:TotF f l) {a b c:α} (ha:a∈l) (hb:b∈l) (hc:c∈l) (h1:NGt f a b) (h2:NGt f b c):NGt f a c:=by
 intro h3
 have s1:=T.swap a ha b hb
 have s2:=T.swap b hb c hc
 have s3:=T.swap c hc a ha
 have t1:=T.swap b hb a ha
 have t2:=T.swap c hc b hb
 unfold NGt at h1 h2
 by_cases e1:cfv f b a=0
 ·have:=T.zero b hb a ha e1
  subst this
  exact h2 h3
 ·by_cases e2:cfv f c b=0
  ·have:=T.zero c hc b hb e2
   subst this
   exact h1 h3
  ·have h4:cfv f a b<0:=s1.2 (by omega)
   have h5:=T.trans c hc a ha b hb h3 h4
   exact h2 h5
theorem insF_le {f:α→α→Option Int} {x y:α} {l:List α} {m:Int} (h:f x y=some m) (hm:m≤0):insF f x (y::l)=x::y::l:=by
 simp [insF,h,hm]
theorem insF_gt {f:α→α→Option Int} {x y:α} {l:List α} {m:Int} (h:f x y=some m) (hm:¬ m≤0):insF f x (y::l)=y::insF f x l:=by
 simp [insF,h,hm]
theorem insF_perm (f:α→α→Option Int) (x:α):∀ l:List α,(insF f x l).Perm (x::l)
 | []=>List.Perm.refl _
 | y::l=>by
  cases h:f x y with
  | none=>simp [insF,h]
  | some m =>
   by_cases hm:m≤0
   ·rw [insF_le h hm]
   ·rw [insF_gt h hm]
    exact ((insF_perm f x l).cons y).trans (List.Perm.swap x y l)
theorem isortF_perm (f:α→α→Option Int):∀ l:List α,(isortF f l).Perm l
 | []=>List.Perm.refl _
 | x::l=>(insF_perm f x _).trans ((isortF_perm f l).cons x)
theorem insF_sorted {f:α→α→Option Int} {x:α}:∀ {l:List α},TotF f (x::l)→l.Pairwise (NGt f)→(insF f x l).Pairwise (NGt f)
 | [],_,_=>List.pairwise_singleton _ _
 | y::l,T,h=>by
  have hx:x∈x::y::l:=by simp
  have hy:y∈x::y::l:=by simp
  have hc:=List.pairwise_cons.1 h
  by_cases hd:cfv f x y≤0
  ·rw [insF_le (T.get x hx y hy) hd]
   have hxy:NGt f x y:=fun h0=>by
    have:=(T.swap y hy x hx).1 h0
    omega
   exact List.pairwise_cons.2 ⟨fun z hz=>by
    rcases List.mem_cons.1 hz with rfl | hz'
    ·exact hxy
    ·exact T.ngt_trans hx hy (by simp [hz']) hxy (hc.1 z hz'),h⟩
  ·rw [insF_gt (T.get x hx y hy) hd]
   have hyx:NGt f y x:=by unfold NGt;omega
   refine List.pairwise_cons.2 ⟨fun z hz=>?_,insF_sorted (T.sub fun z hz=>?_) hc.2⟩
   ·rcases List.mem_cons.1 ((insF_perm f x l).mem_iff.1 hz) with rfl | hz'
    ·exact hyx
    ·exact hc.1 z hz'
   ·rcases List.mem_cons.1 hz with rfl | hz'
    ·simp
    ·simp [hz']
theorem isortF_sorted {f:α→α→Option Int}:∀ {l:List α},TotF f l→(isortF f l).Pairwise (NGt f)
 | [],_=>List.Pairwise.nil
 | x::l,T=>insF_sorted (T.sub fun z hz=>by
   rcases List.mem_cons.1 hz with rfl | hz'
   ·simp
   ·exact List.mem_cons_of_mem _ ((isortF_perm f l).mem_iff.1 hz')) (isortF_sorted (T.sub fun z hz=>List.mem_cons_of_mem _ hz))
theorem sorted_uniq {f:α→α→Option Int}:∀ {l1 l2:List α},TotF f l1→l1.Perm l2→l1.Pairwise (NGt f)→l2.Pairwise (NGt f)→l1=l2
 | [],l2,_,hp,_,_=>(List.nil_perm.1 hp).symm
 | x::l1,[],_,hp,_,_=>absurd hp.length_eq (by simp)
 | x::l1,y::l2,T,hp,h1,h2=>by
  have p1:=List.pairwise_cons.1 h1
  have p2:=List.pairwise_cons.1 h2
  have hx:x∈x::l1:=by simp
  have hy:y∈x::l1:=hp.mem_iff.2 (by simp)
  have e:x=y:=by
   rcases List.mem_cons.1 hy with e | hy'
   ·exact e.symm
   ·have hxy:=p1.1 y hy'
    rcases List.mem_cons.1 (hp.mem_iff.1 hx) with e | hx'
    ·exact e
    ·have hyx:=p2.1 x hx'
     have s1:=T.swap y hy x hx
     have s2:=T.swap x hx y hy
     unfold NGt at hxy hyx
     exact T.zero x hx y hy (by omega)
  subst e
  rw [sorted_uniq (T.sub fun z hz=>List.mem_cons_of_mem _ hz) (List.Perm.cons_inv hp) p1.2 p2.2]
end plain
section model
variable {α:Type}
def CmpG (P:Program) (g:FuncId) (X:α→IV) (f:α→α→Option Int):Prop :=
 ∀ (W:World) (S:Nat→Prop) (u u':Value) (x y:α) (r:Int),f x y=some r→RepI W S u (X x)→RepI W S u' (X y) →
  Calls P g #[u,u'] W fun e w'=>e=.returned (.int .i64 r)∧∃ q os,w'=Sort.grow (W.drewN q) os
def El (w:World) (S:Nat→Prop) (k:Nat) (c:α→List IV) (l:List α):Type:={ p:List Value×α // p.1.length=k∧(∀ v∈p.1,v.oneCell'=true)∧RepIs w S p.1 (c p.2)∧p.2∈l }
variable {w:World} {S:Nat→Prop} {k:Nat} {c:α→List IV} {l:List α}
def El.enc (x:El w S k c l):List Value:=x.val.1
def El.wd (x:El w S k c l):α:=x.val.2
def El.of (us:List Value) (x:α) (h1:us.length=k) (h2:∀ v∈us,v.oneCell'=true) (h3:RepIs w S us (c x)) (h4:x∈l):El w S k c l:=⟨(us,x),h1,h2,h3,h4⟩
theorem el_list (hk:∀ x,(c x).length=k):∀ (l0:List α) (us:List Value),(∀ x∈l0,x∈l)→us.length=(l0.map c).flatten.length→(∀ u∈us,u.oneCell'=true) →
  (∀ (i:Nat) u x,us[i]?=some u→(l0.map c).flatten[i]?=some x→RepI w S u x)→∃ zs:List (El w S k c l),(zs.map El.enc).flatten=us∧zs.map El.wd=l0
 | [],us,_,hl,_,_=>⟨[],(List.eq_nil_of_length_eq_zero hl).symm,rfl⟩
 | x::l0,us,hm,hl,h1,hr=>by
  rw [List.map_cons,List.flatten_cons] at hl hr
  rw [List.length_append,hk] at hl
  obtain ⟨zs,e1,e2⟩:=el_list hk l0 (us.drop k) (fun y hy=>hm y (List.mem_cons_of_mem _ hy)) (by rw [List.length_drop];omega) (fun u hu=>h1 u (List.mem_of_mem_drop hu)) fun i u y hu hy=>by
   rw [List.getElem?_drop] at hu
   refine hr (k+i) u y hu ?_
   rw [List.getElem?_append,if_neg (by rw [hk];omega),hk]
   rwa [Nat.add_sub_cancel_left]
  have hx1:(us.take k).length=k:=by rw [List.length_take];omega
  have hx2:∀ v∈us.take k,v.oneCell'=true:=fun u hu=>h1 u (List.mem_of_mem_take hu)
  have hx3:RepIs w S (us.take k) (c x):=⟨by rw [hx1,hk],fun i u y hu hy=>by
   have hi:i<k:=by
    rw [← hk x]
    exact (List.getElem?_eq_some_iff.1 hy).1
   rw [List.getElem?_take,if_pos hi] at hu
   exact hr i u y hu (by rw [List.getElem?_append,if_pos (by rw [hk];exact hi)];exact hy)⟩
  refine ⟨El.of (us.take k) x hx1 hx2 hx3 (hm x (by simp))::zs,?_,?_⟩
  ·rw [List.map_cons,List.flatten_cons,e1]
   exact List.take_append_drop k us
  ·rw [List.map_cons,e2]
   rfl
theorem el_swo {f:α→α→Option Int} (T:TotF f l):SWO (ltOf fun x y:El w S k c l=>cfv f x.wd y.wd) where
 irrefl x:=by
  have:=T.self x.wd x.property.2.2.2
  simp [ltOf,this]
 trans x y z h1 h2:=by
  simp only [ltOf,decide_eq_true_eq] at *
  exact T.trans _ x.property.2.2.2 _ y.property.2.2.2 _ z.property.2.2.2 h1 h2
 ntrans x y z h1 h2:=by
  simp only [ltOf,decide_eq_false_iff_not] at *
  exact T.ngt_trans z.property.2.2.2 y.property.2.2.2 x.property.2.2.2 h2 h1
def SortC (P:Program) (sg:FuncId) (k:Nat) (mk:List Value→Value):Prop :=
 (∀ (p:Option Addr) (cap:Nat) (fv:Value) (w:World),Calls P sg #[.slice p 0 cap,fv] w fun e w'=>e=.returned (.tuple #[])∧w'=w) ∧
 ∀ (E:Type) [Inhabited E] (enc:E→List Value) (cf:E→E→Int) (g blk cap:Nat) (d:Array E) (w:World),(∀ x,(enc x).length=k)→(∀ x,∀ v∈enc x,v.oneCell'=true)→SWO (ltOf cf) →
  (∀ args w,(callFunc g args).run P w=.ok (.enter g args) w) →
  (∀ (m:Nat) (os:Array Obj) (dk:Array E),dk.size=d.size→∀ x y:E,Calls P g #[mk (enc x),mk (enc y)] (Sort.grow (putRow id (Sort.ahead w m) blk 0 (Go.Sort.flatK enc k dk)) os) fun e w' =>
   e=.returned (.int .i64 (cf x y))∧∃ q os',w'=Sort.grow ((Sort.grow (putRow id (Sort.ahead w m) blk 0 (Go.Sort.flatK enc k dk)) os).drewN q) os') →
  Go.Sort.Holds id w blk 0 (Go.Sort.flatK enc k d)→blk<w.heap.size→d.size<4611686018427387904 →
  Calls P sg #[.slice (some ⟨blk,0,none⟩) d.size cap,.func (.func g) #[] #[]] w fun e w' =>
   e=.returned (.tuple #[])∧∃ d' n os,PermIn 0 d.size d d'∧SortedIn (ltOf cf) 0 d.size d'∧w'=Sort.grow (putRow id (Sort.ahead w n) blk 0 (Go.Sort.flatK enc k d')) os
theorem perm_of_in' {β:Type} [Inhabited β] {d d':Array β} (h:PermIn 0 d.size d d'):d'.toList.Perm d.toList:=by
 obtain ⟨hs,_,hp⟩:=h
 have e1:d'.extract 0 d.size=d':=by rw [← hs];simp
 have e2:d.extract 0 d.size=d:=by simp
 rwa [e1,e2] at hp
theorem pairwise_of_in' {β:Type} [Inhabited β] {lt:β→β→Bool} {d:Array β} {n:Nat} (hn:d.size=n) (h:SortedIn lt 0 n d):d.toList.Pairwise fun a b=>lt b a=false:=by
 rw [List.pairwise_iff_getElem]
 intro i j hi hj hij
 have:=h i j (Nat.zero_le _) hij (by rw [← hn];simpa using hj)
 simp at hi hj
 simpa [getElem!_pos,hi,hj] using this
theorem flatK_list {β:Type} [Inhabited β] {enc:β→List Value} {k:Nat} (hk:∀ x,(enc x).length=k) (d:Array β):Go.Sort.flatK enc k d=(d.toList.map enc).flatten.toArray:=by
 have hl:((d.toList.map enc).flatten).length=d.size*k:=by
  rw [flat_length (k:=k) fun x hx=>by obtain ⟨y,_,rfl⟩:=List.mem_map.1 hx;exact hk y]
  simp
 refine ext_get! (by simp [hl]) fun t ht=>?_
 rw [size_flatK] at ht
 rw [get_flatK _ _ _ t ht]
 have k0:0<k:=by
  rcases Nat.eq_zero_or_pos k with h | h
  ·subst h;simp at ht
  ·exact h
 have hq:t / k<d.size:=Nat.div_lt_of_lt_mul (by rwa [Nat.mul_comm] at ht)
 have hm:t%k<k:=Nat.mod_lt _ k0
 have hg:=flat_get (es:=d.toList.map enc) (i:=t / k) (j:=t%k) (e:=enc (d[t / k]'hq)) (fun x hx=>by obtain ⟨y,_,rfl⟩:=List.mem_map.1 hx;exact hk y) (by simp [hq]) hm
 rw [show t / k*k+t%k=t by rw [Nat.mul_comm];exact Nat.div_add_mod t k] at hg
 have hm2:t%k<(enc (d[t / k]'hq)).length:=by rw [hk];exact hm
 rw [List.getElem?_eq_getElem hm2,List.getElem?_eq_getElem (by rw [hl];exact ht)] at hg
 injection hg with hg
 rw [getElem!_pos d _ hq,getElem!_pos (enc (d[t / k]'hq)) (t%k) hm2,getElem!_pos ((d.toList.map enc).flatten.toArray) t (by simpa [hl] using ht)]
 simpa using hg.symm
theorem own_put {w:World} {base:Nat} {e:TypeId} {g n cap k q:Nat} {us us':List Value} {os:Array Obj} (h:w.ownsRow base e k (.slice (some ⟨g,0,none⟩) n cap) n us) (hl:us'.length=n*k) :
  (Sort.grow (putRow id (Sort.ahead w q) g 0 us'.toArray) os).ownsRow base e k (.slice (some ⟨g,0,none⟩) n cap) n us':=by
 rcases h.2 with ⟨e0,_⟩ | ⟨g',cap',cur,e0,hb,hg,hn,hm,hs,ht⟩
 ·cases e0
 ·injection e0 with e1 _ e3
  injection e1 with e1
  injection e1 with e1
  subst e1;subst e3
  have hlt:g<w.heap.size:=by
   rcases Nat.lt_or_ge g w.heap.size with h' | h'
   ·exact h'
   ·rw [Array.getElem?_eq_none h'] at hg;cases hg
  refine ⟨hl,.inr ⟨g,cap,putCells id 0 us'.toArray cur,rfl,hb,?_,hn,hm,by simpa [putCells] using hs,?_⟩⟩
  ·have:g<(putRow id (Sort.ahead w q) g 0 us'.toArray).heap.size:=by simpa [putRow,mapBlock,Sort.ahead] using hlt
   simp only [Sort.grow,Array.getElem?_append,if_pos this]
   simp [putRow,mapBlock,Sort.ahead,Array.getElem?_modify,hg,onCells]
  ·have hle:n*k≤cap*k:=Nat.mul_le_mul_right k hn
   apply List.ext_getElem?
   intro j
   rw [List.getElem?_take,Array.getElem?_toList]
   by_cases hj:j<n*k
   ·have hjc:j<cur.size:=by omega
    rw [if_pos hj]
    simp only [putCells,Array.getElem?_mapIdx,Array.getElem?_eq_getElem hjc,Option.map_some]
    rw [if_pos (by simp;omega),List.getElem?_eq_getElem (by omega)]
    simp [getElem!_pos,show j<us'.length by omega]
   ·rw [if_neg hj,List.getElem?_eq_none (by omega)]
theorem holds_own {w:World} {base:Nat} {e:TypeId} {g n cap k:Nat} {us:List Value} (h:w.ownsRow base e k (.slice (some ⟨g,0,none⟩) n cap) n us):Go.Sort.Holds id w g 0 us.toArray:=by
 rcases h.2 with ⟨e0,_⟩ | ⟨g',cap',cur,e0,hb,hg,hn,hm,hs,ht⟩
 ·cases e0
 ·injection e0 with e1 _ e3
  injection e1 with e1
  injection e1 with e1
  subst e1;subst e3
  intro j hj
  have hj':j<us.length:=by simpa using hj
  have hjn:j<n*k:=by rw [← h.1];exact hj'
  have hle:n*k≤cap*k:=Nat.mul_le_mul_right k hn
  have hjc:j<cur.size:=by omega
  have e1:(cur.toList.take (n*k))[j]?=us[j]?:=by rw [ht]
  rw [List.getElem?_take,if_pos hjn,Array.getElem?_toList,List.getElem?_eq_getElem hj'] at e1
  refine ⟨?_,by simp [World.frozen?,hg]⟩
  simp only [World.cell?,hg,Nat.zero_add,Option.isSome_none,Bool.false_eq_true,if_false]
  rw [e1]
  simp [getElem!_pos,hj']
theorem put_block {w:World} {g q:Nat} {F:Array Value} {os:Array Obj} {b:Nat} (hb:b<w.heap.size) (hne:b≠g):(Sort.grow (putRow id (Sort.ahead w q) g 0 F) os).heap[b]?=w.heap[b]?:=by
 have:b<(putRow id (Sort.ahead w q) g 0 F).heap.size:=by simpa [putRow,mapBlock,Sort.ahead] using hb
 simp only [Sort.grow,Array.getElem?_append,if_pos this]
 simp [putRow,mapBlock,Sort.ahead,Array.getElem?_modify,Ne.symm hne]
theorem put_cell {w:World} {g q:Nat} {F:Array Value} {os:Array Obj} {p:Addr} {u:Value} (hne:p.block≠g) (h:w.cell? p=some u):(Sort.grow (putRow id (Sort.ahead w q) g 0 F) os).cell? p=some u:=by
 have hlt:=World.block_lt_of_cell? w _ h
 unfold World.cell? at h ⊢
 rw [put_block hlt hne]
 exact h
theorem sp_of_sort [DecidableEq α] {P:Program} {sg:FuncId} {mk:List Value→Value} {t:TypeId} {X:α→IV} (he:∀ args w,(callFunc sg args).run P w=.ok (.enter sg args) w) (C:SortC P sg k mk) (hk0:0<k) (hk:∀ x,(c x).length=k)
  (hX:∀ (W:World) (S:Nat→Prop) us x,us.length=k→(∀ v∈us,v.oneCell'=true)→RepIs W S us (c x)→RepI W S (mk us) (X x))
  {f:α→α→Option Int} {g:FuncId} (eg:∀ args w,(callFunc g args).run P w=.ok (.enter g args) w) (hg:CmpG P g X f) {l r:List α} (h:libSort l f=some r) :
  Sp P sg [.lent (.row t k (l.map c)),.im (.fn g [])] (.mk true [] [.lent (.row t k (r.map c))]):=by
 obtain ⟨hlen,h⟩:=chk_some h
 cases hT:totB f l with
 | false=>rw [hT] at h;cases h
 | true =>
 rw [hT] at h
 injection h with h
 subst h
 have T:=totB_iff hT
 refine ⟨he,fun w S vs F hS hv hn hF=>?_⟩
 match vs,hv with
 | [v,u],⟨F1,F2,⟨hv1,inn,hrow,e1⟩,⟨F3,F4,⟨h4,e2⟩,h5,e3⟩,e4⟩ =>
  have h5:F4=[]:=h5
  have e1:F1=(blkOf v).toList:=e1
  subst e1 e2 h5 e3
  have e4:F=(blkOf v).toList:=by rw [e4];simp
  subst e4
  obtain ⟨us,_,_,hlim,hown,hul,h1,hr⟩:=hrow
  rw [List.length_map] at hown hlim
  have hu:u=.func (.func g) #[] #[]:=by
   generalize hx:IV.fn g []=x at h4
   cases h4 with
   | fn f us cs hl hr =>
    injection hx with hx1 hx2
    subst hx1 hx2
    have:=List.eq_nil_of_length_eq_zero hl
    subst this
    rfl
   | _=>cases hx
  subst hu
  have fin:∀ (w':World) (us':List Value),w'.ownsRow 0 t k v l.length us'→us'.length=((isortF f l).map c).flatten.length→(∀ u∈us',u.oneCell'=true) →
    Belo (fun b=>b∈(blkOf v).toList) w.heap.size w w'→(∀ (i:Nat) u x,us'[i]?=some u→((isortF f l).map c).flatten[i]?=some x→RepI w' (fun b=>(S b∨w.heap.size≤b∨b∈(blkOf v).toList)∧b<w'.heap.size∧b∉(blkOf v).toList) u x) →
    ∃ (v1:Value) (F':List Nat),Ending.returned (.tuple #[])=.returned v1∧Belo (fun b=>b∈(blkOf v).toList) w.heap.size w w' ∧
     ResOk w' (fun b=>(S b∨w.heap.size≤b∨b∈(blkOf v).toList)∧b<w'.heap.size∧b∉F') v1 (bxVs [v,.func (.func g) #[] #[]] [.lent (.row t k (l.map c)),.im (.fn g [])]) (.mk true [] [.lent (.row t k ((isortF f l).map c))]) F'∧F'.Nodup∧∀ b∈F',(w.heap.size≤b∨b∈(blkOf v).toList)∧b<w'.heap.size:=by
   intro w' us' ho hl' h1' hb hr'
   refine ⟨_,(blkOf v).toList,rfl,hb,⟨[],[],(blkOf v).toList,rfl,rfl,⟨(blkOf v).toList,[],⟨hv1,inn,⟨us',hk0,fun x hx=>?_,?_,?_,hl',h1',hr'⟩,rfl⟩,rfl,by simp⟩,by simp⟩,hn,fun b hb'=>⟨.inr hb',Nat.lt_of_lt_of_le (hF b hb').2 hb.size⟩⟩
   ·obtain ⟨y,_,rfl⟩:=List.mem_map.1 hx
    exact hk y
   ·rw [List.length_map,(isortF_perm f l).length_eq]
    exact hlim
   ·rw [List.length_map,(isortF_perm f l).length_eq]
    exact ho
  by_cases hnil:v=.slice none 0 0
  ·subst hnil
   have hl0:l.length=0:=by
    rcases hown.2 with ⟨_,h0⟩ | ⟨_,_,_,e,_⟩
    ·exact h0
    ·cases e
   have hl0:l=[]:=List.eq_nil_of_length_eq_zero hl0
   subst hl0
   refine (C.1 none 0 _ w).mono ?_
   rintro e w' ⟨rfl,rfl⟩
   have hus:us=[]:=List.eq_nil_of_length_eq_zero (by rw [hul];rfl)
   subst hus
   exact fin w' [] hown rfl (fun u hu=>by cases hu) (Belo.refl _ _ _) fun i u x hu=>by simp at hu
  ·obtain ⟨blk,cap,rfl⟩:∃ blk cap,v=.slice (some ⟨blk,0,none⟩) l.length cap:=by
    rcases hown.2 with ⟨e0,_⟩ | ⟨g,cap,cur,e,_⟩
    ·exact absurd e0 hnil
    ·exact ⟨g,cap,e⟩
   have hblk:blk<w.heap.size:=(hF blk (by simp [blkOf])).2
   have hnS:¬ S blk:=(hF blk (by simp [blkOf])).1
   obtain ⟨zs,hz1,hz2⟩:=el_list (w:=w) (S:=S) (l:=l) hk l us (fun x hx=>hx) hul h1 hr
   by_cases hl0:l=[]
   ·subst hl0
    refine (C.1 (some ⟨blk,0,none⟩) cap _ w).mono ?_
    rintro e w' ⟨rfl,rfl⟩
    have hus:us=[]:=List.eq_nil_of_length_eq_zero (by rw [hul];rfl)
    subst hus
    exact fin w' [] hown rfl (fun u hu=>by cases hu) (Belo.refl _ _ _) fun i u x hu=>by simp at hu
   ·have hzl:zs.length=l.length:=by have:=congrArg List.length hz2;simpa using this
    obtain ⟨z0,hz0⟩:∃ z,z∈zs:=by
     cases zs with
     | nil=>exact absurd (by simpa using hz2.symm) hl0
     | cons z zs=>exact ⟨z,by simp⟩
    haveI:Inhabited (El w S k c l):=⟨z0⟩
    have henc:∀ x:El w S k c l,(El.enc x).length=k:=fun x=>x.property.1
    have hflat:∀ d:Array (El w S k c l),Go.Sort.flatK El.enc k d=(d.toList.map El.enc).flatten.toArray:=flatK_list henc
    have hcall:=C.2 (El w S k c l) El.enc (fun x y=>cfv f x.wd y.wd) g blk cap zs.toArray w henc (fun x=>x.property.2.1) (el_swo T) eg (fun m os dk _ x y=>by
      refine hg _ S _ _ x.wd y.wd _ (T.get _ x.property.2.2.2 _ y.property.2.2.2) (hX _ _ _ _ x.property.1 x.property.2.1 ⟨x.property.2.2.1.1,fun i u z hu hz=>?_⟩) (hX _ _ _ _ y.property.1 y.property.2.1 ⟨y.property.2.2.1.1,fun i u z hu hz=>?_⟩)
      ·exact (x.property.2.2.1.2 i u z hu hz).mono (fun _ h=>h) fun p u hp hu=>put_cell (fun e=>hnS (by rw [← e];exact hp)) hu
      ·exact (y.property.2.2.1.2 i u z hu hz).mono (fun _ h=>h) fun p u hp hu=>put_cell (fun e=>hnS (by rw [← e];exact hp)) hu)
     (by rw [hflat];show Go.Sort.Holds id w blk 0 ((zs.map El.enc).flatten).toArray;rw [hz1];exact holds_own hown) hblk (by simp;omega)
    have hsz:zs.toArray.size=l.length:=by simpa using hzl
    rw [hsz] at hcall
    refine hcall.mono ?_
    rintro e w' ⟨rfl,d',n,os,hp,hs,rfl⟩
    have hd':d'.size=l.length:=by rw [hp.1];exact hsz
    have hperm:=perm_of_in' (d:=zs.toArray) (by rw [hsz];exact hp)
    have hpw:=pairwise_of_in' hd' hs
    have hwd:d'.toList.map El.wd=isortF f l:=by
     have hp1:(d'.toList.map El.wd).Perm l:=(hperm.map El.wd).trans (List.Perm.of_eq hz2)
     refine sorted_uniq (T.sub fun x hx=>hp1.mem_iff.1 hx) (hp1.trans (isortF_perm f l).symm) ?_ (isortF_sorted T)
     rw [List.pairwise_map]
     refine hpw.imp fun {a b} hab=>?_
     have hab2:¬ cfv f b.wd a.wd<0:=by simpa only [ltOf,decide_eq_false_iff_not] using hab
     exact hab2
    rw [hflat]
    have hlen':((d'.toList.map El.enc).flatten).length=l.length*k:=by
     rw [flat_length (k:=k) fun x hx=>by obtain ⟨y,_,rfl⟩:=List.mem_map.1 hx;exact henc y]
     simp [hd']
    have hflen:((isortF f l).map c).flatten.length=l.length*k:=by
     rw [flat_length (k:=k) fun x hx=>by obtain ⟨y,_,rfl⟩:=List.mem_map.1 hx;exact hk y,List.length_map,(isortF_perm f l).length_eq]
    refine fin _ _ (own_put hown hlen') (by rw [hlen',hflen]) (fun u hu=>?_) ⟨rfl,rfl,rfl,?_,fun b hb hnb=>put_block hb fun e=>hnb (by simp [blkOf,e])⟩ fun i u x hu hx=>?_
    ·obtain ⟨us2,h2,h3⟩:=List.mem_flatten.1 hu
     obtain ⟨y,_,rfl⟩:=List.mem_map.1 h2
     exact y.property.2.1 u h3
    ·simp [Sort.grow,putRow,mapBlock,Sort.ahead]
    ·have hi:i<l.length*k:=by rw [← hlen'];exact (List.getElem?_eq_some_iff.1 hu).1
     have hq:i / k<l.length:=Nat.div_lt_of_lt_mul (by rwa [Nat.mul_comm] at hi)
     have hm:i%k<k:=Nat.mod_lt _ hk0
     have hik:i / k*k+i%k=i:=by rw [Nat.mul_comm];exact Nat.div_add_mod i k
     have hq':i / k<d'.size:=by rw [hd'];exact hq
     have g1:=flat_get (es:=d'.toList.map El.enc) (i:=i / k) (j:=i%k) (e:=El.enc (d'[i / k]'hq')) (fun x hx=>by obtain ⟨y,_,rfl⟩:=List.mem_map.1 hx;exact henc y) (by simp [hq']) hm
     have g2:=flat_get (es:=(isortF f l).map c) (i:=i / k) (j:=i%k) (e:=c (El.wd (d'[i / k]'hq'))) (fun x hx=>by obtain ⟨y,_,rfl⟩:=List.mem_map.1 hx;exact hk y) (by rw [← hwd];simp [hq']) hm
     rw [hik,hu] at g1
     rw [hik,hx] at g2
     refine ((d'[i / k]'hq').property.2.2.1.2 _ _ _ g1.symm g2.symm).mono (fun b hb=>⟨.inl hb,?_,?_⟩) fun p u hp hu=>put_cell (fun e=>hnS (by rw [← e];exact hp)) hu
     ·have:w.heap.size≤(Sort.grow (putRow id (Sort.ahead w n) blk 0 ((d'.toList.map El.enc).flatten).toArray) os).heap.size:=by simp [Sort.grow,putRow,mapBlock,Sort.ahead]
      exact Nat.lt_of_lt_of_le (hS b hb) this
     ·intro hb'
      have:b=blk:=by simpa [blkOf] using hb'
      subst this
      exact hnS hb
end model
end Go.Proofs.Ytkfaepfljlphoaa.Sym

/-
 Plain laws on the key of a word: the digits at base 36, and that no two words have the same key. No program in sight.
-/
namespace Go.Proofs.Ytkfaepfljlphoaa
end Go.Proofs.Ytkfaepfljlphoaa

/-
 Walks of strconv.AppendInt at base 36 (internal/strconv.AppendInt, AppendUint, formatBits).
-/
namespace Go.Proofs.Ytkfaepfljlphoaa
open Go.RowKit
def bcells (l:List UInt8):List Value:=l.map fun b=>.int .u8 (b.toNat:Int)
def OwnB (w:World) (base:Nat) (v:Value) (l:List UInt8):Prop:=w.ownsRow base 5 1 v l.length (bcells l)
theorem OwnB.lt {w:World} {base:Nat} {v:Value} {l:List UInt8} (h:OwnB w base v l):∀ k,v.ownBlock=some k→base≤k∧k<w.heap.size:=World.ownsRow.lt h
def Dig (zs:List Value) (i:Nat) (l:List UInt8):Prop:=zs.length=65∧zs.drop i=bcells l
theorem Dig.push {zs:List Value} {j:Nat} {m:List UInt8} (h:Dig zs (j+1) m) (hj:j<65) (c:UInt8):Dig (zs.set j (.int .u8 (c.toNat:Int))) j (c::m):=by
 obtain ⟨h1,h2⟩:=h
 refine ⟨by simpa using h1,?_⟩
 rw [List.drop_eq_getElem_cons (by simp;omega),List.getElem_set_self,List.drop_set_of_lt (by omega),h2]
 rfl
end Go.Proofs.Ytkfaepfljlphoaa

/-
 The contract of the key of a word.
-/
namespace Go.Proofs.Ytkfaepfljlphoaa.Sym
open Go.RowKit
theorem rowOf_ints {w:World} {S:Nat→Prop} {v:Value} {l:List Int} (h:RepI w S v (nL cI l)):∃ A n c,v=.slice A n c∧RowOf w IsInt A n c l:=by
 have h:RepI w S v (.sl (l.map cI)):=h
 generalize he:l.map cI=es at h
 cases h with
 | emp A c =>
  have:l=[]:=by simpa using he
  subst this
  exact ⟨A,0,c,rfl,rfl,Nat.zero_le _,by omega,fun h=>by omega⟩
 | sl b o c k n _ us hn hk hc hs hS hl h1 hu hr =>
  subst he
  have hf:(l.map cI).flatten=l.map fun x=>nI x:=by
   clear hn hk hl hr h
   induction l with
   | nil=>rfl
   | cons x l ih=>rw [List.map_cons,List.flatten_cons,ih];rfl
  rw [hf] at hl hr
  refine ⟨_,_,_,rfl,by simpa using hn,hc,hs,fun _=>⟨b,o,rfl,fun i x hx=>?_⟩⟩
  have hi:i<us.length:=by rw [hl,List.length_map];exact (List.getElem?_eq_some_iff.1 hx).1
  have hg:=List.getElem?_eq_getElem hi
  refine ⟨_,hu i _ hg,?_⟩
  have:=hr i _ (nI x) hg (by rw [List.getElem?_map,hx];rfl)
  generalize us[i]=u at this
  cases this with
  | val _=>rfl
end Go.Proofs.Ytkfaepfljlphoaa.Sym

/-
 Walks of cmp.Compare, slices.Compare, word.Lex, cmp.Or, word.Compare.
-/
namespace Go.Proofs.Ytkfaepfljlphoaa
open Go.RowKit
def cmpI (x y:Int):Int:=if x<y then -1 else if y<x then 1 else 0
theorem cmpCompare_any (x y:Int) (w:World) :
  Calls Try.prog 87 #[.int .i64 x,.int .i64 y] w fun e w'=>e=.returned (.int .i64 (cmpI x y))∧w=w':=by
 by_cases h1:x<y
 ·go_enter Try.func87,Try.ntmps87
  go_wp2
  go_ret
  exact ⟨ret_int (by unfold cmpI;rw [if_pos h1]),rfl⟩
 ·by_cases h2:y<x
  ·go_enter Try.func87,Try.ntmps87
   go_wp2
   go_ret
   exact ⟨ret_int (by unfold cmpI;rw [if_neg (by omega),if_pos h2]),rfl⟩
  ·go_enter Try.func87,Try.ntmps87
   go_wp2
   go_ret
   exact ⟨ret_int (by unfold cmpI;rw [if_neg (by omega),if_neg (by omega)]),rfl⟩
theorem lexI_step {xs ys:List Int} {k:Nat} {x y:Int} (hx:xs[k]?=some x) (hy:ys[k]?=some y) :
  lexI (xs.drop k) (ys.drop k)=if cmpI x y=0 then lexI (xs.drop (k+1)) (ys.drop (k+1)) else cmpI x y:=by
 obtain ⟨h1,h1'⟩:=List.getElem?_eq_some_iff.1 hx
 obtain ⟨h2,h2'⟩:=List.getElem?_eq_some_iff.1 hy
 rw [List.drop_eq_getElem_cons h1,List.drop_eq_getElem_cons h2,h1',h2']
 simp only [lexI,cmpI]
 by_cases a:x<y
 ·simp [a]
 ·by_cases b:y<x
  ·simp [a,b]
  ·simp [a,b]
theorem lexI_long {xs ys:List Int} {k:Nat} (h1:k<xs.length) (h2:ys.length≤k):lexI (xs.drop k) (ys.drop k)=1:=by
 rw [List.drop_eq_getElem_cons h1,List.drop_eq_nil_of_le h2];rfl
theorem lexI_end {xs ys:List Int} {k:Nat} (h1:xs.length≤k):lexI (xs.drop k) (ys.drop k)=if k<ys.length then -1 else 0:=by
 rw [List.drop_eq_nil_of_le h1]
 by_cases h2:k<ys.length
 ·rw [if_pos h2,List.drop_eq_getElem_cons h2];rfl
 ·rw [if_neg h2,List.drop_eq_nil_of_le (by omega)];rfl
set_option maxHeartbeats 800000 in
theorem slicesCompare_any {A B:Option Addr} {n c m c':Nat} {xs ys:List Int} {w:World} (hx:RowOf w IsInt A n c xs) (hy:RowOf w IsInt B m c' ys) :
  Calls Try.prog 83 #[.slice A n c,.slice B m c'] w fun e w'=>e=.returned (.int .i64 (lexI xs ys))∧w=w':=by
 have hn:=hx.small
 have hm:=hy.small
 have HL:=Lib.hid (And.intro hx.len hy.len)
 go_enter Try.func83,Try.ntmps83
 go_wp2
 go_loop [5,6,7,8,11] (fun _ _ _ _ i=>∃ k:Nat,k≤n∧k≤m∧i=.int .i64 k∧Hid (lexI xs ys=lexI (xs.drop k) (ys.drop k))) (fun _ _ _ _ i=>n-(intOf i).toNat)
 case atStart=>exact ⟨0,by omega,by omega,rfl,Lib.hid (by simp)⟩
 case round =>
  obtain ⟨k,hk,hk',rfl,HT⟩:=hrel
  by_cases h1:k<n
  ·obtain ⟨b,o,x,rfl,hx1,hx2⟩:=hx.int_at h1
   have HX:=Lib.hid hx1
   clear hx1
   by_cases h2:k<m
   ·obtain ⟨b',o',y,rfl,hy1,hy2⟩:=hy.int_at h2
    have HY:=Lib.hid hy1
    clear hy1
    have hst:=lexI_step HX.out HY.out
    by_cases h3:cmpI x y=0
    ·rw [if_pos h3] at hst
     have HST:=Lib.hid hst
     have d3:(cmpI x y != 0)=false:=by simp [h3]
     have H3:=Lib.hid h3
     clear h3 hst
     go_wp2_with (go_at_call 87;refine (cmpCompare_any _ _ _).mono ?_;rintro e w' ⟨rfl,rfl⟩)
     go_round
     case rel=>exact ⟨k+1,by omega,by omega,by go_num,Lib.hid (by rw [HT.out,HST.out])⟩
     case measure=>simp [intOf];omega
    ·rw [if_neg h3] at hst
     have HST:=Lib.hid hst
     have d3:(cmpI x y != 0)=true:=by simp [h3]
     clear h3 hst
     go_wp2_with (go_at_call 87;refine (cmpCompare_any _ _ _).mono ?_;rintro e w' ⟨rfl,rfl⟩)
     go_ret
     exact ⟨ret_int (by rw [HT.out,HST.out]),rfl⟩
   ·go_wp2
    go_ret
    obtain ⟨h3,h4⟩:=HL.out
    exact ⟨ret_int (by rw [HT.out,lexI_long (by omega) (by omega)]),rfl⟩
  ·obtain ⟨h3,h4⟩:=HL.out
   have HE:=Lib.hid (lexI_end (xs:=xs) (ys:=ys) (k:=k) (by omega))
   clear h3 h4
   by_cases h2:n<m
   ·go_wp2
    go_ret
    obtain ⟨h3,h4⟩:=HL.out
    exact ⟨ret_int (by rw [HT.out,HE.out,if_pos (by omega)]),rfl⟩
   ·go_wp2
    go_ret
    obtain ⟨h3,h4⟩:=HL.out
    exact ⟨ret_int (by rw [HT.out,HE.out,if_neg (by omega)]),rfl⟩
theorem wordLex_any {A B:Option Addr} {n c m c':Nat} {xs ys:List Int} {w:World} (hx:RowOf w IsInt A n c xs) (hy:RowOf w IsInt B m c' ys) :
  Calls Try.prog 60 #[.slice A n c,.slice B m c'] w fun e w'=>e=.returned (.int .i64 (lexI xs ys))∧w=w':=by
 go_enter Try.func60,Try.ntmps60
 go_wp2_with (go_at_call 83;refine (slicesCompare_any hx hy).mono ?_;rintro e w' ⟨rfl,rfl⟩)
 go_ret
 exact ⟨rfl,rfl⟩
def orI (xs:List Int):Int:=(xs.find? fun a=>a != 0).getD 0
set_option maxHeartbeats 400000 in
theorem cmpOr_any {A:Option Addr} {n c:Nat} {xs:List Int} {w:World} (hx:RowOf w IsInt A n c xs) :
  Calls Try.prog 86 #[.slice A n c] w fun e w'=>e=.returned (.int .i64 (orI xs))∧w=w':=by
 have hns:=hx.small
 have HL:=Lib.hid hx.len
 go_enter Try.func86,Try.ntmps86
 go_wp2
 go_loop [5,8] (fun _ i=>∃ k:Nat,k≤n∧i=.int .i64 k∧Hid (((xs.take k).find? fun a=>a != 0)=none)) (fun _ i=>n-(intOf i).toNat)
 case atStart=>exact ⟨0,by omega,rfl,Lib.hid (by simp)⟩
 case round =>
  obtain ⟨k,hk,rfl,HT⟩:=hrel
  by_cases h1:k<n
  ·obtain ⟨b,o,x,rfl,hx1,hx2⟩:=hx.int_at h1
   have HX:=Lib.hid hx1
   clear hx1
   by_cases h2:x=0
   ·have d2:(x != 0)=false:=by simp [h2]
    have H2:=Lib.hid h2
    clear h2
    go_wp2
    go_round
    case rel=>exact ⟨k+1,by omega,by go_num,Lib.hid (by rw [take_step HX.out,List.find?_append,HT.out,H2.out];rfl)⟩
    case measure=>simp [intOf]<;>omega
   ·have d2:(x != 0)=true:=by simp [h2]
    go_wp2
    go_ret
    refine ⟨ret_int ?_,rfl⟩
    have hsp:=List.take_append_drop (k+1) xs
    unfold orI
    rw [← hsp,List.find?_append,take_step HX.out,List.find?_append,HT.out]
    simp [h2]
  ·go_wp2
   go_ret
   have ht:=HT.out
   rw [List.take_of_length_le (by rw [HL.out];omega)] at ht
   exact ⟨ret_int (by unfold orI;rw [ht];rfl),rfl⟩
theorem orI_cmp (xs ys:List Int):orI [cmpI xs.length ys.length,lexI xs ys]=cmpW xs ys:=by
 unfold orI cmpI cmpW
 by_cases h1:xs.length<ys.length
 ·rw [if_pos (by omega),if_pos h1];rfl
 ·by_cases h2:ys.length<xs.length
  ·rw [if_neg (by omega),if_pos (by omega),if_neg h1,if_pos h2];rfl
  ·rw [if_neg (by omega),if_neg (by omega),if_neg h1,if_neg h2]
   by_cases h3:lexI xs ys=0
   ·simp [h3]
   ·simp [h3]
theorem src_two {w:World} (x y:Value) (t:TypeId):Src (w.alloc (.cells #[x,y] t)) (some ⟨w.heap.size,0,none⟩) 2 [x,y] :=
 ⟨rfl,fun _=>⟨_,_,rfl,fun j u hu=>by
  have:=cell_two_new w x y t j u hu
  rwa [addr_add] at this⟩⟩
theorem ints_row {w:World} (x y:Int) (t:TypeId):RowOf (w.alloc (.cells #[.int .i64 x,.int .i64 y] t)) IsInt (some ⟨w.heap.size,0,none⟩) 2 2 [x,y]:=by
 refine ⟨rfl,Nat.le_refl _,by omega,fun _=>⟨_,_,rfl,fun i z hz=>?_⟩⟩
 obtain ⟨_,hc⟩:=src_two (w:=w) (.int .i64 x) (.int .i64 y) t
 obtain ⟨b,o,e,hcc⟩:=hc (by omega)
 injection e with e
 injection e with e1 e2
 subst e1 e2
 match i,hz with
 | 0,hz =>
  simp at hz
  subst hz
  exact ⟨_,hcc 0 _ rfl,rfl⟩
 | 1,hz =>
  simp at hz
  subst hz
  exact ⟨_,hcc 1 _ rfl,rfl⟩
set_option maxHeartbeats 400000 in
theorem wordCompare_any {A B:Option Addr} {n c m c':Nat} {xs ys:List Int} {w:World} (hx:RowOf w IsInt A n c xs) (hy:RowOf w IsInt B m c' ys) :
  Calls Try.prog 66 #[.slice A n c,.slice B m c'] w fun e w'=>e=.returned (.int .i64 (cmpW xs ys))∧w.alloc (.cells #[.int .i64 (cmpI xs.length ys.length),.int .i64 (lexI xs ys)] 3)=w':=by
 have hn:=hx.small
 have hm:=hy.small
 have hc1:=Lib.hid (slicesCompare_any hx hy)
 have HE:=Lib.hid (orI_cmp xs ys)
 have h1:=hx.len
 have h2:=hy.len
 have HO:=Lib.hid (fun t=>cmpOr_any (ints_row (w:=w) (cmpI xs.length ys.length) (lexI xs ys) t))
 rw [h1,h2] at HE HO
 rw [h1,h2]
 clear h1 h2 hx hy
 go_enter Try.func66,Try.ntmps66
 go_wp2_with (first | (go_at_call 87;refine (cmpCompare_any _ _ _).mono ?_;rintro e w' ⟨rfl,rfl⟩) | (go_at_call 83;refine hc1.out.mono ?_;rintro e w' ⟨rfl,rfl⟩) | (go_at_call 86;refine (HO.out _).mono ?_;rintro e w' ⟨rfl,rfl⟩))
 go_ret
 exact ⟨ret_int HE.out,rfl⟩
end Go.Proofs.Ytkfaepfljlphoaa

/-
 DERIVED: THE SHELF's CONTRACTS AT THIS DUMP, IN PLAIN WORDS (tools/lay-plain.mjs out of 'YtkfaepfljlphoaaShelf0.lean', which tools/lay-shelf.mjs wrote): THE SAME DECLARATIONS UNDER THE SAME NAMES: 'import', 'namespace', 'open', 'def', 'theorem' AND NOTHING ELSE: no command of the shelf's: FOR A HAND-IN. Each laying: the table of numbers ('.._ren') and one theorem, a field a fact of the dump's own or the kernel's comparison; each contract: ONE APPLICATION.
-/
namespace Go.Proofs
open Go.Shelf
def Try.sortW_ren:Go.Shelf.Ren:=⟨fun | 6=>80 | 15=>97 | 14=>96 | 28=>108 | 29=>109 | 20=>100 | 21=>101 | 22=>102 | 23=>103 | 24=>104 | 25=>105 | 26=>106 | 27=>107 | 46=>110 | 47=>111 | 48=>112 | 49=>113 | 50=>114 | 57=>115 | n=>n,fun | 22=>22 | 24=>26 | 25=>77 | 3=>3 | 39=>132 | 0=>0 | 53=>142 | 55=>144 | 4=>4 | 46=>135 | 45=>134 | 50=>139 | 5=>5 | 9=>9 | 66=>148 | 70=>152 | 76=>154 | 77=>102 | n=>n,fun | n=>n⟩
theorem Try.sortW:Go.Proofs.SlLaysF.n6 Try.prog Try.sortW_ren:={
 mixed:=by kernel_rfl
 f6:=⟨Try.f80.name,by decide,Try.func80.trans (congrArg some (by kernel_rfl))⟩
 f14:=⟨Try.f96.name,by decide,Try.func96.trans (congrArg some (by kernel_rfl))⟩
 f15:=Try.func97.trans (congrArg some (by kernel_rfl))
 f20:=⟨Try.f100.name,by decide,Try.func100.trans (congrArg some (by kernel_rfl))⟩
 f21:=⟨Try.f101.name,by decide,Try.func101.trans (congrArg some (by kernel_rfl))⟩
 f22:=⟨Try.f102.name,by decide,Try.func102.trans (congrArg some (by kernel_rfl))⟩
 f23:=⟨Try.f103.name,by decide,Try.func103.trans (congrArg some (by kernel_rfl))⟩
 f24:=⟨Try.f104.name,by decide,Try.func104.trans (congrArg some (by kernel_rfl))⟩
 f25:=⟨Try.f105.name,by decide,Try.func105.trans (congrArg some (by kernel_rfl))⟩
 f26:=⟨Try.f106.name,by decide,Try.func106.trans (congrArg some (by kernel_rfl))⟩
 f27:=⟨Try.f107.name,by decide,Try.func107.trans (congrArg some (by kernel_rfl))⟩
 f28:=Try.func108.trans (congrArg some (by kernel_rfl))
 f29:=Try.func109.trans (congrArg some (by kernel_rfl))
 f46:=⟨Try.f110.name,by decide,Try.func110.trans (congrArg some (by kernel_rfl))⟩
 f47:=Try.func111.trans (congrArg some (by kernel_rfl))
 f48:=Try.func112.trans (congrArg some (by kernel_rfl))
 f49:=⟨Try.f113.name,by decide,Try.func113.trans (congrArg some (by kernel_rfl))⟩
 f50:=⟨Try.f114.name,by decide,Try.func114.trans (congrArg some (by kernel_rfl))⟩
 f57:=⟨Try.f115.name,by decide,Try.func115.trans (congrArg some (by kernel_rfl))⟩
 t0:=Try.underlying0
 a0:=Try.isAgg0
 z0:=Try.sizeOf0
 v0:=Try.zeroValue0
 t3:=Try.underlying3
 a3:=Try.isAgg3
 z3:=Try.sizeOf3
 v3:=Try.zeroValue3
 t4:=Try.underlying4
 a4:=Try.isAgg4
 z4:=Try.sizeOf4
 v4:=Try.zeroValue4
 t5:=Try.underlying5
 a5:=Try.isAgg5
 z5:=Try.sizeOf5
 v5:=Try.zeroValue5
 t9:=Try.underlying9
 a9:=Try.isAgg9
 z9:=Try.sizeOf9
 v9:=Try.zeroValue9
 t22:=Try.underlying22
 a22:=Try.isAgg22
 z22:=Try.sizeOf22
 v22:=Try.zeroValue22
 a24:=Try.isAgg26
 z24:=Try.sizeOf26
 t25:=Try.underlying77
 a25:=Try.isAgg77
 z25:=Try.sizeOf77
 v25:=Try.zeroValue77
 t39:=Try.underlying132
 a39:=Try.isAgg132
 z39:=Try.sizeOf132
 v39:=Try.zeroValue132
 t45:=Try.underlying134
 a45:=Try.isAgg134
 z45:=Try.sizeOf134
 v45:=Try.zeroValue134
 t46:=Try.underlying135
 a46:=Try.isAgg135
 z46:=Try.sizeOf135
 v46:=Try.zeroValue135
 t50:=Try.underlying139
 a50:=Try.isAgg139
 z50:=Try.sizeOf139
 v50:=Try.zeroValue139
 t53:=Try.underlying142
 a53:=Try.isAgg142
 z53:=Try.sizeOf142
 v53:=Try.zeroValue142
 t55:=Try.underlying144
 a55:=Try.isAgg144
 z55:=Try.sizeOf144
 v55:=Try.zeroValue144
 t66:=Try.underlying148
 a66:=Try.isAgg148
 z66:=Try.sizeOf148
 v66:=Try.zeroValue148
 t70:=Try.underlying152
 a70:=Try.isAgg152
 z70:=Try.sizeOf152
 v70:=Try.zeroValue152
 t76:=Try.underlying154
 a76:=Try.isAgg154
 z76:=Try.sizeOf154
 v76:=Try.zeroValue154
 t77:=Try.underlying102
 a77:=Try.isAgg102
 z77:=Try.sizeOf102
 v77:=Try.zeroValue102 }
end Go.Proofs

/-
 The sort at this program's types, and the comparisons that it is handed.
-/
namespace Go.Proofs.Ytkfaepfljlphoaa.Sym
open Go.RowKit Go.Sort
set_option maxRecDepth 100000
theorem putRow_map {E:Type} [Inhabited E] (enc:E→Value) (w:World) (blk off:Nat) (d:Array E):putRow enc w blk off d=putRow id w blk off (d.map enc):=by
 unfold putRow
 congr 1
 funext c
 unfold putCells
 congr 1
 funext k x
 rw [Array.size_map]
 by_cases h:off≤k∧k<off+d.size
 ·have h1:k-off<d.size:=by omega
  rw [if_pos h,if_pos h,getElem!_pos d _ h1,getElem!_pos (d.map enc) _ (by simpa using h1)]
  simp
 ·rw [if_neg h,if_neg h]
theorem holds_map {E:Type} [Inhabited E] {enc:E→Value} {w:World} {blk off:Nat} {d:Array E} (h:Go.Sort.Holds id w blk off (d.map enc)):Go.Sort.Holds enc w blk off d:=fun j hj=>by
 have:=h j (by simpa using hj)
 rw [getElem!_pos (d.map enc) _ (by simpa using hj)] at this
 rw [getElem!_pos d _ hj]
 simpa using this
def one1 (us:List Value):Value:=us.headD undef
theorem flat_one1 {E:Type} [Inhabited E] {enc:E→List Value} (hk:∀ x,(enc x).length=1) (d:Array E):Go.Sort.flatK enc 1 d=d.map fun x=>one1 (enc x):=by
 rw [flatK_list hk]
 have:(d.toList.map enc).flatten=d.toList.map fun x=>one1 (enc x):=by
  generalize d.toList=l
  induction l with
  | nil=>rfl
  | cons x l ih =>
   rw [List.map_cons,List.flatten_cons,ih,List.map_cons]
   have:=hk x
   match h:enc x,this with
   | [v],_=>rfl
 rw [this]
 apply Array.ext'
 simp
theorem sortC_words:SortC Try.prog 80 1 one1:=by
 refine ⟨fun p cap fv w=>AnyF.slices_SortFunc_none { Try.sortW with } p cap fv w,?_⟩
 intro E _ enc cf g blk cap d w hk h1 hO eg hcmp hH hblk hsz
 have e1:∀ m (dk:Array E),putRow (fun x=>one1 (enc x)) (Sort.ahead w m) blk 0 dk=putRow id (Sort.ahead w m) blk 0 (Go.Sort.flatK enc 1 dk):=fun m dk=>by rw [flat_one1 hk,putRow_map]
 have hone:OneCell fun x=>one1 (enc x):=fun x=>by
  have h2:=hk x
  have h3:=h1 x
  match h:enc x,h2 with
  | [v],_ =>
   show (one1 (enc x)).oneCell'=true
   rw [h] at h3 ⊢
   exact h3 v (by simp)
 refine (Any.slices_SortFunc Try.sortW (fun x=>one1 (enc x)) hone cf hO g #[] blk 0 cap d w eg (fun m os dk hs x y=>?_) (holds_map (by rw [← flat_one1 hk];exact hH)) hblk hsz).mono ?_
 ·have:=hcmp m os dk hs x y
  unfold sortWorld
  rw [e1]
  simpa using this
 ·rintro e w' ⟨he,d',n,os,hp,hs,hw⟩
  exact ⟨he,d',n,os,hp,hs,by rw [hw];unfold sortWorld;rw [e1]⟩
theorem cmpG_lex {f:List Int→List Int→Option Int} (hf:∀ x y r,x.length≤17592186044416→f x y=some r→r=lexI x y):CmpG Try.prog 60 (nL cI) f:=by
 intro W S u u' x y r h hu hu'
 obtain ⟨A,n,c,rfl,h1⟩:=rowOf_ints hu
 have:=hf x y r (by rw [h1.len];exact h1.small) h
 subst this
 obtain ⟨B,m,c',rfl,h2⟩:=rowOf_ints hu'
 refine (wordLex_any h1 h2).mono fun e w' ⟨he,hw⟩=>⟨he,0,#[],?_⟩
 rw [← hw,Sort.grow_empty]
 rfl
theorem cmpG_compare {f:List Int→List Int→Option Int} (hf:∀ x y r,x.length≤17592186044416→f x y=some r→r=cmpW x y):CmpG Try.prog 66 (nL cI) f:=by
 intro W S u u' x y r h hu hu'
 obtain ⟨A,n,c,rfl,h1⟩:=rowOf_ints hu
 have:=hf x y r (by rw [h1.len];exact h1.small) h
 subst this
 obtain ⟨B,m,c',rfl,h2⟩:=rowOf_ints hu'
 refine (wordCompare_any h1 h2).mono fun e w' ⟨he,hw⟩=>⟨he,0,#[.cells #[.int .i64 (cmpI x.length y.length),.int .i64 (lexI x y)] 3],?_⟩
 rw [← hw,Sort.alloc_eq_grow]
 rfl
theorem rep_of_one {W:World} {S:Nat→Prop} {us:List Value} {x:IV} (hl:us.length=1) (hr:RepIs W S us [x]):RepI W S (one1 us) x:=by
 match us,hl with
 | [u],_=>exact hr.2 0 u x rfl rfl
def CmpE {T:Type} (P:Program) (g:FuncId) (X:T→IV) (f:T→T→Option Int):Prop:=(∀ args w,(callFunc g args).run P w=.ok (.enter g args) w)∧CmpG P g X f
end Go.Proofs.Ytkfaepfljlphoaa.Sym

namespace Go.Proofs.Ytkfaepfljlphoaa.Sym
open Go.RowKit
set_option maxRecDepth 100000
set_option linter.unusedVariables false
set_option maxHeartbeats 4000000
def libClone {α:Type} (by_:Nat) (l:List α):Option (List α):=chk (capOk l.length by_) (some l)
def lib_Clone_int (l:List Int):Option (List Int):=libClone 8 l
theorem sp_lib_Clone_int (l r:List Int) (h:lib_Clone_int l=some r):Sp Try.prog 74 [.im (nL cI l)] (.row 3 1 (List.map cI r)):=by
 obtain ⟨h1,h⟩:=chk_some h
 injection h with h
 subst h
 exact sp_of_clone (by_:=8) (fun args w=>run_enter rfl rfl rfl args w) (by decide) clone_int (fun e he=>by obtain ⟨y,_,rfl⟩:=List.mem_map.1 he;rfl) (by rw [List.length_map];exact h1)
def lib_Clone_words (l:List (List Int)):Option (List (List Int)):=libClone 24 l
theorem sp_lib_Clone_words (l r:List (List Int)) (h:lib_Clone_words l=some r):Sp Try.prog 79 [.im (nL (cL cI) l)] (.row 26 1 (List.map (cL cI) r)):=by
 obtain ⟨h1,h⟩:=chk_some h
 injection h with h
 subst h
 exact sp_of_clone (by_:=24) (fun args w=>run_enter rfl rfl rfl args w) (by decide) clone_words (fun e he=>by obtain ⟨y,_,rfl⟩:=List.mem_map.1 he;rfl) (by rw [List.length_map];exact h1)
def lib_SortFunc_words (l:List (List Int)) (f:(List Int)→(List Int)→Option Int):Option (List (List Int)):=libSort l f
theorem sp_lib_SortFunc_words (l:List (List Int)) (f:(List Int)→(List Int)→Option Int) (g:FuncId) (hd:CmpE Try.prog g (fun x=>nL cI x) f) (r:List (List Int)) (h:lib_SortFunc_words l f=some r):Sp Try.prog 80 [.lent (.row 26 1 (List.map (cL cI) l)),.im (.fn g [])] (.mk true [] [.lent (.row 26 1 (List.map (cL cI) r))]) :=
 sp_of_sort (fun args w=>run_enter rfl rfl rfl args w) sortC_words (by decide) (fun _=>rfl) (fun W S us x hl h1 hr=>rep_of_one hl hr) hd.1 hd.2 h
end Go.Proofs.Ytkfaepfljlphoaa.Sym

namespace Go.Proofs.Ytkfaepfljlphoaa.Sym
open Go.RowKit
set_option maxRecDepth 100000
set_option linter.unusedVariables false
set_option maxHeartbeats 4000000
def word_permitted (inputs_:Int):Option (Bool) :=
 (cond (decide (1≤inputs_)) (some (decide (inputs_≤1024))) (some false):Option (Bool)).bind (fun (y54:Bool)=>some y54)
def word_Check_1 (a_:Int) (p1_:Int):Option (Bool) :=
 (cond (decide (a_<0)) (some true) (some (decide (p1_≤a_))):Option (Bool)).bind (fun (y54:Bool)=>some y54)
def slices_IndexFunc_Sint_int_n1.s2 (s_:List Int) (f_:Int→Option Bool) (y71:Nat):Option (Nat⊕(Unit⊕Int)) :=
 cond (decide ((↑y71:Int)<(↑(List.length s_):Int))) (idxn s_ y71 fun e78=>(f_ e78).bind fun c79=>cond (c79) (some (.inr (.inr (↑y71:Int)))) (some (.inl (y71+1)))) (some (.inr (.inl ())))
def slices_IndexFunc_Sint_int_n1 (s_:List Int) (f_:Int→Option Bool):Option (Int) :=
 (iter (fun (s:Nat)=>slices_IndexFunc_Sint_int_n1.s2 s_ f_ s) fuel 0:Option (Unit⊕Int)).bind (Sum.elim (fun (_:Unit)=>some (-1:Int)) some)
def slices_ContainsFunc_Sint_int_n1 (s_:List Int) (f_:Int→Option Bool):Option (Bool) :=
 (slices_IndexFunc_Sint_int_n1 s_ f_).bind fun c51=>some (decide (0≤c51))
def word_Check (w_:List Int) (inputs_:Int):Option (Int) :=
 (word_permitted inputs_).bind fun c51=>cond ((!c51)) (some 2) (cond (decide (1024<(↑(List.length w_):Int))) (some 3) ((slices_ContainsFunc_Sint_int_n1 w_ (fun u0=>word_Check_1 u0 inputs_)).bind fun c54=>cond (c54) (some 1) (some 0)))
def mealy_machine_move (m_:T_mealy_machine) (s_:Int) (a_:Int):Option (Int×Int) :=
 idx m_.Mealy.Next s_ fun e51=>idx e51 a_ fun e52=>idx m_.Mealy.Out s_ fun e53=>idx e53 a_ fun e54=>some (e52,e54)
def mealy_runner_run.s2 (r_:T_mealy_runner) (w_:List Int) (y76:Int) (y77:List Int) (y78:Nat):Option ((Int×List Int×Nat)⊕(Int×List Int)) :=
 cond (decide ((↑y78:Int)<(↑(List.length w_):Int))) (idxn w_ y78 fun e85=>(mealy_machine_move r_.machine y76 e85).bind fun c86=>chk (capOk (List.length y77+1) 8) (some (.inl (c86.1,(y77++[c86.2]),(y78+1))))) (some (.inr (y76,y77)))
def mealy_runner_run.k3 (r_:T_mealy_runner) (y71:Int) (y72:List Int):Option (List Int×T_mealy_runner) :=
 some (y72,(⟨r_.machine,y71⟩:T_mealy_runner))
def mealy_runner_run (r_:T_mealy_runner) (w_:List Int):Option (List Int×T_mealy_runner) :=
 (iter (fun (s:Int×List Int×Nat)=>mealy_runner_run.s2 r_ w_ s.1 s.2.1 s.2.2) fuel (r_.at_,[],0):Option (Int×List Int)).bind (fun (s:Int×List Int)=>mealy_runner_run.k3 r_ s.1 s.2)
def mealy_Valid.s13 (m_:T_api_Mealy) (y509:Nat) (y697:Nat):Option (Nat⊕(Unit⊕(Nat⊕(Unit⊕Int)))) :=
 cond (decide ((↑y697:Int)<m_.Inputs)) (idxn m_.Next y509 fun e716=>idxn e716 y697 fun e717=>idxn m_.Out y509 fun e718=>idxn e718 y697 fun e719=>(cond (decide (e717<0)) (some true) (cond (decide ((↑(List.length m_.Next):Int)≤e717)) (some true) (cond (decide (e719<0)) (some true) (some (decide (1048576<e719))))):Option (Bool)).bind (fun (y725:Bool)=>cond (y725) (some (.inr (.inr (.inr (.inr 2))))) (chk (inR ((↑y697:Int)+1)) (some (.inl (y697+1)))))) (some (.inr (.inl ())))
def mealy_Valid.s14 (m_:T_api_Mealy) (y509:Nat):Option (Nat⊕(Unit⊕Int)) :=
 cond (decide ((↑y509:Int)<(↑(List.length m_.Next):Int))) ((idxn m_.Next y509 fun e628=>cond (decide ((↑(List.length e628):Int)≠m_.Inputs)) (some true) (idxn m_.Out y509 fun e630=>some (decide ((↑(List.length e630):Int)≠m_.Inputs))):Option (Bool)).bind (fun (y627:Bool)=>cond (y627) (some (.inr (.inr 1))) ((iter (fun (s:Nat)=>mealy_Valid.s13 m_ y509 s) fuel 0:Option (Unit⊕(Nat⊕(Unit⊕Int)))).bind (Sum.elim (fun (_:Unit)=>some (.inl (y509+1))) some)))) (some (.inr (.inl ())))
def mealy_Valid (m_:T_api_Mealy):Option (Int) :=
 (cond (decide (m_.Inputs<1)) (some true) (some (decide (64<m_.Inputs))):Option (Bool)).bind (fun (y54:Bool)=>cond (y54) (some 2) (cond (decide ((↑(List.length m_.Next):Int)=0)) (some 19) (cond (decide (128<(↑(List.length m_.Next):Int))) (some 11) ((cond (decide (m_.Start<0)) (some true) (some (decide ((↑(List.length m_.Next):Int)≤m_.Start))):Option (Bool)).bind (fun (y62:Bool)=>cond (y62) (some 2) (cond (decide ((↑(List.length m_.Out):Int)≠(↑(List.length m_.Next):Int))) (some 1) ((iter (fun (s:Nat)=>mealy_Valid.s14 m_ s) fuel 0:Option (Unit⊕Int)).bind (Sum.elim (fun (_:Unit)=>some 0) some))))))))
def mealy_state (m_:T_api_Mealy) (s_:Int):Option (Int) :=
 (mealy_Valid m_).bind fun c51=>cond (decide (c51≠0)) (some c51) ((cond (decide (s_<0)) (some true) (some (decide ((↑(List.length m_.Next):Int)≤s_))):Option (Bool)).bind (fun (y56:Bool)=>cond (y56) (some 2) (some 0)))
def mealy_From (m_:T_api_Mealy) (s_:Int) (w_:List Int):Option (List Int×Int×Int) :=
 (mealy_state m_ s_).bind fun c51=>cond (decide (c51≠0)) (some ([],0,c51)) ((word_Check w_ m_.Inputs).bind fun c53=>cond (decide (c53≠0)) (some ([],0,c53)) ((mealy_runner_run (⟨(⟨m_⟩:T_mealy_machine),s_⟩:T_mealy_runner) w_).bind fun c55=>some (c55.1,c55.2.at_,0)))
def slices_Concat_Sint_int.s2 (slices_:List (List Int)) (size73:Nat) (y74:Nat):Option ((Nat×Nat)⊕Nat) :=
 cond (decide ((↑y74:Int)<(↑(List.length slices_):Int))) (idxn slices_ y74 fun e81=>chk (inR ((↑size73:Int)+(↑(List.length e81):Int))) (cond (decide (((↑size73:Int)+(↑(List.length e81):Int))<0)) (none) (some (.inl ((size73+(List.length e81)),(y74+1)))))) (some (.inr size73))
def slices_Concat_Sint_int.s4 (slices_:List (List Int)) (y106:List Int) (y107:Nat):Option ((List Int×Nat)⊕List Int) :=
 cond (decide ((↑y107:Int)<(↑(List.length slices_):Int))) (idxn slices_ y107 fun e113=>chk (capOk (List.length y106+List.length e113) 8) (some (.inl ((y106++e113),(y107+1))))) (some (.inr y106))
def slices_Concat_Sint_int (slices_:List (List Int)):Option (List Int) :=
 (iter (fun (s:Nat×Nat)=>slices_Concat_Sint_int.s2 slices_ s.1 s.2) fuel (0,0):Option (Nat)).bind (fun (size68:Nat)=>(lib_Grow_int (↑size68:Int)).bind fun c86=>(iter (fun (s:List Int×Nat)=>slices_Concat_Sint_int.s4 slices_ s.1 s.2) fuel (c86,0):Option (List Int)).bind (fun (y102:List Int)=>some y102))
def word_Join (parts_:List (List Int)):Option (List Int) :=
 (slices_Concat_Sint_int parts_).bind fun c51=>some c51
def R06_row.s2 (m_:T_api_Mealy) (s_:Int) (a174:Nat):Option (Nat⊕(Unit⊕Int)) :=
 cond (decide ((↑a174:Int)<m_.Inputs)) ((idx m_.Next s_ fun e219=>idxn e219 a174 fun e220=>cond (decide (e220<0)) (some true) (idx m_.Next s_ fun e222=>idxn e222 a174 fun e223=>cond (decide ((↑(List.length m_.Next):Int)≤e223)) (some true) (idx m_.Out s_ fun e225=>idxn e225 a174 fun e226=>cond (decide (e226<0)) (some true) (idx m_.Out s_ fun e228=>idxn e228 a174 fun e229=>some (decide (1048576<e229))))):Option (Bool)).bind (fun (y218:Bool)=>cond (y218) (some (.inr (.inr 2))) (chk (inR ((↑a174:Int)+1)) (some (.inl (a174+1)))))) (some (.inr (.inl ())))
def R06_row (m_:T_api_Mealy) (s_:Int):Option (Int) :=
 (idx m_.Next s_ fun e57=>cond (decide ((↑(List.length e57):Int)≠m_.Inputs)) (some true) (idx m_.Out s_ fun e59=>some (decide ((↑(List.length e59):Int)≠m_.Inputs))):Option (Bool)).bind (fun (y56:Bool)=>cond (y56) (some 1) ((iter (fun (s:Nat)=>R06_row.s2 m_ s_ s) fuel 0:Option (Unit⊕Int)).bind (Sum.elim (fun (_:Unit)=>some 0) some)))
def R06_Valid.s2 (m_:T_api_Mealy) (s81:Nat):Option (Nat⊕(Unit⊕Int)) :=
 cond (decide ((↑s81:Int)<(↑(List.length m_.Next):Int))) ((R06_row m_ (↑s81:Int)).bind fun c87=>cond (decide (c87≠0)) (some (.inr (.inr c87))) (some (.inl (s81+1)))) (some (.inr (.inl ())))
def R06_Valid (m_:T_api_Mealy):Option (Int) :=
 (cond (decide (m_.Inputs<1)) (some true) (some (decide (64<m_.Inputs))):Option (Bool)).bind (fun (y54:Bool)=>cond (y54) (some 2) (cond (decide ((↑(List.length m_.Next):Int)=0)) (some 19) (cond (decide (128<(↑(List.length m_.Next):Int))) (some 11) ((cond (decide (m_.Start<0)) (some true) (some (decide ((↑(List.length m_.Next):Int)≤m_.Start))):Option (Bool)).bind (fun (y62:Bool)=>cond (y62) (some 2) (cond (decide ((↑(List.length m_.Out):Int)≠(↑(List.length m_.Next):Int))) (some 1) ((iter (fun (s:Nat)=>R06_Valid.s2 m_ s) fuel 0:Option (Unit⊕Int)).bind (Sum.elim (fun (_:Unit)=>some 0) some))))))))
def R10_Same.s13 (a_:List (List Int)) (b_:List (List Int)) (i301:Nat) (k403:Nat):Option (Nat⊕(Unit⊕(Nat⊕(Unit⊕Bool)))) :=
 idxn a_ i301 fun e413=>cond (decide ((↑k403:Int)<(↑(List.length e413):Int))) (idxn a_ i301 fun e415=>idxn e415 k403 fun e416=>idxn b_ i301 fun e417=>idxn e417 k403 fun e418=>cond (decide (e416≠e418)) (some (.inr (.inr (.inr (.inr false))))) (chk (inR ((↑k403:Int)+1)) (some (.inl (k403+1))))) (some (.inr (.inl ())))
def R10_Same.s14 (a_:List (List Int)) (b_:List (List Int)) (i301:Nat):Option (Nat⊕(Unit⊕Bool)) :=
 cond (decide ((↑i301:Int)<(↑(List.length a_):Int))) (idxn a_ i301 fun e365=>idxn b_ i301 fun e366=>cond (decide ((↑(List.length e365):Int)≠(↑(List.length e366):Int))) (some (.inr (.inr false))) ((iter (fun (s:Nat)=>R10_Same.s13 a_ b_ i301 s) fuel 0:Option (Unit⊕(Nat⊕(Unit⊕Bool)))).bind (Sum.elim (fun (_:Unit)=>some (.inl (i301+1))) some))) (some (.inr (.inl ())))
def R10_Same (a_:List (List Int)) (b_:List (List Int)):Option (Bool) :=
 cond (decide ((↑(List.length a_):Int)≠(↑(List.length b_):Int))) (some false) ((iter (fun (s:Nat)=>R10_Same.s14 a_ b_ s) fuel 0:Option (Unit⊕Bool)).bind (Sum.elim (fun (_:Unit)=>some true) some))
def L08_Great.s2 (m_:T_api_Mealy) (y74:Nat):Option (Nat⊕(Unit⊕Bool)) :=
 cond (decide ((↑y74:Int)<(↑(List.length m_.Next):Int))) (idxn m_.Next y74 fun e80=>cond (decide (12<(↑(List.length e80):Int))) (some (.inr (.inr true))) (some (.inl (y74+1)))) (some (.inr (.inl ())))
def L08_Great.s4 (m_:T_api_Mealy) (y97:Nat):Option (Nat⊕(Unit⊕Bool)) :=
 cond (decide ((↑y97:Int)<(↑(List.length m_.Out):Int))) (idxn m_.Out y97 fun e103=>cond (decide (12<(↑(List.length e103):Int))) (some (.inr (.inr true))) (some (.inl (y97+1)))) (some (.inr (.inl ())))
def L08_Great (m_:T_api_Mealy):Option (Bool) :=
 (cond (decide (12<(↑(List.length m_.Next):Int))) (some true) (cond (decide (12<(↑(List.length m_.Out):Int))) (some true) (some (decide (6<m_.Inputs)))):Option (Bool)).bind (fun (y55:Bool)=>cond (y55) (some true) ((iter (fun (s:Nat)=>L08_Great.s2 m_ s) fuel 0:Option (Unit⊕Bool)).bind (Sum.elim (fun (_:Unit)=>(iter (fun (s:Nat)=>L08_Great.s4 m_ s) fuel 0:Option (Unit⊕Bool)).bind (Sum.elim (fun (_:Unit)=>some false) some)) some)))
def L11_Small (m_:T_api_Mealy):Option (Bool) :=
 ((L08_Great m_).bind fun c57=>cond ((!c57)) (cond (decide ((↑(List.length m_.Next):Int)≤8)) (some (decide (m_.Inputs≤4))) (some false)) (some false):Option (Bool)).bind (fun (y56:Bool)=>some y56)
def wordset_ordered_1 (a_:List Int) (b_:List Int) (p2_:(List Int)→(List Int)→Option Int):Option (Bool) :=
 (p2_ a_ b_).bind fun c51=>some (decide (c51=0))
def slices_CompactFunc_SSint_Sint_n1.s18 (eq_:(List Int)→(List Int)→Option Bool) (k356:Nat) (y481:List (List Int)) (k482:Nat) (y483:Nat):Option ((List (List Int)×Nat×Nat)⊕(List (List Int)×Nat)) :=
 cond (decide ((↑y483:Int)<(↑(List.length y481-k356):Int))) (idxn y481 (k356+y483) fun e495=>chk ((0:Int)≤((↑y483:Int)-1)) (idxn y481 (k356+(Int.toNat ((↑y483:Int)-1))) fun e496=>(eq_ e495 e496).bind fun c498=>cond ((!c498)) (idxn y481 (k356+y483) fun e500=>idxn y481 k482 fun e501=>chk (inR ((↑k482:Int)+1)) (some (.inl ((List.set y481 k482 e500),(k482+1),(y483+1))))) (some (.inl (y481,k482,(y483+1)))))) (some (.inr (y481,k482)))
def slices_CompactFunc_SSint_Sint_n1.k19 (y471:List (List Int)) (k472:Nat):Option (Nat⊕(Unit⊕List (List Int))) :=
 chk ((0:Int)≤(↑k472:Int)∧(↑k472:Int)≤(↑(List.length y471):Int)∧0<List.length y471) (chk (k472≤List.length y471) (chk ((0:Int)≤(↑k472:Int)∧(↑k472:Int)≤(↑(List.length (List.take k472 y471++List.replicate (List.length y471-k472) [])):Int)∧0<List.length (List.take k472 y471++List.replicate (List.length y471-k472) [])) (some (.inr (.inr (List.take k472 (List.take k472 y471++List.replicate (List.length y471-k472) [])))))))
def slices_CompactFunc_SSint_Sint_n1.s20 (s_:List (List Int)) (eq_:(List Int)→(List Int)→Option Bool) (k356:Nat):Option (Nat⊕(Unit⊕List (List Int))) :=
 cond (decide ((↑k356:Int)<(↑(List.length s_):Int))) (idxn s_ k356 fun e434=>idx s_ ((↑k356:Int)-1) fun e435=>(eq_ e434 e435).bind fun c436=>cond (c436) (chk ((0:Int)≤(↑k356:Int)∧(↑k356:Int)≤(↑(List.length s_):Int)∧0<List.length s_) ((iter (fun (s:List (List Int)×Nat×Nat)=>slices_CompactFunc_SSint_Sint_n1.s18 eq_ k356 s.1 s.2.1 s.2.2) fuel (s_,k356,1):Option (List (List Int)×Nat)).bind (fun (s:List (List Int)×Nat)=>slices_CompactFunc_SSint_Sint_n1.k19 s.1 s.2))) (some (.inl (k356+1)))) (some (.inr (.inl ())))
def slices_CompactFunc_SSint_Sint_n1 (s_:List (List Int)) (eq_:(List Int)→(List Int)→Option Bool):Option (List (List Int)) :=
 cond (decide ((↑(List.length s_):Int)<2)) (some s_) ((iter (fun (s:Nat)=>slices_CompactFunc_SSint_Sint_n1.s20 s_ eq_ s) fuel 1:Option (Unit⊕List (List Int))).bind (Sum.elim (fun (_:Unit)=>some s_) some))
def wordset_ordered.s2 (c53:List (List Int)) (y78:List (List Int)) (y79:Nat):Option ((List (List Int)×Nat)⊕List (List Int)) :=
 cond (decide ((↑y79:Int)<(↑(List.length c53):Int))) (idxn y78 y79 fun e87=>(lib_Clone_int e87).bind fun c88=>idxn y78 y79 fun e89=>chk (inR ((↑y79:Int)+1)) (some (.inl ((List.set y78 y79 c88),(y79+1))))) (some (.inr y78))
def wordset_ordered (l_:List (List Int)) (order_:(List Int)→(List Int)→Option Int):Option (List (List Int)) :=
 (lib_Clone_words l_).bind fun c51=>(lib_SortFunc_words c51 order_).bind fun c52=>(slices_CompactFunc_SSint_Sint_n1 c52 (fun u0 u1=>wordset_ordered_1 u0 u1 order_)).bind fun c53=>(iter (fun (s:List (List Int)×Nat)=>wordset_ordered.s2 c53 s.1 s.2) fuel (c53,0):Option (List (List Int))).bind (fun (y73:List (List Int))=>some y73)
def word_Common.s2 (a_:List Int) (b_:List Int) (y72:Nat):Option (Nat⊕(Unit⊕Int)) :=
 cond (decide ((↑y72:Int)<(min (↑(List.length a_):Int) (↑(List.length b_):Int)))) (idxn a_ y72 fun e79=>idxn b_ y72 fun e80=>cond (decide (e79≠e80)) (some (.inr (.inr (↑y72:Int)))) (some (.inl (y72+1)))) (some (.inr (.inl ())))
def word_Common (a_:List Int) (b_:List Int):Option (Int) :=
 (iter (fun (s:Nat)=>word_Common.s2 a_ b_ s) fuel 0:Option (Unit⊕Int)).bind (Sum.elim (fun (_:Unit)=>some (min (↑(List.length a_):Int) (↑(List.length b_):Int))) some)
def word_HasPrefix (w_:List Int) (p_:List Int):Option (Bool) :=
 (word_Common w_ p_).bind fun c51=>some (decide (c51=(↑(List.length p_):Int)))
def cmp_isNaN_int (x_:Int):Option (Bool) :=
 some (decide (x_≠x_))
def cmp_Compare_int (x_:Int) (y_:Int):Option (Int) :=
 (cmp_isNaN_int x_).bind fun c51=>(cmp_isNaN_int y_).bind fun c52=>cond (c51) (cond (c52) (some 0) (some (-1:Int))) (cond (c52) (some 1) (cond (decide (x_<y_)) (some (-1:Int)) (cond (decide (y_<x_)) (some 1) (some 0))))
def slices_Compare_Sint_int.s2 (s1_:List Int) (s2_:List Int) (y80:Nat):Option (Nat⊕(Unit⊕Int)) :=
 cond (decide ((↑y80:Int)<(↑(List.length s1_):Int))) (idxn s1_ y80 fun e89=>cond (decide ((↑(List.length s2_):Int)≤(↑y80:Int))) (some (.inr (.inr 1))) (idxn s2_ y80 fun e91=>(cmp_Compare_int e89 e91).bind fun c92=>cond (decide (c92≠0)) (some (.inr (.inr c92))) (some (.inl (y80+1))))) (some (.inr (.inl ())))
def slices_Compare_Sint_int (s1_:List Int) (s2_:List Int):Option (Int) :=
 (iter (fun (s:Nat)=>slices_Compare_Sint_int.s2 s1_ s2_ s) fuel 0:Option (Unit⊕Int)).bind (Sum.elim (fun (_:Unit)=>cond (decide ((↑(List.length s1_):Int)<(↑(List.length s2_):Int))) (some (-1:Int)) (some 0)) some)
def cmp_Or_int.s2 (vals_:List Int) (y67:Nat):Option (Nat⊕(Unit⊕Int)) :=
 cond (decide ((↑y67:Int)<(↑(List.length vals_):Int))) (idxn vals_ y67 fun e73=>cond (decide (e73≠0)) (some (.inr (.inr e73))) (some (.inl (y67+1)))) (some (.inr (.inl ())))
def cmp_Or_int (vals_:List Int):Option (Int) :=
 (iter (fun (s:Nat)=>cmp_Or_int.s2 vals_ s) fuel 0:Option (Unit⊕Int)).bind (Sum.elim (fun (_:Unit)=>some 0) some)
def word_Compare (a_:List Int) (b_:List Int):Option (Int) :=
 (cmp_Compare_int (↑(List.length a_):Int) (↑(List.length b_):Int)).bind fun c51=>(slices_Compare_Sint_int a_ b_).bind fun c52=>(cmp_Or_int [c51,c52]).bind fun c53=>some c53
def wordset_Sorted (l_:List (List Int)):Option (List (List Int)) :=
 (wordset_ordered l_ (fun u0 u1=>word_Compare u0 u1)).bind fun c51=>some c51
def word_Lex (a_:List Int) (b_:List Int):Option (Int) :=
 (slices_Compare_Sint_int a_ b_).bind fun c51=>some c51
def wordset_Maximal.s2 (c51:List (List Int)) (y119:List (List Int)) (y120:Nat):Option ((List (List Int)×Nat)⊕List (List Int)) :=
 cond (decide ((↑y120:Int)<(↑(List.length c51):Int))) (idxn c51 y120 fun e139=>(cond (decide (((↑y120:Int)+1)=(↑(List.length c51):Int))) (some true) (idxn c51 (y120+1) fun e147=>(word_HasPrefix e147 e139).bind fun c148=>some (!c148)):Option (Bool)).bind (fun (y145:Bool)=>cond (y145) (chk (capOk (List.length y119+1) 24) (some (.inl ((y119++[e139]),(y120+1))))) (some (.inl (y119,(y120+1)))))) (some (.inr y119))
def wordset_Maximal (l_:List (List Int)):Option (List (List Int)) :=
 (wordset_ordered l_ (fun u0 u1=>word_Lex u0 u1)).bind fun c51=>(iter (fun (s:List (List Int)×Nat)=>wordset_Maximal.s2 c51 s.1 s.2) fuel ([],0):Option (List (List Int))).bind (fun (y104:List (List Int))=>(wordset_Sorted y104).bind fun c157=>some c157)
def mealy_Reach.s18 (e359:List Int) (y394:List Bool) (y395:List Int) (y396:Nat):Option ((List Bool×List Int×Nat)⊕(List Bool×List Int)) :=
 cond (decide ((↑y396:Int)<(↑(List.length e359):Int))) (idxn e359 y396 fun e405=>idx y394 e405 fun e406=>cond ((!e406)) (idx y394 e405 fun e408=>chk (capOk (List.length y395+1) 8) (some (.inl ((List.set y394 e405.toNat true),(y395++[e405]),(y396+1))))) (some (.inl (y394,y395,(y396+1))))) (some (.inr (y394,y395)))
def mealy_Reach.k19 (i297:Nat) (y386:List Bool) (y387:List Int):Option ((List Bool×List Int×Nat)⊕List Int) :=
 some (.inl (y386,y387,(i297+1)))
def mealy_Reach.s20 (m_:T_api_Mealy) (y295:List Bool) (y296:List Int) (i297:Nat):Option ((List Bool×List Int×Nat)⊕List Int) :=
 cond (decide ((↑i297:Int)<(↑(List.length y296):Int))) (idxn y296 i297 fun e358=>idx m_.Next e358 fun e359=>(iter (fun (s:List Bool×List Int×Nat)=>mealy_Reach.s18 e359 s.1 s.2.1 s.2.2) fuel (y295,y296,0):Option (List Bool×List Int)).bind (fun (s:List Bool×List Int)=>mealy_Reach.k19 i297 s.1 s.2)) (some (.inr y296))
def mealy_Reach (m_:T_api_Mealy):Option (List Int) :=
 (mealy_Valid m_).bind fun c51=>cond (decide (c51≠0)) (some []) (chk ((0:Int)≤(↑(List.length m_.Next):Int)∧(↑(List.length m_.Next):Int)≤(↑(List.length m_.Next):Int)∧capOk (Int.toNat (↑(List.length m_.Next):Int)) 1) (idx (List.replicate (List.length m_.Next) false) m_.Start fun e54=>(iter (fun (s:List Bool×List Int×Nat)=>mealy_Reach.s20 m_ s.1 s.2.1 s.2.2) fuel ((List.set (List.replicate (List.length m_.Next) false) m_.Start.toNat true),[m_.Start],0):Option (List Int)).bind (fun (y236:List Int)=>some y236)))
def mealy_Trim.s2 (c53:List Int) (y74:List Int) (y75:Nat):Option ((List Int×Nat)⊕List Int) :=
 cond (decide ((↑y75:Int)<(↑(List.length c53):Int))) (idxn c53 y75 fun e81=>idx y74 e81 fun e82=>some (.inl ((List.set y74 e81.toNat (↑y75:Int)),(y75+1)))) (some (.inr y74))
def mealy_Trim.s15 (y70:List Int) (e374:List Int) (y402:List Int) (y403:Nat):Option ((List Int×Nat)⊕List Int) :=
 cond (decide ((↑y403:Int)<(↑(List.length e374):Int))) (idxn e374 y403 fun e410=>idx y70 e410 fun e411=>idxn y402 y403 fun e412=>some (.inl ((List.set y402 y403 e411),(y403+1)))) (some (.inr y402))
def mealy_Trim.s16 (m_:T_api_Mealy) (c53:List Int) (y70:List Int) (y310:List (List Int)) (y311:List (List Int)) (y312:Nat):Option ((List (List Int)×List (List Int)×Nat)⊕(List (List Int)×List (List Int))) :=
 cond (decide ((↑y312:Int)<(↑(List.length c53):Int))) (idxn c53 y312 fun e372=>chk ((0:Int)≤m_.Inputs∧m_.Inputs≤m_.Inputs∧capOk (Int.toNat m_.Inputs) 8) (idx m_.Next e372 fun e374=>(iter (fun (s:List Int×Nat)=>mealy_Trim.s15 y70 e374 s.1 s.2) fuel ((List.replicate (Int.toNat m_.Inputs) 0),0):Option (List Int)).bind (fun (y397:List Int)=>chk (capOk (List.length y310+1) 24) (idx m_.Out e372 fun e425=>(lib_Clone_int e425).bind fun c426=>chk (capOk (List.length y311+1) 24) (some (.inl ((y310++[y397]),(y311++[c426]),(y312+1)))))))) (some (.inr (y310,y311)))
def mealy_Trim.k17 (m_:T_api_Mealy) (y259:List (List Int)) (y260:List (List Int)):Option (T_api_Mealy×Int) :=
 some ((⟨m_.Inputs,0,y259,y260⟩:T_api_Mealy),0)
def mealy_Trim (m_:T_api_Mealy):Option (T_api_Mealy×Int) :=
 (mealy_Valid m_).bind fun c51=>cond (decide (c51≠0)) (some ((⟨0,0,[],[]⟩:T_api_Mealy),c51)) ((mealy_Reach m_).bind fun c53=>chk ((0:Int)≤(↑(List.length m_.Next):Int)∧(↑(List.length m_.Next):Int)≤(↑(List.length m_.Next):Int)∧capOk (Int.toNat (↑(List.length m_.Next):Int)) 8) ((iter (fun (s:List Int×Nat)=>mealy_Trim.s2 c53 s.1 s.2) fuel ((List.replicate (List.length m_.Next) 0),0):Option (List Int)).bind (fun (y70:List Int)=>(iter (fun (s:List (List Int)×List (List Int)×Nat)=>mealy_Trim.s16 m_ c53 y70 s.1 s.2.1 s.2.2) fuel ([],[],0):Option (List (List Int)×List (List Int))).bind (fun (s:List (List Int)×List (List Int))=>mealy_Trim.k17 m_ s.1 s.2))))
def minimize_next.s18 (m_:T_api_Mealy) (class_:List Int) (y467:Nat) (y623:List Int) (y624:Nat):Option ((List Int×Nat)⊕List Int) :=
 cond (decide ((↑y624:Int)<m_.Inputs)) (idxn m_.Out y467 fun e639=>idxn e639 y624 fun e640=>chk ((↑y624:Int)<128) (idxn y623 y624 fun e641=>chk (inR (64+(↑y624:Int))) (idxn m_.Next y467 fun e644=>idxn e644 y624 fun e645=>idx class_ e645 fun e646=>chk ((64+(↑y624:Int))<128) (idxn (List.set y623 y624 e640) (64+y624) fun e647=>chk (inR ((↑y624:Int)+1)) (some (.inl ((List.set (List.set y623 y624 e640) (64+y624) e646),(y624+1)))))))) (some (.inr y623))
def minimize_next.k19 (y466:List Int) (y467:Nat) (y663:List (List Int×Int)) (n664:Int):Option (((List (List Int×Int))×List Int×Nat)⊕((List (List Int×Int))×List Int)) :=
 idxn y466 y467 fun e670=>some (.inl (y663,(List.set y466 y467 n664),(y467+1)))
def minimize_next.s20 (m_:T_api_Mealy) (class_:List Int) (y465:List (List Int×Int)) (y466:List Int) (y467:Nat):Option (((List (List Int×Int))×List Int×Nat)⊕((List (List Int×Int))×List Int)) :=
 cond (decide ((↑y467:Int)<(↑(List.length class_):Int))) ((iter (fun (s:List Int×Nat)=>minimize_next.s18 m_ class_ y467 s.1 s.2) fuel ((List.replicate 128 0),0):Option (List Int)).bind (fun (y612:List Int)=>chk (List.length y612=128) (chk (List.length y612=128∧∀ p∈y465,List.length p.1=128) ((cond ((!((mget y612 y465).isSome))) (chk (List.length y612=128) (chk (List.length y612=128∧∀ p∈y465,List.length p.1=128) (some ((mset y612 (↑(List.length y465):Int) y465),(↑(List.length y465):Int))))) (some (y465,((mget y612 y465).getD 0))):Option ((List (List Int×Int))×Int)).bind (fun (s:(List (List Int×Int))×Int)=>minimize_next.k19 y466 y467 s.1 s.2))))) (some (.inr (y465,y466)))
def minimize_next.k21 (y362:List (List Int×Int)) (y363:List Int):Option (List Int×Int) :=
 some (y363,(↑(List.length y362):Int))
def minimize_next (m_:T_api_Mealy) (class_:List Int):Option (List Int×Int) :=
 chk ((0:Int)≤(↑(List.length class_):Int)∧(↑(List.length class_):Int)≤(↑(List.length class_):Int)∧capOk (Int.toNat (↑(List.length class_):Int)) 8) ((iter (fun (s:(List (List Int×Int))×List Int×Nat)=>minimize_next.s20 m_ class_ s.1 s.2.1 s.2.2) fuel (([]:List (List Int×Int)),(List.replicate (List.length class_) 0),0):Option ((List (List Int×Int))×List Int)).bind (fun (s:(List (List Int×Int))×List Int)=>minimize_next.k21 s.1 s.2))
def minimize_refine.s2 (m_:T_api_Mealy) (k_:Int) (class71:List Int) (n72:Int) (y73:Nat):Option ((List Int×Int×Nat)⊕(List Int⊕(List Int×Int))) :=
 cond (decide ((↑y73:Int)<(min (max k_ 0) (↑(List.length m_.Next):Int)))) ((minimize_next m_ class71).bind fun c79=>cond (decide (c79.2=n72)) (some (.inr (.inr (class71,(↑y73:Int))))) (some (.inl (c79.1,c79.2,(y73+1))))) (some (.inr (.inl class71)))
def minimize_refine (m_:T_api_Mealy) (k_:Int):Option (List Int×Int) :=
 chk ((0:Int)≤(↑(List.length m_.Next):Int)∧(↑(List.length m_.Next):Int)≤(↑(List.length m_.Next):Int)∧capOk (Int.toNat (↑(List.length m_.Next):Int)) 8) ((iter (fun (s:List Int×Int×Nat)=>minimize_refine.s2 m_ k_ s.1 s.2.1 s.2.2) fuel ((List.replicate (List.length m_.Next) 0),1,0):Option (List Int⊕(List Int×Int))).bind (Sum.elim (fun (class67:List Int)=>some (class67,(min (max k_ 0) (↑(List.length m_.Next):Int)))) some))
def minimize_Partition (m_:T_api_Mealy) (k_:Int):Option (List Int×Int) :=
 (mealy_Valid m_).bind fun c51=>cond (decide (c51≠0)) (some ([],c51)) ((minimize_refine m_ k_).bind fun c53=>some (c53.1,0))
def minimize_Classes (m_:T_api_Mealy):Option (List Int×Int) :=
 (minimize_Partition m_ 128).bind fun c51=>some (c51.1,c51.2)
def minimize_Min.s30 (c53:List Int×Int) (e717:List Int) (y744:List Int) (y745:Nat):Option ((List Int×Nat)⊕List Int) :=
 cond (decide ((↑y745:Int)<(↑(List.length e717):Int))) (idxn e717 y745 fun e752=>idx c53.1 e752 fun e753=>chk (capOk (List.length y744+1) 8) (some (.inl ((y744++[e753]),(y745+1))))) (some (.inr y744))
def minimize_Min.k31 (y529:Nat) (y713:List (List Int)) (y714:List (List Int)):Option ((List (List Int)×List (List Int)×Nat)⊕(List (List Int)×List (List Int))) :=
 some (.inl (y713,y714,(y529+1)))
def minimize_Min.s32 (c51:T_api_Mealy×Int) (c53:List Int×Int) (y527:List (List Int)) (y528:List (List Int)) (y529:Nat):Option ((List (List Int)×List (List Int)×Nat)⊕(List (List Int)×List (List Int))) :=
 cond (decide ((↑y529:Int)<(↑(List.length c53.1):Int))) ((idxn c53.1 y529 fun e715=>cond (decide (e715<(↑(List.length y527):Int))) (some (y527,y528)) (idxn c51.1.Next y529 fun e717=>(iter (fun (s:List Int×Nat)=>minimize_Min.s30 c53 e717 s.1 s.2) fuel ([],0):Option (List Int)).bind (fun (y740:List Int)=>chk (capOk (List.length y527+1) 24) (idxn c51.1.Out y529 fun e769=>chk (capOk (List.length ([]:List Unit)+List.length e769) 8) (chk (capOk (List.length y528+1) 24) (some ((y527++[y740]),(y528++[([]++e769)]))))))):Option (List (List Int)×List (List Int))).bind (fun (s:List (List Int)×List (List Int))=>minimize_Min.k31 y529 s.1 s.2)) (some (.inr (y527,y528)))
def minimize_Min.k33 (c51:T_api_Mealy×Int) (y418:List (List Int)) (y419:List (List Int)):Option (T_api_Mealy×Int) :=
 some ((⟨c51.1.Inputs,0,y418,y419⟩:T_api_Mealy),0)
def minimize_Min (m_:T_api_Mealy):Option (T_api_Mealy×Int) :=
 (mealy_Trim m_).bind fun c51=>cond (decide (c51.2≠0)) (some ((⟨0,0,[],[]⟩:T_api_Mealy),c51.2)) ((minimize_Classes c51.1).bind fun c53=>cond (decide (c53.2≠0)) (some ((⟨0,0,[],[]⟩:T_api_Mealy),c53.2)) ((iter (fun (s:List (List Int)×List (List Int)×Nat)=>minimize_Min.s32 c51 c53 s.1 s.2.1 s.2.2) fuel ([],[],0):Option (List (List Int)×List (List Int))).bind (fun (s:List (List Int)×List (List Int))=>minimize_Min.k33 c51 s.1 s.2)))
def cover_places.s18 (i343:Nat) (e417:List Int) (y460:List Bool) (y461:List T_cover_place) (y462:Nat):Option ((List Bool×List T_cover_place×Nat)⊕(List Bool×List T_cover_place)) :=
 cond (decide ((↑y462:Int)<(↑(List.length e417):Int))) (idxn e417 y462 fun e473=>idx y460 e473 fun e474=>cond ((!e474)) (idx y460 e473 fun e476=>idxn y461 i343 fun e477=>(word_Join [e477.word,[(↑y462:Int)]]).bind fun c478=>chk (capOk (List.length y461+1) 32) (some (.inl ((List.set y460 e473.toNat true),(y461++[(⟨e473,c478⟩:T_cover_place)]),(y462+1))))) (some (.inl (y460,y461,(y462+1))))) (some (.inr (y460,y461)))
def cover_places.k19 (i343:Nat) (y450:List Bool) (y451:List T_cover_place):Option ((List Bool×List T_cover_place×Nat)⊕List T_cover_place) :=
 some (.inl (y450,y451,(i343+1)))
def cover_places.s20 (m_:T_api_Mealy) (y341:List Bool) (y342:List T_cover_place) (i343:Nat):Option ((List Bool×List T_cover_place×Nat)⊕List T_cover_place) :=
 cond (decide ((↑i343:Int)<(↑(List.length y342):Int))) (idxn y342 i343 fun e416=>idx m_.Next e416.state fun e417=>(iter (fun (s:List Bool×List T_cover_place×Nat)=>cover_places.s18 i343 e417 s.1 s.2.1 s.2.2) fuel (y341,y342,0):Option (List Bool×List T_cover_place)).bind (fun (s:List Bool×List T_cover_place)=>cover_places.k19 i343 s.1 s.2)) (some (.inr y342))
def cover_places (m_:T_api_Mealy) (from_:Int):Option (List T_cover_place) :=
 chk ((0:Int)≤(↑(List.length m_.Next):Int)∧(↑(List.length m_.Next):Int)≤(↑(List.length m_.Next):Int)∧capOk (Int.toNat (↑(List.length m_.Next):Int)) 1) (idx (List.replicate (List.length m_.Next) false) from_ fun e52=>(iter (fun (s:List Bool×List T_cover_place×Nat)=>cover_places.s20 m_ s.1 s.2.1 s.2.2) fuel ((List.set (List.replicate (List.length m_.Next) false) from_.toNat true),[(⟨from_,[]⟩:T_cover_place)],0):Option (List T_cover_place)).bind (fun (y270:List T_cover_place)=>some y270))
def cover_Access.s2 (c53:List T_cover_place) (y76:List Int) (y77:List (List Int)) (y78:Nat):Option ((List Int×List (List Int)×Nat)⊕(List Int×List (List Int))) :=
 cond (decide ((↑y78:Int)<(↑(List.length c53):Int))) (idxn c53 y78 fun e85=>chk (capOk (List.length y76+1) 8) (chk (capOk (List.length y77+1) 24) (some (.inl ((y76++[e85.state]),(y77++[e85.word]),(y78+1)))))) (some (.inr (y76,y77)))
def cover_Access.k3 (y72:List Int) (y73:List (List Int)):Option (List Int×List (List Int)×Int) :=
 some (y72,y73,0)
def cover_Access (m_:T_api_Mealy):Option (List Int×List (List Int)×Int) :=
 (mealy_Valid m_).bind fun c51=>cond (decide (c51≠0)) (some ([],[],c51)) ((cover_places m_ m_.Start).bind fun c53=>(iter (fun (s:List Int×List (List Int)×Nat)=>cover_Access.s2 c53 s.1 s.2.1 s.2.2) fuel ([],[],0):Option (List Int×List (List Int))).bind (fun (s:List Int×List (List Int))=>cover_Access.k3 s.1 s.2))
def cover_StateCover (m_:T_api_Mealy):Option (List (List Int)×Int) :=
 (cover_Access m_).bind fun c51=>some (c51.2.1,c51.2.2)
def word_Next.s2 (inputs_:Int) (y97:List Int) (i98:Int):Option ((List Int×Int)⊕(List Int⊕(List Int×Bool))) :=
 cond (decide (0≤i98)) (idx y97 i98 fun e110=>chk (inR (e110+1)) (cond (decide ((e110+1)<inputs_)) (idx y97 i98 fun e113=>chk (inR (e113+1)) (idx y97 i98 fun e115=>some (.inr (.inr ((List.set y97 i98.toNat (e113+1)),true))))) (idx y97 i98 fun e116=>chk (inR (i98-1)) (some (.inl ((List.set y97 i98.toNat 0),(i98-1))))))) (some (.inr (.inl y97)))
def word_Next (w_:List Int) (inputs_:Int):Option (List Int×Bool) :=
 (word_Check w_ inputs_).bind fun c51=>cond (decide (c51≠0)) (some ([],false)) ((lib_Clone_int w_).bind fun c53=>chk (inR ((↑(List.length c53):Int)-1)) ((iter (fun (s:List Int×Int)=>word_Next.s2 inputs_ s.1 s.2) fuel (c53,((↑(List.length c53):Int)-1)):Option (List Int⊕(List Int×Bool))).bind (Sum.elim (fun (y87:List Int)=>cond (decide ((↑(List.length y87):Int)=1024)) (some ([],false)) (chk (capOk (List.length y87+1) 8) (some ((y87++[0]),true)))) some)))
def wordset_Upto.s2 (inputs_:Int) (n_:Int) (y101:List (List Int)) (w102:List Int) (ok103:Bool):Option ((List (List Int)×List Int×Bool)⊕(List (List Int)⊕(List (List Int)×Int))) :=
 (cond (ok103) (some (decide ((↑(List.length w102):Int)≤n_))) (some false):Option (Bool)).bind (fun (y119:Bool)=>cond (y119) (cond (decide ((↑(List.length y101):Int)=10000)) (some (.inr (.inr ([],11)))) (chk (capOk (List.length y101+1) 24) ((word_Next w102 inputs_).bind fun c126=>some (.inl ((y101++[w102]),c126.1,c126.2))))) (some (.inr (.inl y101))))
def wordset_Upto (inputs_:Int) (n_:Int):Option (List (List Int)×Int) :=
 ((word_Check [] inputs_).bind fun c57=>cond (decide (c57≠0)) (some true) (cond (decide (n_<0)) (some true) (some (decide (1024<n_)))):Option (Bool)).bind (fun (y56:Bool)=>cond (y56) (some ([],2)) ((iter (fun (s:List (List Int)×List Int×Bool)=>wordset_Upto.s2 inputs_ n_ s.1 s.2.1 s.2.2) fuel ([],[],true):Option (List (List Int)⊕(List (List Int)×Int))).bind (Sum.elim (fun (y95:List (List Int))=>some (y95,0)) some)))
def minimize_Minimal (m_:T_api_Mealy):Option (Bool) :=
 ((mealy_Valid m_).bind fun c57=>cond (decide (c57≠0)) (some true) ((mealy_Reach m_).bind fun c59=>some (decide ((↑(List.length c59):Int)≠(↑(List.length m_.Next):Int)))):Option (Bool)).bind (fun (y56:Bool)=>cond (y56) (some false) ((minimize_Min m_).bind fun c61=>(cond (decide (c61.2=0)) (some (decide ((↑(List.length c61.1.Next):Int)=(↑(List.length m_.Next):Int)))) (some false):Option (Bool)).bind (fun (y65:Bool)=>some y65)))
def separate_check (m_:T_api_Mealy):Option (Int) :=
 (mealy_Valid m_).bind fun c51=>cond (decide (c51≠0)) (some c51) ((minimize_Minimal m_).bind fun c53=>cond ((!c53)) (some 1) (some 0))
def equiv_search.s2 (a_:T_api_Mealy) (b_:T_api_Mealy) (y72:List (List Bool)) (y73:Nat):Option ((List (List Bool)×Nat)⊕List (List Bool)) :=
 cond (decide ((↑y73:Int)<(↑(List.length (List.replicate (List.length a_.Next) ([]:List Bool))):Int))) (chk ((0:Int)≤(↑(List.length b_.Next):Int)∧(↑(List.length b_.Next):Int)≤(↑(List.length b_.Next):Int)∧capOk (Int.toNat (↑(List.length b_.Next):Int)) 1) (idxn y72 y73 fun e81=>chk (inR ((↑y73:Int)+1)) (some (.inl ((List.set y72 y73 (List.replicate (List.length b_.Next) false)),(y73+1)))))) (some (.inr y72))
def equiv_search.s20 (a_:T_api_Mealy) (b_:T_api_Mealy) (i900:Nat) (e1104:T_equiv_place) (y1234:List (List Bool)) (y1235:List T_equiv_place) (y1236:Nat):Option ((List (List Bool)×List T_equiv_place×Nat)⊕((List (List Bool)×List T_equiv_place)⊕((List (List Bool)×List T_equiv_place×Nat)⊕(Unit⊕(List Int×Bool))))) :=
 cond (decide ((↑y1236:Int)<a_.Inputs)) (idx a_.Out e1104.at_.s fun e1270=>idxn e1270 y1236 fun e1271=>idx b_.Out e1104.at_.t fun e1272=>idxn e1272 y1236 fun e1273=>cond (decide (e1271≠e1273)) (idxn y1235 i900 fun e1275=>(word_Join [e1275.word,[(↑y1236:Int)]]).bind fun c1276=>some (.inr (.inr (.inr (.inr (c1276,true)))))) (idx a_.Next e1104.at_.s fun e1277=>idxn e1277 y1236 fun e1278=>idx b_.Next e1104.at_.t fun e1279=>idxn e1279 y1236 fun e1280=>(cond ((!(decide (e1278=e1104.at_.s)&&(decide (e1280=e1104.at_.t)&&true)))) (idx y1234 e1278 fun e1288=>idx e1288 e1280 fun e1289=>some (!e1289)) (some false):Option (Bool)).bind (fun (y1286:Bool)=>cond (y1286) (idx y1234 e1278 fun e1293=>idx e1293 e1280 fun e1294=>idxn y1235 i900 fun e1295=>(word_Join [e1295.word,[(↑y1236:Int)]]).bind fun c1296=>chk (capOk (List.length y1235+1) 40) (chk (inR ((↑y1236:Int)+1)) (some (.inl ((List.set y1234 (Int.toNat e1278) (List.set e1293 (Int.toNat e1280) true)),(y1235++[(⟨(⟨e1278,e1280⟩:T_equiv_pair),c1296⟩:T_equiv_place)]),(y1236+1)))))) (chk (inR ((↑y1236:Int)+1)) (some (.inl (y1234,y1235,(y1236+1)))))))) (some (.inr (.inl (y1234,y1235))))
def equiv_search.k21 (i900:Nat) (y1203:List (List Bool)) (y1204:List T_equiv_place):Option ((List (List Bool)×List T_equiv_place×Nat)⊕(Unit⊕(List Int×Bool))) :=
 some (.inl (y1203,y1204,(i900+1)))
def equiv_search.s22 (a_:T_api_Mealy) (b_:T_api_Mealy) (y898:List (List Bool)) (y899:List T_equiv_place) (i900:Nat):Option ((List (List Bool)×List T_equiv_place×Nat)⊕(Unit⊕(List Int×Bool))) :=
 cond (decide ((↑i900:Int)<(↑(List.length y899):Int))) (idxn y899 i900 fun e1104=>(iter (fun (s:List (List Bool)×List T_equiv_place×Nat)=>equiv_search.s20 a_ b_ i900 e1104 s.1 s.2.1 s.2.2) fuel (y898,y899,0):Option ((List (List Bool)×List T_equiv_place)⊕((List (List Bool)×List T_equiv_place×Nat)⊕(Unit⊕(List Int×Bool))))).bind (Sum.elim (fun (s:List (List Bool)×List T_equiv_place)=>equiv_search.k21 i900 s.1 s.2) some)) (some (.inr (.inl ())))
def equiv_search (a_:T_api_Mealy) (b_:T_api_Mealy) (first_:T_equiv_pair):Option (List Int×Bool) :=
 chk ((0:Int)≤(↑(List.length a_.Next):Int)∧(↑(List.length a_.Next):Int)≤(↑(List.length a_.Next):Int)∧capOk (Int.toNat (↑(List.length a_.Next):Int)) 24) ((iter (fun (s:List (List Bool)×Nat)=>equiv_search.s2 a_ b_ s.1 s.2) fuel ((List.replicate (List.length a_.Next) ([]:List Bool)),0):Option (List (List Bool))).bind (fun (y68:List (List Bool))=>idx y68 first_.s fun e85=>idx e85 first_.t fun e86=>(iter (fun (s:List (List Bool)×List T_equiv_place×Nat)=>equiv_search.s22 a_ b_ s.1 s.2.1 s.2.2) fuel ((List.set y68 (Int.toNat first_.s) (List.set e85 (Int.toNat first_.t) true)),[(⟨first_,[]⟩:T_equiv_place)],0):Option (Unit⊕(List Int×Bool))).bind (Sum.elim (fun (_:Unit)=>some ([],false)) some)))
def equiv_States (m_:T_api_Mealy) (s_:Int) (t_:Int):Option (List Int×Bool×Int) :=
 (mealy_Valid m_).bind fun c51=>cond (decide (c51≠0)) (some ([],false,c51)) ((cond (decide (s_<0)) (some true) (cond (decide ((↑(List.length m_.Next):Int)≤s_)) (some true) (cond (decide (t_<0)) (some true) (some (decide ((↑(List.length m_.Next):Int)≤t_))))):Option (Bool)).bind (fun (y58:Bool)=>cond (y58) (some ([],false,2)) ((equiv_search m_ m_ (⟨s_,t_⟩:T_equiv_pair)).bind fun c63=>some (c63.1,c63.2,0))))
def mealy_Run (m_:T_api_Mealy) (w_:List Int):Option (List Int×Int) :=
 (mealy_From m_ m_.Start w_).bind fun c51=>some (c51.1,c51.2.2)
def wsuite_Passes.s2 (m_:T_api_Mealy) (words_:List (List Int)) (y76:Nat):Option (Nat⊕(Unit⊕(List Int×Bool×Int))) :=
 cond (decide ((↑y76:Int)<(↑(List.length words_):Int))) (idxn words_ y76 fun e83=>(word_Check e83 m_.Inputs).bind fun c84=>cond (decide (c84≠0)) (some (.inr (.inr ([],false,c84)))) (some (.inl (y76+1)))) (some (.inr (.inl ())))
def wsuite_Passes.s4 (m_:T_api_Mealy) (impl_:T_api_Mealy) (words_:List (List Int)) (y136:Nat):Option (Nat⊕(Unit⊕(List Int×Bool×Int))) :=
 cond (decide ((↑y136:Int)<(↑(List.length words_):Int))) (idxn words_ y136 fun e150=>(mealy_Run m_ e150).bind fun c151=>cond (decide (c151.2≠0)) (some (.inr (.inr ([],false,c151.2)))) ((mealy_Run impl_ e150).bind fun c153=>cond (decide (c153.2≠0)) (some (.inr (.inr ([],false,c153.2)))) ((word_Common c151.1 c153.1).bind fun c155=>cond (decide (c155<(↑(List.length e150):Int))) (chk (inR (c155+1)) (chk ((0:Int)≤(c155+1)∧(c155+1)≤(↑(List.length e150):Int)) ((word_Join [(List.take (Int.toNat (c155+1)) e150)]).bind fun c159=>some (.inr (.inr (c159,false,0)))))) (some (.inl (y136+1)))))) (some (.inr (.inl ())))
def wsuite_Passes (m_:T_api_Mealy) (impl_:T_api_Mealy) (words_:List (List Int)):Option (List Int×Bool×Int) :=
 (mealy_Valid m_).bind fun c51=>cond (decide (c51≠0)) (some ([],false,c51)) ((mealy_Valid impl_).bind fun c53=>cond (decide (c53≠0)) (some ([],false,c53)) (cond (decide (m_.Inputs≠impl_.Inputs)) (some ([],false,15)) ((iter (fun (s:Nat)=>wsuite_Passes.s2 m_ words_ s) fuel 0:Option (Unit⊕(List Int×Bool×Int))).bind (Sum.elim (fun (_:Unit)=>(iter (fun (s:Nat)=>wsuite_Passes.s4 m_ impl_ words_ s) fuel 0:Option (Unit⊕(List Int×Bool×Int))).bind (Sum.elim (fun (_:Unit)=>some ([],true,0)) some)) some))))
def R09_Check (a_:T_api_Mealy) (b_:T_api_Mealy):Option (Int) :=
 (R06_Valid a_).bind fun c51=>cond (decide (c51≠0)) (some c51) ((R06_Valid b_).bind fun c53=>cond (decide (c53≠0)) (some c53) (cond (decide (a_.Inputs≠b_.Inputs)) (some 15) (some 0)))
def R08_Equal.s2 (a_:List Int) (b_:List Int) (i73:Nat):Option (Nat⊕(Unit⊕Bool)) :=
 cond (decide ((↑i73:Int)<(↑(List.length a_):Int))) (idxn a_ i73 fun e80=>idxn b_ i73 fun e81=>cond (decide (e80≠e81)) (some (.inr (.inr false))) (some (.inl (i73+1)))) (some (.inr (.inl ())))
def R08_Equal (a_:List Int) (b_:List Int):Option (Bool) :=
 cond (decide ((↑(List.length a_):Int)≠(↑(List.length b_):Int))) (some false) ((iter (fun (s:Nat)=>R08_Equal.s2 a_ b_ s) fuel 0:Option (Unit⊕Bool)).bind (Sum.elim (fun (_:Unit)=>some true) some))
def separate_outs.s2 (m_:T_api_Mealy) (w_:List Int) (s88:Int) (y89:List Int) (y90:Nat):Option ((Int×List Int×Nat)⊕List Int) :=
 cond (decide ((↑y90:Int)<(↑(List.length w_):Int))) (idxn w_ y90 fun e100=>idx m_.Out s88 fun e101=>idx e101 e100 fun e102=>chk (capOk (List.length y89+1) 8) (idx m_.Next s88 fun e104=>idx e104 e100 fun e105=>some (.inl (e105,(y89++[e102]),(y90+1))))) (some (.inr y89))
def separate_outs (m_:T_api_Mealy) (s_:Int) (w_:List Int):Option (List Int) :=
 chk ((0:Int)≤0∧0≤(↑(List.length w_):Int)∧capOk (Int.toNat (↑(List.length w_):Int)) 8) ((iter (fun (s:Int×List Int×Nat)=>separate_outs.s2 m_ w_ s.1 s.2.1 s.2.2) fuel (s_,[],0):Option (List Int)).bind (fun (y80:List Int)=>some y80))
def slices_Equal_Sint_int.s2 (s1_:List Int) (s2_:List Int) (y73:Nat):Option (Nat⊕(Unit⊕Bool)) :=
 cond (decide ((↑y73:Int)<(↑(List.length s1_):Int))) (idxn s1_ y73 fun e80=>idxn s2_ y73 fun e81=>cond (decide (e80≠e81)) (some (.inr (.inr false))) (some (.inl (y73+1)))) (some (.inr (.inl ())))
def slices_Equal_Sint_int (s1_:List Int) (s2_:List Int):Option (Bool) :=
 cond (decide ((↑(List.length s1_):Int)≠(↑(List.length s2_):Int))) (some false) ((iter (fun (s:Nat)=>slices_Equal_Sint_int.s2 s1_ s2_ s) fuel 0:Option (Unit⊕Bool)).bind (Sum.elim (fun (_:Unit)=>some true) some))
def separate_separated_1 (w_:List Int) (p1_:T_api_Mealy) (p2_:Int) (p3_:Int):Option (Bool) :=
 (separate_outs p1_ p2_ w_).bind fun c51=>(separate_outs p1_ p3_ w_).bind fun c52=>(slices_Equal_Sint_int c51 c52).bind fun c53=>some (!c53)
def separate_some_Sint_n3.s2 (l_:List (List Int)) (has_:(List Int)→Option Bool) (y71:Nat):Option (Nat⊕(Unit⊕Bool)) :=
 cond (decide ((↑y71:Int)<(↑(List.length l_):Int))) (idxn l_ y71 fun e78=>(has_ e78).bind fun c79=>cond (c79) (some (.inr (.inr true))) (some (.inl (y71+1)))) (some (.inr (.inl ())))
def separate_some_Sint_n3 (l_:List (List Int)) (has_:(List Int)→Option Bool):Option (Bool) :=
 (iter (fun (s:Nat)=>separate_some_Sint_n3.s2 l_ has_ s) fuel 0:Option (Unit⊕Bool)).bind (Sum.elim (fun (_:Unit)=>some false) some)
def separate_separated (m_:T_api_Mealy) (words_:List (List Int)) (s_:Int) (t_:Int):Option (Bool) :=
 (separate_some_Sint_n3 words_ (fun u0=>separate_separated_1 u0 m_ s_ t_)).bind fun c51=>some c51
def separate_Charset.s13 (m_:T_api_Mealy) (y436:Nat) (y597:List (List Int)) (t598:Nat):Option ((List (List Int)×Nat)⊕(List (List Int)⊕((List (List Int)×Nat)⊕(List (List Int)⊕(List (List Int)×Int))))) :=
 cond (decide ((↑t598:Int)<(↑(List.length m_.Next):Int))) (((separate_separated m_ y597 (↑y436:Int) (↑t598:Int)).bind fun c622=>cond (c622) (some (.inl y597)) ((equiv_States m_ (↑y436:Int) (↑t598:Int)).bind fun c624=>cond (decide (c624.2.2≠0)) (some (.inr (.inr (.inr (.inr (.inr ([],c624.2.2))))))) (chk (capOk (List.length y597+1) 24) (some (.inl (y597++[c624.1]))))):Option (List (List Int)⊕((List (List Int)×Nat)⊕(List (List Int)⊕((List (List Int)×Nat)⊕(List (List Int)⊕(List (List Int)×Int))))))).bind (Sum.elim (fun (y621:List (List Int))=>some (.inl (y621,(t598+1)))) some)) (some (.inr (.inl y597)))
def separate_Charset.s14 (m_:T_api_Mealy) (y435:List (List Int)) (y436:Nat):Option ((List (List Int)×Nat)⊕(List (List Int)⊕(List (List Int)×Int))) :=
 cond (decide ((↑y436:Int)<(↑(List.length m_.Next):Int))) ((iter (fun (s:List (List Int)×Nat)=>separate_Charset.s13 m_ y436 s.1 s.2) fuel (y435,(y436+1)):Option (List (List Int)⊕((List (List Int)×Nat)⊕(List (List Int)⊕(List (List Int)×Int))))).bind (Sum.elim (fun (y582:List (List Int))=>some (.inl (y582,(y436+1)))) some)) (some (.inr (.inl y435)))
def separate_Charset (m_:T_api_Mealy):Option (List (List Int)×Int) :=
 (separate_check m_).bind fun c51=>cond (decide (c51≠0)) (some ([],c51)) ((iter (fun (s:List (List Int)×Nat)=>separate_Charset.s14 m_ s.1 s.2) fuel ([],0):Option (List (List Int)⊕(List (List Int)×Int))).bind (Sum.elim (fun (y342:List (List Int))=>(wordset_Sorted y342).bind fun c632=>some (c632,0)) some))
def wsuite_round (x_:List Int) (all_:List (List Int)):Option (List (List Int)) :=
 chk (capOk (List.length all_+1) 24) (some (all_++[x_]))
def wsuite_yield (x:List Int) (all:List (List Int)):Option (Bool×List (List Int)):=(wsuite_round x all).bind fun r=>some (true,r)
def wsuite_ranged.s84 (p3_:List (List Int)) (e1842:List Int) (e2136:List Int) (y2168:List (List Int)) (y2169:Nat):Option ((List (List Int)×Nat)⊕(List (List Int)⊕((List (List Int)×Nat)⊕(List (List Int)⊕((List (List Int)×Nat)⊕(List (List Int)⊕List (List Int))))))) :=
 cond (decide ((↑y2169:Int)<(↑(List.length p3_):Int))) (idxn p3_ y2169 fun e2177=>(word_Join [e1842,e2136,e2177]).bind fun c2178=>(wsuite_yield c2178 y2168).bind fun c2179=>cond ((!c2179.1)) (some (.inr (.inr (.inr (.inr (.inr (.inr c2179.2))))))) (some (.inl (c2179.2,(y2169+1))))) (some (.inr (.inl y2168)))
def wsuite_ranged.s85 (p2_:List (List Int)) (p3_:List (List Int)) (e1842:List Int) (y2076:List (List Int)) (y2077:Nat):Option ((List (List Int)×Nat)⊕(List (List Int)⊕((List (List Int)×Nat)⊕(List (List Int)⊕List (List Int))))) :=
 cond (decide ((↑y2077:Int)<(↑(List.length p2_):Int))) (idxn p2_ y2077 fun e2136=>(iter (fun (s:List (List Int)×Nat)=>wsuite_ranged.s84 p3_ e1842 e2136 s.1 s.2) fuel (y2076,0):Option (List (List Int)⊕((List (List Int)×Nat)⊕(List (List Int)⊕((List (List Int)×Nat)⊕(List (List Int)⊕List (List Int))))))).bind (Sum.elim (fun (y2162:List (List Int))=>some (.inl (y2162,(y2077+1)))) some)) (some (.inr (.inl y2076)))
def wsuite_ranged.s86 (p1_:List (List Int)) (p2_:List (List Int)) (p3_:List (List Int)) (y1482:List (List Int)) (y1483:Nat):Option ((List (List Int)×Nat)⊕(List (List Int)⊕List (List Int))) :=
 cond (decide ((↑y1483:Int)<(↑(List.length p1_):Int))) (idxn p1_ y1483 fun e1842=>(iter (fun (s:List (List Int)×Nat)=>wsuite_ranged.s85 p2_ p3_ e1842 s.1 s.2) fuel (y1482,0):Option (List (List Int)⊕((List (List Int)×Nat)⊕(List (List Int)⊕List (List Int))))).bind (Sum.elim (fun (y2019:List (List Int))=>some (.inl (y2019,(y1483+1)))) some)) (some (.inr (.inl y1482)))
def wsuite_ranged (p1_:List (List Int)) (p2_:List (List Int)) (p3_:List (List Int)) (yield_4_:List (List Int)):Option (List (List Int)) :=
 (iter (fun (s:List (List Int)×Nat)=>wsuite_ranged.s86 p1_ p2_ p3_ s.1 s.2) fuel (yield_4_,0):Option (List (List Int)⊕List (List Int))).bind (Sum.elim (fun (y1125:List (List Int))=>some y1125) some)
def wsuite_Suite (m_:T_api_Mealy) (extra_:Int):Option (List (List Int)×Int) :=
 (mealy_Valid m_).bind fun c51=>cond (decide (c51≠0)) (some ([],c51)) ((cond (decide (extra_<0)) (some true) (some (decide (3<extra_))):Option (Bool)).bind (fun (y56:Bool)=>cond (y56) (some ([],2)) ((minimize_Min m_).bind fun c59=>cond (decide (c59.2≠0)) (some ([],c59.2)) ((cover_StateCover c59.1).bind fun c61=>cond (decide (c61.2≠0)) (some ([],c61.2)) (chk (inR (extra_+1)) ((wordset_Upto c59.1.Inputs (extra_+1)).bind fun c64=>cond (decide (c64.2≠0)) (some ([],c64.2)) ((separate_Charset c59.1).bind fun c66=>cond (decide (c66.2≠0)) (some ([],c66.2)) ((cond (decide ((↑(List.length c66.1):Int)=0)) (some [[]]) (some c66.1):Option (List (List Int))).bind (fun (last71:List (List Int))=>chk (inR ((↑(List.length c61.1):Int)*(↑(List.length c64.1):Int))) (chk (inR (((↑(List.length c61.1):Int)*(↑(List.length c64.1):Int))*(↑(List.length last71):Int))) (cond (decide (10000<(((↑(List.length c61.1):Int)*(↑(List.length c64.1):Int))*(↑(List.length last71):Int)))) (some ([],11)) ((wsuite_ranged c61.1 c64.1 last71 []).bind fun c79=>(wordset_Maximal c79).bind fun c80=>some (c80,0)))))))))))))
def L29_exampleHolds:Option (Bool) :=
 (wsuite_Suite (⟨1,0,[[1],[2],[0]],[[0],[0],[1]]⟩:T_api_Mealy) 0).bind fun c51=>(wsuite_Passes (⟨1,0,[[1],[2],[0]],[[0],[0],[1]]⟩:T_api_Mealy) (⟨1,0,[[1],[0]],[[0],[0]]⟩:T_api_Mealy) c51.1).bind fun c52=>(wsuite_Passes (⟨1,0,[[1],[2],[0]],[[0],[0],[1]]⟩:T_api_Mealy) (⟨1,0,[[1],[2],[0]],[[0],[0],[1]]⟩:T_api_Mealy) c51.1).bind fun c53=>(wsuite_Suite (⟨1,0,[[0]],[[0]]⟩:T_api_Mealy) 0).bind fun c54=>(wsuite_Suite (⟨1,0,[[1],[2],[0]],[[0],[0],[1]]⟩:T_api_Mealy) 4).bind fun c55=>(cond (decide (c51.2=0)) (cond (decide (c52.2.2=0)) (cond (decide (c53.2.2=0)) (cond (decide (c54.2=0)) (cond (decide (c55.2=2)) ((R10_Same c51.1 [[0,0,0,0,0]]).bind fun c76=>cond (c76) (cond ((!c52.2.1)) ((R08_Equal c52.1 [0,0,0]).bind fun c79=>cond (c79) (cond (c53.2.1) ((R10_Same c54.1 [[0]]).bind fun c82=>some c82) (some false)) (some false)) (some false)) (some false)) (some false)) (some false)) (some false)) (some false)) (some false):Option (Bool)).bind (fun (y70:Bool)=>some y70)
def equiv_check.s2 (a_:T_api_Mealy) (b_:T_api_Mealy) (y82:Nat):Option (Nat⊕(Unit⊕Int)) :=
 cond (decide ((↑y82:Int)<2)) (cond (decide ((↑y82:Int)=0)) ((mealy_Valid a_).bind fun c93=>cond (decide (c93≠0)) (some (.inr (.inr c93))) (some (.inl (y82+1)))) (chk ((↑y82:Int)=1) ((mealy_Valid b_).bind fun c96=>cond (decide (c96≠0)) (some (.inr (.inr c96))) (some (.inl (y82+1)))))) (some (.inr (.inl ())))
def equiv_check (a_:T_api_Mealy) (b_:T_api_Mealy):Option (Int) :=
 (iter (fun (s:Nat)=>equiv_check.s2 a_ b_ s) fuel 0:Option (Unit⊕Int)).bind (Sum.elim (fun (_:Unit)=>cond (decide (a_.Inputs≠b_.Inputs)) (some 15) (some 0)) some)
def equiv_Distinguish (a_:T_api_Mealy) (b_:T_api_Mealy):Option (List Int×Bool×Int) :=
 (equiv_check a_ b_).bind fun c51=>cond (decide (c51≠0)) (some ([],false,c51)) ((equiv_search a_ b_ (⟨a_.Start,b_.Start⟩:T_equiv_pair)).bind fun c53=>some (c53.1,c53.2,0))
def equiv_Equal (a_:T_api_Mealy) (b_:T_api_Mealy):Option (Bool×Int) :=
 (equiv_Distinguish a_ b_).bind fun c51=>(cond (decide (c51.2.2=0)) (some (!c51.2.1)) (some false):Option (Bool)).bind (fun (y55:Bool)=>some (y55,c51.2.2))
def L29_WsuiteComplete (m_:T_api_Mealy) (impl_:T_api_Mealy) (extra_:Int):Option (Bool) :=
 ((L11_Small m_).bind fun c60=>cond ((!c60)) (some true) ((L11_Small impl_).bind fun c62=>cond ((!c62)) (some true) (cond (decide (2<extra_)) (some true) ((R09_Check m_ impl_).bind fun c65=>some (decide (c65≠0))))):Option (Bool)).bind (fun (y59:Bool)=>cond (y59) ((L29_exampleHolds).bind fun c67=>some c67) (chk (inR extra_) ((wsuite_Suite m_ extra_).bind fun c69=>cond (decide (c69.2≠0)) ((cond (decide (c69.2=11)) (cond (decide ((↑(List.length c69.1):Int)=0)) ((L29_exampleHolds).bind fun c79=>some c79) (some false)) (some false):Option (Bool)).bind (fun (y76:Bool)=>some y76)) ((minimize_Min m_).bind fun c80=>(wsuite_Passes m_ impl_ c69.1).bind fun c81=>(equiv_Equal m_ impl_).bind fun c82=>(cond (decide (c80.2≠0)) (some true) (cond (decide (c81.2.2≠0)) (some true) (cond (decide (c82.2≠0)) (some true) (cond (c82.1) (some (!c81.2.1)) (some false)))):Option (Bool)).bind (fun (y89:Bool)=>cond (y89) (some false) ((cond (c82.1) ((L29_exampleHolds).bind fun c110=>some c110) (cond ((!c81.2.1)) ((L29_exampleHolds).bind fun c112=>some c112) ((mealy_Reach impl_).bind fun c113=>chk (inR extra_) (chk (inR ((↑(List.length c80.1.Next):Int)+extra_)) (cond (decide (((↑(List.length c80.1.Next):Int)+extra_)<(↑(List.length c113):Int))) ((L29_exampleHolds).bind fun c117=>some c117) (some false))))):Option (Bool)).bind (fun (y108:Bool)=>some y108)))))))
end Go.Proofs.Ytkfaepfljlphoaa.Sym

/-
 Laws of rounds: what a loop comes to, in plain words. No program in sight.
-/
namespace Go.Proofs.Ytkfaepfljlphoaa.Sym
section
variable {S R A B α β:Type}
theorem iter_post {step:S→Option (S⊕R)} (I:S→Prop) (m:S→Nat) (Q:R→Prop) (h:∀ s,I s→(∃ s',step s=some (.inl s')∧I s'∧m s'<m s)∨∃ r,step s=some (.inr r)∧Q r) :
  ∀ (n:Nat) (s:S),I s→m s<n→∃ r,iter step n s=some r∧Q r
 | 0,_,_,hm=>absurd hm (Nat.not_lt_zero _)
 | n+1,s,hi,hm=>by
  unfold iter
  rcases h s hi with ⟨s',e,hi',hm'⟩ | ⟨r,e,hq⟩
  ·rw [e]
   exact iter_post I m Q h n s' hi' (by omega)
  ·rw [e]
   exact ⟨r,rfl,hq⟩
theorem iter_eq {step:S→Option (S⊕R)} {r:R} (I:S→Prop) (m:S→Nat) (h:∀ s,I s→(∃ s',step s=some (.inl s')∧I s'∧m s'<m s)∨step s=some (.inr r)) {n:Nat} {s:S} (hi:I s) (hm:m s<n):iter step n s=some r:=by
 obtain ⟨r',e,rfl⟩:=iter_post I m (fun r'=>r'=r) (fun s hs=>(h s hs).imp id fun e=>⟨r,e,rfl⟩) n s hi hm
 exact e
def walk (g:A→Nat→α→Option (A⊕R)) (fin:A→Option R):A→Nat→List α→Option R
 | a,_,[]=>fin a
 | a,i,x::l=>(g a i x).bind (Sum.elim (fun a'=>walk g fin a' (i+1) l) some)
theorem idxn_at {l:List α} {i:Nat} {x:α} {k:α→Option β} (h:l[i]?=some x):idxn l i k=k x:=by unfold idxn;rw [h]
theorem idx_at {l:List α} {n:Int} {i:Nat} {x:α} {k:α→Option β} (hn:n=(i:Int)) (h:l[i]?=some x):idx l n k=k x:=by
 subst hn
 unfold idx
 rw [if_pos (by omega),Int.toNat_natCast,h]
theorem chk_pos {c:Prop} [Decidable c] {k:Option α} (h:c):chk c k=k:=by unfold chk;rw [if_pos h]
theorem obind {a:α} {f:α→Option β}:(some a).bind f=f a:=(Option.bind_some a f).trans (Eq.trans rfl rfl)
theorem fuel_big:100000000000000<fuel:=by unfold fuel;omega
theorem dec_lt {l:List α} {i:Nat} {x:α} (h:l[i]?=some x):decide ((↑i:Int)<(↑l.length:Int))=true:=by
 have:=(List.getElem?_eq_some_iff.1 h).1
 simpa using this
theorem dec_end (l:List α):decide ((↑l.length:Int)<(↑l.length:Int))=false:=by simp
def scan (g:Nat→α→Option R):Nat→List α→Option R
 | _,[]=>none
 | i,x::l=>match g i x with | some r=>some r | none=>scan g (i+1) l
theorem scan_none {g:Nat→α→Option R}:∀ {l:List α} {j:Nat},scan g j l=none↔∀ i x,l[i]?=some x→g (j+i) x=none
 | [],j=>by simp [scan]
 | y::l,j=>by
  constructor
  ·intro h i x hx
   unfold scan at h
   cases e:g j y with
   | some r=>rw [e] at h;cases h
   | none =>
    rw [e] at h
    match i,hx with
    | 0,hx =>
     simp at hx
     subst hx
     exact e
    | i+1,hx =>
     have:=(scan_none (g:=g) (l:=l) (j:=j+1)).1 h i x (by simpa using hx)
     rwa [show j+1+i=j+(i+1) by omega] at this
  ·intro h
   unfold scan
   have h0:=h 0 y rfl
   rw [Nat.add_zero] at h0
   rw [h0]
   exact (scan_none (g:=g) (l:=l) (j:=j+1)).2 fun i x hx=>by
    have:=h (i+1) x (by simpa using hx)
    rwa [show j+(i+1)=j+1+i by omega] at this
theorem iter_scan {step:Nat→Option (Nat⊕(Unit⊕R))} {l:List α} (g:Nat→α→Option R) (h1:∀ i x,l[i]?=some x→step i=some (match g i x with | some r=>.inr (.inr r) | none=>.inl (i+1))) (h2:step l.length=some (.inr (.inl ()))) (hl:l.length≤100000000000000) :
  iter step fuel 0=some (match scan g 0 l with | some r=>.inr r | none=>.inl ()):=by
 have key:∀ (n i:Nat),i≤l.length→l.length-i<n→iter step n i=some (match scan g i (l.drop i) with | some r=>.inr r | none=>.inl ()):=by
  intro n
  induction n with
  | zero=>intro i _ h;omega
  | succ n ih =>
   intro i hi hn
   rcases Nat.lt_or_ge i l.length with h | h
   ·rw [List.drop_eq_getElem_cons h]
    unfold iter scan
    rw [h1 i _ (List.getElem?_eq_getElem h)]
    cases g i l[i] with
    | some r=>rfl
    | none=>exact ih (i+1) h (by omega)
   ·have e:i=l.length:=by omega
    subst e
    rw [List.drop_length]
    unfold iter scan
    rw [h2]
 exact key fuel 0 (Nat.zero_le _) (by have:=fuel_big;omega)
end
end Go.Proofs.Ytkfaepfljlphoaa.Sym

/-
 The comparisons of words are what they say; they may be handed to a sort.
-/
namespace Go.Proofs.Ytkfaepfljlphoaa.Sym
open Go.RowKit
set_option maxRecDepth 100000
theorem cmp_Compare_int_eq (x y:Int):cmp_Compare_int x y=some (cmpI x y):=by
 unfold cmp_Compare_int cmp_isNaN_int cmpI
 by_cases h1:x<y
 ·simp [h1]
 ·by_cases h2:y<x<;>simp [h1,h2]
theorem slices_Compare_eq (s t:List Int) (hs:s.length≤100000000000000):slices_Compare_Sint_int s t=some (lexI s t):=by
 have key:=iter_post (step:=fun k=>slices_Compare_Sint_int.s2 s t k) (fun k=>k≤s.length∧k≤t.length∧lexI s t=lexI (s.drop k) (t.drop k)) (fun k=>s.length-k)
  (fun r=>Sum.elim (fun (_:Unit)=>cond (decide ((↑(List.length s):Int)<(↑(List.length t):Int))) (some (-1:Int)) (some 0)) some r=some (lexI s t)) (fun k ⟨h1,h2,h3⟩=>by
   unfold slices_Compare_Sint_int.s2
   rcases Nat.lt_or_ge k s.length with h | h
   ·have hx:=List.getElem?_eq_getElem h
    rw [dec_lt hx,cond_true,idxn_at hx]
    by_cases h4:t.length≤k
    ·right
     refine ⟨.inr 1,by simp [h4],?_⟩
     rw [h3,lexI_long h h4]
     rfl
    ·have hy:=List.getElem?_eq_getElem (show k<t.length by omega)
     have hst:=lexI_step hx hy
     have d4:decide ((↑(List.length t):Int)≤(↑k:Int))=false:=by simp;omega
     rw [d4,cond_false,idxn_at hy,cmp_Compare_int_eq]
     by_cases h5:cmpI s[k] t[k]=0
     ·left
      rw [if_pos h5] at hst
      exact ⟨k+1,by simp [h5],⟨by omega,by omega,by rw [h3,hst]⟩,by omega⟩
     ·right
      rw [if_neg h5] at hst
      exact ⟨.inr (cmpI s[k] t[k]),by simp [h5],by rw [h3,hst];rfl⟩
   ·right
    have e:k=s.length:=by omega
    subst e
    rw [dec_end,cond_false]
    refine ⟨.inl (),rfl,?_⟩
    rw [h3,lexI_end (Nat.le_refl _)]
    by_cases h4:s.length<t.length<;>simp [h4]) fuel 0 ⟨Nat.zero_le _,Nat.zero_le _,rfl⟩ (by have:=fuel_big;simp only [Nat.sub_zero];omega)
 obtain ⟨r,e,hq⟩:=key
 unfold slices_Compare_Sint_int
 rw [e]
 exact hq
theorem cmp_Or_two (x y:Int):cmp_Or_int [x,y]=some (if x≠0 then x else y):=by
 unfold cmp_Or_int
 have e:fuel=(fuel-3)+1+1+1:=by unfold fuel;omega
 rw [e]
 by_cases h1:x=0
 ·by_cases h2:y=0
  ·simp [iter,cmp_Or_int.s2,idxn,h1,h2]
  ·simp [iter,cmp_Or_int.s2,idxn,h1,h2]
 ·simp [iter,cmp_Or_int.s2,idxn,h1]
theorem word_Lex_eq (s t:List Int) (hs:s.length≤100000000000000):word_Lex s t=some (lexI s t):=by
 unfold word_Lex
 rw [slices_Compare_eq s t hs]
 rfl
theorem word_Compare_eq (s t:List Int) (hs:s.length≤100000000000000):word_Compare s t=some (cmpW s t):=by
 unfold word_Compare
 rw [slices_Compare_eq s t hs,cmp_Compare_int_eq]
 show (cmp_Or_int [cmpI s.length t.length,lexI s t]).bind some=_
 rw [cmp_Or_two]
 show some _=some _
 congr 1
 unfold cmpI cmpW
 by_cases h1:s.length<t.length
 ·simp [h1]
 ·by_cases h2:t.length<s.length
  ·simp [h1,h2]
  ·simp [h1,h2]
theorem cmpE_word_Lex:CmpE Try.prog 60 (fun x=>nL cI x) (fun x y=>word_Lex x y) :=
 ⟨fun args w=>run_enter rfl rfl rfl args w,cmpG_lex fun x y r hx h=>by rw [word_Lex_eq x y (by omega)] at h;injection h with h;exact h.symm⟩
theorem cmpE_word_Compare:CmpE Try.prog 66 (fun x=>nL cI x) (fun x y=>word_Compare x y) :=
 ⟨fun args w=>run_enter rfl rfl rfl args w,cmpG_compare fun x y r hx h=>by rw [word_Compare_eq x y (by omega)] at h;injection h with h;exact h.symm⟩
end Go.Proofs.Ytkfaepfljlphoaa.Sym

/-
 What the basic functions on words come to: plain laws.
-/
namespace Go.Proofs.Ytkfaepfljlphoaa.Sym
set_option maxRecDepth 100000
section
variable {α β R:Type}
theorem get_at {l:List α} {i:Nat} (h:i<l.length):l[i]?=some l[i]:=List.getElem?_eq_getElem h
end
def SmW (x:List Int):Prop:=x.length≤2000000
def SmL (l:List (List Int)):Prop:=l.length≤2000000∧∀ x∈l,SmW x
theorem word_permitted_eq (n:Int):word_permitted n=some (decide (1≤n∧n≤1024)):=by
 unfold word_permitted
 by_cases h1:1≤n<;>by_cases h2:n≤1024<;>simp [h1,h2]
theorem word_Check_eq (w:List Int) (n:Int) (hl:SmW w):word_Check w n=some (checkI w n):=by
 unfold word_Check checkI slices_ContainsFunc_Sint_int_n1 slices_IndexFunc_Sint_int_n1
 rw [word_permitted_eq]
 by_cases h1:1≤n∧n≤1024
 ·rw [if_pos h1]
  simp only [Option.bind_some,h1,and_self,decide_true,Bool.not_true,cond_false]
  by_cases h2:1024<w.length
  ·rw [if_pos h2,show decide ((1024:Int)<(↑(List.length w):Int))=true from decide_eq_true (by omega),cond_true]
  ·rw [if_neg h2,show decide ((1024:Int)<(↑(List.length w):Int))=false from decide_eq_false (by omega),cond_false]
   have key:=iter_scan (step:=fun s=>slices_IndexFunc_Sint_int_n1.s2 w (fun u0=>word_Check_1 u0 n) s) (l:=w) (fun i x=>if decide (0≤x∧x<n)=true then none else some (i:Int)) (fun i x hx=>by
    simp only [slices_IndexFunc_Sint_int_n1.s2,word_Check_1]
    rw [dec_lt hx,cond_true,idxn_at hx]
    by_cases a1:x<0
    ·simp [a1,show ¬ (0≤x) by omega]
    ·by_cases a2:n≤x
     ·simp [a1,a2,show ¬ (x<n) by omega]
     ·simp [a1,a2,show 0≤x by omega,show x<n by omega]) (by
    simp only [slices_IndexFunc_Sint_int_n1.s2]
    rw [dec_end]
    rfl) (by unfold SmW at hl;omega)
   rw [key]
   cases e:scan (fun i x=>if decide (0≤x∧x<n)=true then none else some (i:Int)) 0 w with
   | none =>
    have h3:=scan_none.1 e
    have h:(w.all fun x=>decide (0≤x∧x<n))=true:=List.all_eq_true.2 fun x hx=>by
     obtain ⟨i,hi,rfl⟩:=List.mem_iff_getElem.1 hx
     have:=h3 i _ (get_at hi)
     split at this
     ·assumption
     ·cases this
    rw [if_pos h]
    simp
   | some r =>
    have h:¬ (w.all fun x=>decide (0≤x∧x<n))=true:=fun h=>by
     have:scan (fun i x=>if decide (0≤x∧x<n)=true then none else some (i:Int)) 0 w=none:=scan_none.2 fun i x hx=>if_pos (List.all_eq_true.1 h x (List.mem_of_getElem? hx))
     rw [this] at e
     cases e
    have hr:0≤r:=by
     have key:∀ (l:List Int) (j:Nat),scan (fun i x=>if decide (0≤x∧x<n)=true then none else some (i:Int)) j l=some r→0≤r:=by
      intro l
      induction l with
      | nil=>intro j h;cases h
      | cons x l ih =>
       intro j h
       unfold scan at h
       split at h
       ·rename_i r' h3
        injection h with h
        subst h
        split at h3
        ·cases h3
        ·injection h3 with h3
         omega
       ·exact ih _ h
     exact key w 0 e
    rw [if_neg h]
    simp [hr]
 ·rw [if_neg h1]
  simp [h1]
end Go.Proofs.Ytkfaepfljlphoaa.Sym

/-
 Plain laws on the random numbers: the mixing is one to one, so that a draw below 10000 ends after at most 1617 numbers. No program in sight.
-/
namespace Go.Proofs.Ytkfaepfljlphoaa
def M64:Nat:=18446744073709551616
def gold:Nat:=11400714819323198485
def mulA:Nat:=13787848793156543929
def mulB:Nat:=10723151780598845931
def mix (y:Nat):Nat :=
 let z:=(y ^^^ (y >>> 30))*mulA%M64
 let u:=(z ^^^ (z >>> 27))*mulB%M64
 u ^^^ (u >>> 31)
theorem few:∀ (k a:Nat) (l:List Nat),l.Nodup→(∀ x∈l,a≤x∧x<a+k)→l.length≤k
 | 0,a,l,_,h=>by
  cases l with
  | nil=>simp
  | cons x l=>have:=h x (by simp);omega
 | k+1,a,l,hn,h=>by
  have h1:=few k a (l.erase (a+k)) (hn.erase _) fun x hx=>by
   have h2:=(hn.mem_erase_iff).1 hx
   have h3:=h x h2.2
   have h4:=h2.1
   omega
  by_cases hm:a+k∈l
  ·have:=List.length_erase_of_mem hm
   omega
  ·rw [List.erase_of_not_mem hm] at h1
   omega
def drawF:Nat→Nat→Nat×Nat
 | 0,s=>(0,s)
 | f+1,s=>if mix ((s+gold)%M64)<M64-1616 then (mix ((s+gold)%M64)%10000,(s+gold)%M64) else drawF f ((s+gold)%M64)
def draw (s:Nat):Nat×Nat:=drawF 1617 s
end Go.Proofs.Ytkfaepfljlphoaa

/-
 Random numbers: the draws below 10000 end, and are the document's.
-/
namespace Go.Proofs.Ytkfaepfljlphoaa.Sym
set_option maxRecDepth 100000
def steps (nx:Nat→Nat):Nat→Nat→Nat
 | 0,s=>s
 | j+1,s=>steps nx j (nx s)
end Go.Proofs.Ytkfaepfljlphoaa.Sym

/-
 Tables: the first one, and what makes a table valid: the program's answer and the document's are one plain number.
-/
namespace Go.Proofs.Ytkfaepfljlphoaa.Sym
set_option maxRecDepth 100000
section
variable {κ ν:Type} [BEq κ]
theorem mget_mset_same {k:κ} {v:ν} (hb:∀ a b:κ,(a==b)=true↔a=b):∀ m:List (κ×ν),mget k (mset k v m)=some v
 | []=>by
  unfold mset mget
  rw [(hb k k).2 rfl]
 | p::m=>by
  unfold mset
  cases h:k==p.1 with
  | true =>
   show mget k ((k,v)::m)=_
   unfold mget
   rw [(hb k k).2 rfl]
  | false =>
   show mget k (p::mset k v m)=_
   unfold mget
   rw [h]
   exact mget_mset_same hb m
theorem mget_mset_ne {k k':κ} {v:ν} (hb:∀ a b:κ,(a==b)=true↔a=b) (hne:¬ k'=k):∀ m:List (κ×ν),mget k' (mset k v m)=mget k' m
 | []=>by
  have e:(k'==k)=false:=by
   cases e:k'==k with
   | true=>exact absurd ((hb _ _).1 e) hne
   | false=>rfl
  unfold mset mget
  simp only [e]
  rfl
 | p::m=>by
  unfold mset
  cases h:k==p.1 with
  | true =>
   have e1:k=p.1:=(hb _ _).1 h
   show mget k' ((k,v)::m)=mget k' (p::m)
   have e:(k'==k)=false:=by
    cases e:k'==k with
    | true=>exact absurd ((hb _ _).1 e) hne
    | false=>rfl
   unfold mget
   rw [← e1]
   simp only [e]
  | false =>
   show mget k' (p::mset k v m)=mget k' (p::m)
   unfold mget
   rw [mget_mset_ne hb hne m]
end
end Go.Proofs.Ytkfaepfljlphoaa.Sym

/-
 The examples of the chapter, reckoned.
-/
namespace Go.Proofs.Ytkfaepfljlphoaa.Sym
set_option maxRecDepth 100000
end Go.Proofs.Ytkfaepfljlphoaa.Sym

/-
 Tables: the program's own checks, the first table, and the law of both.
-/
namespace Go.Proofs.Ytkfaepfljlphoaa.Sym
set_option maxRecDepth 100000
theorem check_mem {w:List Int} {n:Int} (h:checkI w n=0):∀ a∈w,0≤a∧a<n:=by
 unfold checkI at h
 split at h
 ·split at h
  ·cases h
  ·split at h
   ·rename_i h3
    intro a ha
    exact of_decide_eq_true (List.all_eq_true.1 h3 a ha)
   ·cases h
 ·cases h
end Go.Proofs.Ytkfaepfljlphoaa.Sym

/-
 Sorted lists of words, duplicates struck: plain laws.
-/
namespace Go.Proofs.Ytkfaepfljlphoaa
structure TotalCmp (cf:List Int→List Int→Int):Prop where
 range:∀ a b,cf a b=-1∨cf a b=0∨cf a b=1
 zero:∀ a b,cf a b=0↔a=b
 swap:∀ a b,cf b a=- cf a b
 trans:∀ a b c,cf a b=-1→cf b c=-1→cf a c=-1
theorem cmpW_total:TotalCmp cmpW:=⟨cmpW_range,cmpW_zero,cmpW_swap,cmpW_trans⟩
theorem lexI_total:TotalCmp lexI:=⟨lexI_range,lexI_zero,lexI_swap,lexI_trans⟩
def dedupA (l:List (List Int)):List (List Int):=l.foldl (fun acc x=>if acc.getLast?=some x then acc else acc++[x]) []
theorem dedupA_snoc (l:List (List Int)) (x:List Int):dedupA (l++[x])=if (dedupA l).getLast?=some x then dedupA l else dedupA l++[x]:=by
 unfold dedupA
 rw [List.foldl_append]
 rfl
theorem dedup_foldl:∀ (l acc:List (List Int)),(l.foldl (fun acc x=>if acc.getLast?=some x then acc else acc++[x]) acc).getLast?=if l=[] then acc.getLast? else l.getLast?
 | [],acc=>by rw [if_pos rfl];rfl
 | x::l,acc=>by
  have hx:(if acc.getLast?=some x then acc else acc++[x]).getLast?=some x:=by
   split
   ·assumption
   ·simp
  rw [List.foldl_cons,dedup_foldl l,if_neg (show ¬ x::l=[] by simp)]
  cases l with
  | nil=>rw [if_pos rfl,hx];rfl
  | cons y l =>
   rw [if_neg (show ¬ y::l=[] by simp),List.getLast?_cons_cons]
theorem dedupA_last (l:List (List Int)):(dedupA l).getLast?=l.getLast?:=by
 unfold dedupA
 rw [dedup_foldl]
 split
 ·rename_i h;rw [h]
 ·rfl
theorem dedupA_step {l:List (List Int)} {k:Nat} {x y:List Int} (hy:l[k]?=some y) (hx:l[k+1]?=some x) :
  dedupA (l.take (k+1+1))=if x=y then dedupA (l.take (k+1)) else dedupA (l.take (k+1))++[x]:=by
 rw [take_step hx,dedupA_snoc,dedupA_last,take_step hy]
 simp only [List.getLast?_append,List.getLast?_singleton,Option.some_or]
 by_cases h:y=x
 ·subst h;simp
 ·have h':¬ x=y:=fun e=>h e.symm
  simp [h,h']
theorem dedupA_short {l:List (List Int)} (h:l.length≤1):dedupA l=l:=by
 match l,h with
 | [],_=>rfl
 | [x],_=>rfl
theorem dedup_asc {cf:List Int→List Int→Int} (T:TotalCmp cf):∀ {l:List (List Int)},l.Pairwise (fun a b=>0≤cf b a)→(dedupA l).Pairwise (fun a b=>cf a b=-1)∧∀ x,x∈dedupA l↔x∈l:=by
 intro l
 -- from the end of the list
 suffices H:∀ n (l:List (List Int)),l.length=n→l.Pairwise (fun a b=>0≤cf b a)→(dedupA l).Pairwise (fun a b=>cf a b=-1)∧∀ x,x∈dedupA l↔x∈l from H _ l rfl
 intro n
 induction n with
 | zero =>
  intro l hl _
  have:l=[]:=List.eq_nil_of_length_eq_zero hl
  subst this
  exact ⟨List.Pairwise.nil,fun x=>Iff.rfl⟩
 | succ n ih =>
  intro l hl hp
  obtain ⟨m,x,rfl⟩:∃ m x,l=m++[x]:=by
   have hne:l≠[]:=by intro e;rw [e] at hl;simp at hl
   exact ⟨l.dropLast,l.getLast hne,(List.dropLast_concat_getLast hne).symm⟩
  have hml:m.length=n:=by simpa using hl
  rw [List.pairwise_append] at hp
  obtain ⟨hp1,_,hp3⟩:=hp
  obtain ⟨h1,h2⟩:=ih m hml hp1
  rw [dedupA_snoc]
  by_cases h:(dedupA m).getLast?=some x
  ·rw [if_pos h]
   refine ⟨h1,fun y=>?_⟩
   have hx:x∈m:=(h2 x).1 (List.mem_of_getLast? h)
   rw [h2,List.mem_append,List.mem_singleton]
   constructor
   ·exact Or.inl
   ·rintro (h' | rfl)
    ·exact h'
    ·exact hx
  ·rw [if_neg h]
   refine ⟨?_,fun y=>by rw [List.mem_append,List.mem_append,h2]⟩
   rw [List.pairwise_append]
   refine ⟨h1,by simp,fun a ha b hb=>?_⟩
   rw [List.mem_singleton] at hb
   subst hb
   have ha':a∈m:=(h2 a).1 ha
   have hle:0≤cf b a:=hp3 a ha' b (by simp)
   have hr:=T.range b a
   have hsw:=T.swap b a
   by_cases e:cf b a=0
   ·-- a would be the last one
    exfalso
    have hab:b=a:=(T.zero _ _).1 e
    subst hab
    -- the last of m is the greatest, and b is in m and not less than it
    have hne:dedupA m≠[]:=fun e=>by rw [e] at ha;cases ha
    have hl2:=List.getLast?_eq_some_getLast hne
    have hlast:(dedupA m).getLast hne∈m:=(h2 _).1 (List.getLast_mem hne)
    have h3:0≤cf b ((dedupA m).getLast hne):=hp3 _ hlast b (by simp)
    have hsplit:dedupA m=(dedupA m).dropLast++[(dedupA m).getLast hne]:=(List.dropLast_concat_getLast hne).symm
    have h4:b=(dedupA m).getLast hne∨cf b ((dedupA m).getLast hne)=-1:=by
     rw [hsplit] at ha h1
     rw [List.pairwise_append] at h1
     rcases List.mem_append.1 ha with h5 | h5
     ·exact Or.inr (h1.2.2 b h5 _ (by simp))
     ·exact Or.inl (List.mem_singleton.1 h5)
    rcases h4 with h4 | h4
    ·exact h (by rw [hl2,← h4])
    ·omega
   ·omega
theorem dedupA_length (l:List (List Int)):(dedupA l).length≤l.length:=by
 suffices H:∀ (l acc:List (List Int)),(l.foldl (fun acc x=>if acc.getLast?=some x then acc else acc++[x]) acc).length≤acc.length+l.length by
  simpa [dedupA] using H l []
 intro l
 induction l with
 | nil=>intro acc;simp
 | cons x l ih =>
  intro acc
  rw [List.foldl_cons]
  refine Nat.le_trans (ih _) ?_
  split
  ·simp
  ·simp;omega
end Go.Proofs.Ytkfaepfljlphoaa

/-
 Prefixes, suffixes and maximal words: plain laws.
-/
namespace Go.Proofs.Ytkfaepfljlphoaa
def prefixes (x:List Int):List (List Int):=(List.range (x.length+1)).map x.take
def suffixes (x:List Int):List (List Int):=(List.range (x.length+1)).map x.drop
def topB (all:List (List Int)) (x:List Int):Bool:=all.all fun y=>decide (y=x∨¬ x <+: y)
def maxR (l:List (List Int)):List (List Int):=(sortW l).filter (topB (sortW l))
theorem mem_maxR {l:List (List Int)} {x:List Int} (h:x∈maxR l):x∈l:=by
 unfold maxR at h
 exact (mem_sortW l x).1 (List.mem_filter.1 h).1
theorem maxR_length (l:List (List Int)):(maxR l).length≤l.length:=Nat.le_trans (List.length_filter_le _ _) (sortW_length l)
def keepM:List (List Int)→List (List Int)
 | []=>[]
 | [x]=>[x]
 | x::y::l=>if x <+: y then keepM (y::l) else x::keepM (y::l)
theorem keepM_end {L:List (List Int)} {k:Nat} {x:List Int} (hx:L[k]?=some x) (hl:k+1=L.length):keepM (L.drop k)=x::keepM (L.drop (k+1)):=by
 obtain ⟨h1,h2⟩:=List.getElem?_eq_some_iff.1 hx
 rw [List.drop_eq_getElem_cons h1,h2,List.drop_eq_nil_of_le (by omega)]
 rfl
theorem keepM_step {L:List (List Int)} {k:Nat} {x y:List Int} (hx:L[k]?=some x) (hy:L[k+1]?=some y):keepM (L.drop k)=if x <+: y then keepM (L.drop (k+1)) else x::keepM (L.drop (k+1)):=by
 obtain ⟨h1,h2⟩:=List.getElem?_eq_some_iff.1 hx
 obtain ⟨h3,h4⟩:=List.getElem?_eq_some_iff.1 hy
 rw [List.drop_eq_getElem_cons h1,h2,List.drop_eq_getElem_cons h3,h4]
 rfl
theorem keepM_sub:∀ L:List (List Int),(keepM L).Sublist L
 | []=>List.Sublist.refl _
 | [x]=>List.Sublist.refl _
 | x::y::l=>by
  rw [keepM]
  split
  ·exact (keepM_sub (y::l)).cons x
  ·exact (keepM_sub (y::l)).cons_cons x
theorem lex_between:∀ (x z y:List Int),lexI x z=-1→(z=y∨lexI z y=-1)→x <+: y→x <+: z
 | [],z,_,_,_,_=>List.nil_prefix
 | a::x,[],_,h,_,_=>by simp [lexI] at h
 | a::x,b::z,[],_,_,h=>by simp at h
 | a::x,b::z,c::y,h1,h2,h3=>by
  rw [List.cons_prefix_cons] at h3
  obtain ⟨rfl,h3⟩:=h3
  simp only [lexI] at h1
  have hle:b≤a:=by
   rcases h2 with h2 | h2
   ·injection h2 with e1 e2;omega
   ·simp only [lexI] at h2
    split at h2
    ·omega
    ·split at h2
     ·omega
     ·omega
  have hab:a=b:=by
   split at h1
   ·omega
   ·split at h1
    ·omega
    ·omega
  subst hab
  rw [if_neg (by omega),if_neg (by omega)] at h1
  rw [List.cons_prefix_cons]
  refine ⟨rfl,lex_between x z y h1 ?_ h3⟩
  rcases h2 with h2 | h2
  ·injection h2 with e1 e2;exact Or.inl e2
  ·simp only [lexI] at h2
   rw [if_neg (by omega),if_neg (by omega)] at h2
   exact Or.inr h2
theorem prefix_lex:∀ (x y:List Int),x <+: y→x≠y→lexI x y=-1
 | [],[],_,h=>absurd rfl h
 | [],_::_,_,_=>rfl
 | a::x,[],h,_=>by simp at h
 | a::x,b::y,h,hne=>by
  rw [List.cons_prefix_cons] at h
  obtain ⟨rfl,h⟩:=h
  simp only [lexI]
  rw [if_neg (by omega),if_neg (by omega)]
  exact prefix_lex x y h (fun e=>hne (by rw [e]))
theorem mem_keepM:∀ {L:List (List Int)},L.Pairwise (fun a b=>lexI a b=-1)→∀ x,x∈keepM L↔x∈L∧∀ y∈L,y=x∨¬ x <+: y
 | [],_,x=>by simp [keepM]
 | [z],_,x=>by
  simp only [keepM,List.mem_singleton]
  constructor
  ·rintro rfl;exact ⟨rfl,fun y hy=>Or.inl hy⟩
  ·exact fun h=>h.1
 | z::y::l,h,x=>by
  obtain ⟨h1,h2⟩:=List.pairwise_cons.1 h
  have ih:=mem_keepM (L:=y::l) h2
  have hzl:∀ t∈y::l,z≠t:=fun t ht e=>by
   have:=h1 t ht
   rw [e,lexI_refl] at this
   omega
  have hlow:∀ t∈y::l,¬ t <+: z:=fun t ht hp=>by
   have h3:=h1 t ht
   have h4:=prefix_lex t z hp (fun e=>hzl t ht e.symm)
   rw [lexI_swap] at h4
   omega
  have hyl:∀ t∈y::l,y=t∨lexI y t=-1:=fun t ht=>by
   rcases List.mem_cons.1 ht with e | e
   ·exact Or.inl e.symm
   ·exact Or.inr ((List.pairwise_cons.1 h2).1 t e)
  rw [keepM]
  by_cases hp:z <+: y
  ·rw [if_pos hp,ih]
   constructor
   ·rintro ⟨ha,hb⟩
    refine ⟨List.mem_cons_of_mem _ ha,fun t ht=>?_⟩
    rcases List.mem_cons.1 ht with rfl | ht
    ·exact Or.inr (hlow x ha)
    ·exact hb t ht
   ·rintro ⟨ha,hb⟩
    rcases List.mem_cons.1 ha with rfl | ha
    ·rcases hb y (by simp) with e | e
     ·exact absurd e.symm (hzl y (by simp))
     ·exact absurd hp e
    ·exact ⟨ha,fun t ht=>hb t (List.mem_cons_of_mem _ ht)⟩
  ·rw [if_neg hp,List.mem_cons,ih]
   constructor
   ·rintro (rfl | ⟨ha,hb⟩)
    ·refine ⟨by simp,fun t ht=>?_⟩
     rcases List.mem_cons.1 ht with rfl | ht
     ·exact Or.inl rfl
     ·exact Or.inr fun hpt=>hp (lex_between x y t (h1 y (by simp)) (hyl t ht) hpt)
    ·refine ⟨List.mem_cons_of_mem _ ha,fun t ht=>?_⟩
     rcases List.mem_cons.1 ht with rfl | ht
     ·exact Or.inr (hlow x ha)
     ·exact hb t ht
   ·rintro ⟨ha,hb⟩
    rcases List.mem_cons.1 ha with rfl | ha
    ·exact Or.inl rfl
    ·exact Or.inr ⟨ha,fun t ht=>hb t (List.mem_cons_of_mem _ ht)⟩
theorem mem_maxR_iff (l:List (List Int)) (x:List Int):x∈maxR l↔x∈l∧∀ y∈l,y=x∨¬ x <+: y:=by
 unfold maxR
 rw [List.mem_filter,mem_sortW,topB,List.all_eq_true]
 simp only [mem_sortW,decide_eq_true_eq]
theorem maxR_asc (l:List (List Int)):Asc (maxR l):=List.Pairwise.sublist List.filter_sublist (sortW_asc l)
theorem sortW_keepM {L l:List (List Int)} (h:L.Pairwise fun a b=>lexI a b=-1) (hm:∀ x,x∈L↔x∈l):sortW (keepM L)=maxR l :=
 asc_ext (sortW_asc _) (maxR_asc l) fun x=>by
  rw [mem_sortW,mem_keepM h,mem_maxR_iff]
  simp only [hm]
end Go.Proofs.Ytkfaepfljlphoaa

/-
 What the functions on lists of words come to: plain laws.
-/
namespace Go.Proofs.Ytkfaepfljlphoaa.Sym
set_option maxRecDepth 100000
theorem flat_take_succ {α:Type} {l:List (List α)} {i:Nat} {x:List α} (h:l[i]?=some x):(l.take (i+1)).flatten=(l.take i).flatten++x:=by
 rw [take_step h]
 simp
theorem flat_take_len {α:Type} {l:List (List α)} (i:Nat):(l.take i).flatten.length≤l.flatten.length:=by
 have h:l.flatten=(l.take i).flatten++(l.drop i).flatten:=by rw [← List.flatten_append,List.take_append_drop]
 rw [h,List.length_append]
 omega
theorem concat_ints (l:List (List Int)) (hl:l.length≤100000000) (hf:l.flatten.length≤1000000000):slices_Concat_Sint_int l=some l.flatten:=by
 unfold slices_Concat_Sint_int
 rw [iter_eq (r:=l.flatten.length) (fun s=>s.2≤l.length∧s.1=(l.take s.2).flatten.length) (fun s=>l.length-s.2) (fun s ⟨h1,h2⟩=>by
  simp only [slices_Concat_Sint_int.s2]
  by_cases h3:s.2<l.length
  ·left
   have hx:=get_at h3
   have h4:=flat_take_succ hx
   have h5:=flat_take_len (l:=l) (s.2+1)
   rw [h4,List.length_append] at h5
   refine ⟨((l.take (s.2+1)).flatten.length,s.2+1),?_,⟨by omega,rfl⟩,by simp only;omega⟩
   rw [dec_lt hx,cond_true,idxn_at hx,chk_pos (by unfold inR;omega),decide_eq_false (by omega),cond_false,h4,List.length_append,h2]
  ·right
   have e:s.2=l.length:=by omega
   rw [decide_eq_false (by omega),cond_false,h2,e,List.take_length]) (s:=(0,0)) ⟨Nat.zero_le _,by simp⟩ (by have:=fuel_big;simp only;omega)]
 simp only [Option.bind_some]
 unfold lib_Grow_int
 rw [chk_pos (by omega)]
 simp only [Option.bind_some]
 rw [iter_eq (r:=l.flatten) (fun s=>s.2≤l.length∧s.1=(l.take s.2).flatten) (fun s=>l.length-s.2) (fun s ⟨h1,h2⟩=>by
  simp only [slices_Concat_Sint_int.s4]
  by_cases h3:s.2<l.length
  ·left
   have hx:=get_at h3
   have h4:=flat_take_succ hx
   have h5:=flat_take_len (l:=l) (s.2+1)
   rw [h4,List.length_append] at h5
   refine ⟨((l.take (s.2+1)).flatten,s.2+1),?_,⟨by omega,rfl⟩,by simp only;omega⟩
   rw [dec_lt hx,cond_true,idxn_at hx,chk_pos (by rw [h2];unfold capOk;omega),h4,h2]
  ·right
   have e:s.2=l.length:=by omega
   rw [decide_eq_false (by omega),cond_false,h2,e,List.take_length]) (s:=([],0)) ⟨Nat.zero_le _,by simp⟩ (by have:=fuel_big;simp only;omega)]
 rfl
theorem word_Join_eq (l:List (List Int)) (hl:l.length≤100000000) (hf:l.flatten.length≤1000000000):word_Join l=some l.flatten:=by
 unfold word_Join
 rw [concat_ints l hl hf]
 rfl
theorem totB_of {cf:List Int→List Int→Int} (T:TotalCmp cf) {f:List Int→List Int→Option Int} {l:List (List Int)} (hf:∀ a∈l,∀ b∈l,f a b=some (cf a b)):totB f l=true:=by
 refine List.all_eq_true.2 fun a ha=>List.all_eq_true.2 fun b hb=>?_
 rw [hf a ha b hb,hf b hb a ha]
 simp only [Bool.and_eq_true]
 refine ⟨⟨⟨?_,?_⟩,?_⟩,List.all_eq_true.2 fun c hc=>?_⟩
 ·rw [beq_iff_eq]
  have:=T.zero a b
  by_cases h:a=b
  ·simp [h,this.2 h]
   rw [← h]
   exact (T.zero a a).2 rfl
  ·have h2:¬ cf a b=0:=fun e=>h (this.1 e)
   simp [h,h2]
 ·rw [beq_iff_eq]
  have:=T.swap a b
  by_cases h:cf a b<0
  ·simp [h];omega
  ·simp [h];omega
 ·have:=T.range a b
  exact decide_eq_true (by omega)
 ·rw [hf b hb c hc,hf a ha c hc]
  have r1:=T.range a b
  have r2:=T.range b c
  by_cases h1:cf a b<0
  ·by_cases h2:cf b c<0
   ·have:=T.trans a b c (by omega) (by omega)
    simp [h1,h2,this]
   ·simp [h1,h2]
  ·simp [h1]
theorem libSort_eq {cf:List Int→List Int→Int} (T:TotalCmp cf) {f:List Int→List Int→Option Int} {l:List (List Int)} (hl:l.length≤1000000000) (hf:∀ a∈l,∀ b∈l,f a b=some (cf a b)) :
  ∃ S,libSort l f=some S∧S.Perm l∧S.Pairwise (fun a b=>0≤cf b a):=by
 refine ⟨isortF f l,?_,isortF_perm f l,?_⟩
 ·unfold libSort
  rw [chk_pos hl,totB_of T hf]
  rfl
 ·have h:=isortF_sorted (totB_iff (totB_of T hf))
  rw [List.pairwise_iff_getElem] at h ⊢
  intro i j hi hj hij
  have:=h i j hi hj hij
  have m1:=(isortF_perm f l).mem_iff.1 (List.getElem_mem hi)
  have m2:=(isortF_perm f l).mem_iff.1 (List.getElem_mem hj)
  unfold NGt cfv at this
  rw [hf _ m2 _ m1] at this
  simp only [Option.getD_some] at this
  omega
theorem compact_eq {q:List Int→List Int→Option Bool} {l:List (List Int)} (hl:l.length≤1000000000) (hq:∀ a∈l,∀ b∈l,q a b=some (decide (a=b))):slices_CompactFunc_SSint_Sint_n1 l q=some (dedupA l):=by
 unfold slices_CompactFunc_SSint_Sint_n1
 by_cases h2:l.length<2
 ·rw [decide_eq_true (by omega),cond_true,dedupA_short (by omega)]
 rw [decide_eq_false (by omega),cond_false]
 have key:=iter_post (step:=fun k=>slices_CompactFunc_SSint_Sint_n1.s20 l q k) (fun k=>1≤k∧k≤l.length∧dedupA (l.take k)=l.take k) (fun k=>l.length-k) (fun r=>Sum.elim (fun (_:Unit)=>some l) some r=some (dedupA l)) (fun k ⟨h1,h3,h4⟩=>by
  simp only [slices_CompactFunc_SSint_Sint_n1.s20]
  by_cases h5:k<l.length
  ·have hx:=get_at h5
   have hp:=get_at (l:=l) (i:=k-1) (by omega)
   have hst:=dedupA_step (l:=l) (k:=k-1) (x:=l[k]) hp (by rw [show k-1+1=k by omega];exact hx)
   rw [show k-1+1=k by omega] at hst
   rw [dec_lt hx,cond_true,idxn_at hx,idx_at (i:=k-1) (by omega) hp,hq _ (List.getElem_mem _) _ (List.getElem_mem _)]
   simp only [Option.bind_some]
   by_cases h6:l[k]=l[k-1]'(by omega)
   ·right
    rw [if_pos h6] at hst
    rw [decide_eq_true h6,cond_true,chk_pos (by omega)]
    have inner:=iter_post (step:=fun (s:List (List Int)×Nat×Nat)=>slices_CompactFunc_SSint_Sint_n1.s18 q k s.1 s.2.1 s.2.2) (fun s=>1≤s.2.2∧k+s.2.2≤l.length∧s.1.length=l.length∧s.2.1=(dedupA (l.take (k+s.2.2))).length∧s.2.1<k+s.2.2∧s.1.take s.2.1=dedupA (l.take (k+s.2.2))∧∀ j,s.2.1≤j→s.1[j]?=l[j]?) (fun s=>l.length-(k+s.2.2))
     (fun r=>r.2≤l.length∧r.1.length=l.length∧r.1.take r.2=dedupA l) (fun s ⟨g1,g2,g3,g4,g5,g6,g7⟩=>by
      obtain ⟨y,kk,t⟩:=s
      simp only at g1 g2 g3 g4 g5 g6 g7
      simp only [slices_CompactFunc_SSint_Sint_n1.s18]
      by_cases g8:k+t<l.length
      ·left
       have gx:=get_at (l:=l) (i:=k+t) g8
       have gp:=get_at (l:=l) (i:=k+(t-1)) (by omega)
       have yx:y[k+t]?=some l[k+t]:=by rw [g7 _ (by omega)];exact gx
       have yp:y[k+(t-1)]?=some (l[k+(t-1)]'(by omega)):=by rw [g7 _ (by omega)];exact gp
       have hst2:=dedupA_step (l:=l) (k:=k+(t-1)) (x:=l[k+t]) gp (by rw [show k+(t-1)+1=k+t by omega];exact gx)
       rw [show k+(t-1)+1=k+t by omega] at hst2
       rw [decide_eq_true (show (↑t:Int)<(↑(List.length y-k):Int) by omega),cond_true,idxn_at yx,chk_pos (by omega),show Int.toNat ((↑t:Int)-1)=t-1 by omega,idxn_at yp,hq _ (List.getElem_mem _) _ (List.getElem_mem _)]
       simp only [Option.bind_some]
       by_cases g9:l[k+t]=l[k+(t-1)]'(by omega)
       ·rw [if_pos g9] at hst2
        refine ⟨(y,kk,t+1),by rw [decide_eq_true g9];rfl,⟨by simp only;omega,by simp only;omega,g3,?_,by simp only;omega,?_,g7⟩,by simp only;omega⟩
        ·simp only
         rw [show k+(t+1)=k+t+1 by omega,hst2]
         exact g4
        ·simp only
         rw [show k+(t+1)=k+t+1 by omega,hst2]
         exact g6
       ·rw [if_neg g9] at hst2
        have yk:=get_at (l:=y) (i:=kk) (by omega)
        refine ⟨(y.set kk l[k+t],kk+1,t+1),?_,⟨by simp only;omega,by simp only;omega,by simp only [List.length_set];exact g3,?_,by simp only;omega,?_,fun j hj=>?_⟩,by simp only;omega⟩
        ·rw [decide_eq_false g9]
         simp only [Bool.not_false,cond_true]
         rw [idxn_at yx,idxn_at yk,chk_pos (by unfold inR;omega)]
        ·simp only
         rw [show k+(t+1)=k+t+1 by omega,hst2,List.length_append,← g4]
         rfl
        ·simp only
         have e1:(y.set kk l[k+t])[kk]?=some l[k+t]:=by rw [List.getElem?_set];simp;omega
         rw [show k+(t+1)=k+t+1 by omega,hst2,take_step e1,List.take_set_of_le (Nat.le_refl _),g6]
        ·simp only at hj
         rw [List.getElem?_set_ne (by omega)]
         exact g7 j (by omega)
      ·right
       have e:k+t=l.length:=by omega
       refine ⟨(y,kk),?_,by simp only;omega,g3,?_⟩
       ·rw [decide_eq_false (by omega),cond_false]
       ·simp only
        rw [e,List.take_length] at g6
        exact g6) fuel (l,k,1) ⟨Nat.le_refl _,by simp only;omega,rfl,by simp only;rw [hst,h4,List.length_take];omega,by simp only;omega,by simp only;rw [hst,h4],fun j _=>rfl⟩ (by have:=fuel_big;simp only;omega)
    obtain ⟨⟨y,kk⟩,e,g1,g2,g3⟩:=inner
    simp only at g1 g2 g3
    refine ⟨.inr (dedupA l),?_,rfl⟩
    rw [e]
    simp only [Option.bind_some,slices_CompactFunc_SSint_Sint_n1.k19]
    have e2:(List.take kk y++List.replicate (List.length y-kk) ([]:List Int)).length=l.length:=by
     rw [List.length_append,List.length_take,List.length_replicate]
     omega
    rw [chk_pos (by omega),chk_pos (by omega),chk_pos (by rw [e2];omega),List.take_append_of_le_length (by rw [List.length_take];omega),List.take_take,Nat.min_self,g3]
   ·left
    rw [if_neg h6] at hst
    refine ⟨k+1,by rw [decide_eq_false h6];rfl,⟨by omega,by omega,?_⟩,by omega⟩
    rw [hst,h4,take_step hx]
  ·right
   have e:k=l.length:=by omega
   subst e
   refine ⟨.inl (),?_,?_⟩
   ·rw [dec_end];rfl
   ·rw [List.take_length] at h4
    rw [h4]
    rfl) fuel 1 ⟨Nat.le_refl _,by omega,dedupA_short (by rw [List.length_take];omega)⟩ (by have:=fuel_big;omega)
 obtain ⟨r,e,hr⟩:=key
 rw [e]
 exact hr
theorem libclone_word {w:List Int} (h:SmW w):lib_Clone_int w=some w:=by
 unfold lib_Clone_int libClone
 exact chk_pos (by unfold SmW at h;unfold capOk;omega)
theorem libclone_words {l:List (List Int)} (h:l.length≤2000000):lib_Clone_words l=some l:=by
 unfold lib_Clone_words libClone
 exact chk_pos (by unfold capOk;omega)
theorem ordered_eq {cf:List Int→List Int→Int} (T:TotalCmp cf) {f:List Int→List Int→Option Int} {l:List (List Int)} (hl:SmL l) (hf:∀ a∈l,∀ b∈l,f a b=some (cf a b)) :
  ∃ S,wordset_ordered l f=some S∧S.Pairwise (fun a b=>cf a b=-1)∧(∀ x,x∈S↔x∈l)∧S.length≤l.length:=by
 have hl1:l.length≤2000000:=hl.1
 obtain ⟨S,e1,hp,hs⟩:=libSort_eq T (by omega:l.length≤1000000000) hf
 obtain ⟨d1,d2⟩:=dedup_asc T hs
 have hm:∀ x,x∈dedupA S↔x∈l:=fun x=>by rw [d2,hp.mem_iff]
 have hlen:(dedupA S).length≤l.length:=by
  have:=dedupA_length S
  rw [hp.length_eq] at this
  exact this
 refine ⟨dedupA S,?_,d1,hm,hlen⟩
 unfold wordset_ordered lib_SortFunc_words
 rw [libclone_words hl1]
 simp only [Option.bind_some]
 rw [e1]
 simp only [Option.bind_some]
 rw [compact_eq (by rw [hp.length_eq];omega) (fun a ha b hb=>by
  unfold wordset_ordered_1
  rw [hf a (hp.mem_iff.1 ha) b (hp.mem_iff.1 hb)]
  simp only [Option.bind_some]
  congr 1
  exact decide_eq_decide.2 (T.zero a b))]
 simp only [Option.bind_some]
 rw [iter_eq (r:=dedupA S) (fun s=>s.1=dedupA S) (fun s=>(dedupA S).length-s.2) (fun s h1=>by
  simp only [wordset_ordered.s2]
  by_cases h3:s.2<(dedupA S).length
  ·left
   have hx:=get_at h3
   have hxs:SmW ((dedupA S)[s.2]):=hl.2 _ ((hm _).1 (List.getElem_mem _))
   refine ⟨(dedupA S,s.2+1),?_,rfl,by simp only;omega⟩
   rw [dec_lt hx,cond_true,h1,idxn_at hx,libclone_word hxs]
   simp only [Option.bind_some]
   rw [idxn_at hx,chk_pos (by unfold inR;omega),List.set_getElem_self]
  ·right
   rw [decide_eq_false (by omega),cond_false,h1]) (s:=(dedupA S,0)) rfl (by have:=fuel_big;simp only;omega)]
 rfl
theorem wordset_Sorted_eq {l:List (List Int)} (hl:SmL l):wordset_Sorted l=some (sortW l):=by
 obtain ⟨S,e,h1,h2,_⟩:=ordered_eq cmpW_total (f:=fun u0 u1=>word_Compare u0 u1) hl fun a ha b hb=>word_Compare_eq a b (by have:SmW a:=hl.2 a ha;unfold SmW at this;omega)
 unfold wordset_Sorted
 rw [e]
 show some S=_
 congr 1
 exact asc_ext h1 (sortW_asc l) fun x=>by rw [h2,mem_sortW]
end Go.Proofs.Ytkfaepfljlphoaa.Sym

/-
 Tables that grow: the program's Prefix and Suffix are the document's. Plain laws.
-/
namespace Go.Proofs.Ytkfaepfljlphoaa.Sym
set_option maxRecDepth 100000
end Go.Proofs.Ytkfaepfljlphoaa.Sym

/-
 Observations: what makes them valid, and their answers. Plain laws.
-/
namespace Go.Proofs.Ytkfaepfljlphoaa.Sym
set_option maxRecDepth 100000
theorem word_Common_eq (a b:List Int) (ha:SmW a):word_Common a b=some (common a b:Int):=by
 have ha':a.length≤2000000:=ha
 have hle:=common_le a b
 unfold word_Common
 have key:=iter_post (step:=fun k=>word_Common.s2 a b k) (fun k=>k≤a.length∧k≤b.length∧common a b=common (a.drop k) (b.drop k)+k) (fun k=>a.length-k) (fun r=>Sum.elim (fun (_:Unit)=>some (min (↑(List.length a):Int) (↑(List.length b):Int))) some r=some (common a b:Int)) (fun k ⟨h1,h2,h3⟩=>by
  simp only [word_Common.s2]
  by_cases h4:k<a.length∧k<b.length
  ·have hx:=get_at h4.1
   have hy:=get_at h4.2
   rw [decide_eq_true (show (↑k:Int)<min (↑(List.length a):Int) (↑(List.length b):Int) by omega),cond_true,idxn_at hx,idxn_at hy]
   rw [List.drop_eq_getElem_cons h4.1,List.drop_eq_getElem_cons h4.2] at h3
   by_cases e:a[k]=b[k]
   ·left
    refine ⟨k+1,by simp [e],⟨h4.1,h4.2,?_⟩,by omega⟩
    rw [h3,e]
    simp [common]
    omega
   ·right
    simp only [common,e,if_false,Nat.zero_add] at h3
    exact ⟨.inr (k:Int),by simp [e],by rw [h3];rfl⟩
  ·right
   rw [decide_eq_false (by omega),cond_false]
   refine ⟨.inl (),rfl,?_⟩
   rw [common_end (by omega),Nat.zero_add] at h3
   simp only [Sum.elim_inl]
   congr 1
   omega) fuel 0 ⟨Nat.zero_le _,Nat.zero_le _,by simp⟩ (by have:=fuel_big;omega)
 obtain ⟨r,e,hq⟩:=key
 rw [e]
 exact hq
theorem word_HasPrefix_eq (w p:List Int) (hw:SmW w):word_HasPrefix w p=some (decide (p <+: w)):=by
 unfold word_HasPrefix
 rw [word_Common_eq w p hw,obind]
 congr 1
 exact decide_eq_decide.2 (by rw [← prefix_iff w p];omega)
def PropT (n:Int) (t:T_api_Trace):Prop:=checkI t.In n=0∧t.Out.length=t.In.length∧∀ y∈t.Out,0≤y∧y≤1048576
def Agree (a b:T_api_Trace):Prop:=a.Out.take (common a.In b.In)=b.Out.take (common a.In b.In)
structure ObsOk (o:T_api_Obs):Prop where
 inp:1≤o.Inputs∧o.Inputs≤64
 num:o.Traces.length≤10000
 prop:∀ t∈o.Traces,PropT o.Inputs t∧t.In≠[]
 asc:∀ (i j:Nat) a b,i<j→o.Traces[i]?=some a→o.Traces[j]?=some b→cmpW a.In b.In=-1
 apart:∀ (i j:Nat) a b,i<j→o.Traces[i]?=some a→o.Traces[j]?=some b→¬ a.In <+: b.In∧Agree a b
end Go.Proofs.Ytkfaepfljlphoaa.Sym

/-
 Answers and rows: the program's finder answers as the document's observations do. Plain laws.
-/
namespace Go.Proofs.Ytkfaepfljlphoaa.Sym
set_option maxRecDepth 100000
end Go.Proofs.Ytkfaepfljlphoaa.Sym

/-
 Observations that grow: the program's Add is the document's, and keeps valid observations valid. Plain laws.
-/
namespace Go.Proofs.Ytkfaepfljlphoaa.Sym
set_option maxRecDepth 100000
theorem common_comm:∀ a b:List Int,common a b=common b a
 | [],[]=>rfl
 | [],_::_=>rfl
 | _::_,[]=>rfl
 | x::a,y::b=>by
  unfold common
  by_cases h:x=y
  ·rw [if_pos h,if_pos h.symm,common_comm a b]
  ·rw [if_neg h,if_neg fun e=>h e.symm]
theorem Agree.symm {a b:T_api_Trace} (h:Agree a b):Agree b a:=by
 unfold Agree at h ⊢
 rw [common_comm]
 exact h.symm
def clashO (l:List T_api_Trace) (t:T_api_Trace):Prop:=∃ u∈l,¬ Agree u t
instance (a b:T_api_Trace):Decidable (Agree a b):=by unfold Agree;infer_instance
instance (l:List T_api_Trace) (t:T_api_Trace):Decidable (clashO l t):=by unfold clashO;infer_instance
theorem ObsOk.pw {o:T_api_Obs} (hv:ObsOk o):o.Traces.Pairwise (fun a b=>cmpW a.In b.In=-1)∧o.Traces.Pairwise (fun a b=>¬ a.In <+: b.In∧Agree a b) :=
 ⟨List.pairwise_iff_getElem.2 fun i j hi hj hij=>hv.asc i j _ _ hij (get_at hi) (get_at hj),List.pairwise_iff_getElem.2 fun i j hi hj hij=>hv.apart i j _ _ hij (get_at hi) (get_at hj)⟩
end Go.Proofs.Ytkfaepfljlphoaa.Sym

/-
 Observations that grow: what the program's Add and the document's Add come to. Plain laws.
-/
namespace Go.Proofs.Ytkfaepfljlphoaa.Sym
set_option maxRecDepth 100000
end Go.Proofs.Ytkfaepfljlphoaa.Sym

/-
 Rows, missing queries and maximal words: the program's are the document's. Plain laws.
-/
namespace Go.Proofs.Ytkfaepfljlphoaa.Sym
set_option maxRecDepth 100000
theorem wordset_Maximal_eq {l:List (List Int)} (hl:SmL l):wordset_Maximal l=some (maxR l):=by
 have hl1:l.length≤2000000:=hl.1
 obtain ⟨L,e1,h1,h2,h3⟩:=ordered_eq lexI_total (f:=fun u0 u1=>word_Lex u0 u1) hl fun a ha b hb=>word_Lex_eq a b (by have:SmW a:=hl.2 a ha;unfold SmW at this;omega)
 have hLs:∀ x∈L,SmW x:=fun x hx=>hl.2 x ((h2 x).1 hx)
 unfold wordset_Maximal
 rw [e1,obind]
 have key:=iter_eq (step:=fun (s:List (List Int)×Nat)=>wordset_Maximal.s2 L s.1 s.2) (r:=keepM L) (fun s=>s.2≤L.length∧s.1.length≤s.2∧keepM L=s.1++keepM (L.drop s.2)) (fun s=>L.length-s.2) (fun s ⟨g1,g2,g3⟩=>by
  obtain ⟨y,i⟩:=s
  simp only at g1 g2 g3
  simp only [wordset_Maximal.s2]
  by_cases g4:i<L.length
  ·left
   have hx:=get_at g4
   rw [dec_lt hx,cond_true,idxn_at hx]
   by_cases g5:i+1=L.length
   ·rw [keepM_end hx g5] at g3
    refine ⟨(y++[L[i]],i+1),?_,⟨by simp only;omega,by simp;omega,by simp only;rw [g3];simp⟩,by simp only;omega⟩
    rw [decide_eq_true (by omega),cond_true,obind,cond_true,chk_pos (by unfold capOk;omega)]
   ·have hy:=get_at (l:=L) (i:=i+1) (by omega)
    rw [keepM_step hx hy] at g3
    rw [decide_eq_false (by omega),cond_false,idxn_at hy,word_HasPrefix_eq _ _ (hLs _ (List.getElem_mem _)),obind,obind]
    by_cases g6:L[i] <+: (L[i+1]'(by omega))
    ·rw [if_pos g6] at g3
     refine ⟨(y,i+1),?_,⟨by simp only;omega,by simp only;omega,g3⟩,by simp only;omega⟩
     rw [decide_eq_true g6]
     rfl
    ·rw [if_neg g6] at g3
     refine ⟨(y++[L[i]],i+1),?_,⟨by simp only;omega,by simp;omega,by simp only;rw [g3];simp⟩,by simp only;omega⟩
     rw [decide_eq_false g6,Bool.not_false,cond_true,chk_pos (by unfold capOk;omega)]
  ·right
   have e:i=L.length:=by omega
   subst e
   rw [List.drop_length] at g3
   rw [decide_eq_false (by omega),cond_false,g3]
   simp [keepM]) (n:=fuel) (s:=([],0)) ⟨Nat.zero_le _,by simp,by simp⟩ (by have:=fuel_big;simp only;omega)
 have hk:=keepM_sub L
 have hkl:SmL (keepM L):=⟨by have:=hk.length_le;omega,fun x hx=>hLs x (hk.mem hx)⟩
 rw [key,obind,wordset_Sorted_eq hkl,obind,sortW_keepM h1 h2]
end Go.Proofs.Ytkfaepfljlphoaa.Sym

/-
 Machines: validity and runs. Plain laws.
-/
namespace Go.Proofs.Ytkfaepfljlphoaa.Sym
set_option maxRecDepth 100000
structure MacOk (m:T_api_Mealy):Prop where
 i1:1≤m.Inputs
 i2:m.Inputs≤64
 n1:0<m.Next.length
 n2:m.Next.length≤128
 st:0≤m.Start∧m.Start<(↑m.Next.length:Int)
 ol:m.Out.length=m.Next.length
 row:∀ s,s<m.Next.length→∃ x y,m.Next[s]?=some x∧m.Out[s]?=some y∧(↑x.length:Int)=m.Inputs∧(↑y.length:Int)=m.Inputs∧(∀ u∈x,0≤u∧u<(↑m.Next.length:Int))∧∀ v∈y,0≤v∧v≤1048576
def nx (m:T_api_Mealy) (s a:Nat):Nat:=((((m.Next[s]?).getD [])[a]?).getD 0).toNat
def ot (m:T_api_Mealy) (s a:Nat):Int:=(((m.Out[s]?).getD [])[a]?).getD 0
section
variable {m:T_api_Mealy}
theorem MacOk.at (H:MacOk m) {s a:Nat} (hs:s<m.Next.length) (ha:a<m.Inputs.toNat):nx m s a<m.Next.length∧0≤ot m s a∧ot m s a≤1048576∧∃ x y,m.Next[s]?=some x∧m.Out[s]?=some y∧x[a]?=some (↑(nx m s a):Int)∧y[a]?=some (ot m s a):=by
 obtain ⟨x,y,h1,h2,h3,h4,h5,h6⟩:=H.row s hs
 have hx:=get_at (l:=x) (i:=a) (by omega)
 have hy:=get_at (l:=y) (i:=a) (by omega)
 have e1:nx m s a=(x[a]'(by omega)).toNat:=by
  unfold nx
  rw [h1,Option.getD_some,hx,Option.getD_some]
 have e2:ot m s a=y[a]'(by omega):=by
  unfold ot
  rw [h2,Option.getD_some,hy,Option.getD_some]
 have g1:=h5 _ (List.getElem_mem (by omega:a<x.length))
 have g2:=h6 _ (List.getElem_mem (by omega:a<y.length))
 refine ⟨by rw [e1];omega,by rw [e2];exact g2.1,by rw [e2];exact g2.2,x,y,h1,h2,?_,by rw [e2];exact hy⟩
 rw [hx,e1]
 congr 1
 omega
def outs (m:T_api_Mealy):Nat→List Int→List Int
 | _,[]=>[]
 | s,a::w=>ot m s a.toNat::outs m (nx m s a.toNat) w
def dest (m:T_api_Mealy):Nat→List Int→Nat
 | s,[]=>s
 | s,a::w=>dest m (nx m s a.toNat) w
def WOk (n:Int) (w:List Int):Prop:=∀ a∈w,0≤a∧a<n
theorem outs_append:∀ (w v:List Int) (s:Nat),outs m s (w++v)=outs m s w++outs m (dest m s w) v
 | [],_,_=>rfl
 | a::w,v,s=>by
  show ot m s a.toNat::outs m (nx m s a.toNat) (w++v)=_
  rw [outs_append w v]
  rfl
theorem dest_append:∀ (w v:List Int) (s:Nat),dest m s (w++v)=dest m (dest m s w) v
 | [],_,_=>rfl
 | _::w,v,_=>dest_append w v _
theorem outs_len:∀ (w:List Int) (s:Nat),(outs m s w).length=w.length
 | [],_=>rfl
 | a::w,s=>by
  show (outs m (nx m s a.toNat) w).length+1=w.length+1
  rw [outs_len w]
theorem WOk.tail {n:Int} {a:Int} {w:List Int} (h:WOk n (a::w)):WOk n w:=fun x hx=>h x (List.mem_cons_of_mem _ hx)
theorem WOk.head {n:Int} {a:Int} {w:List Int} (h:WOk n (a::w)):0≤a∧a<n:=h a (by simp)
theorem WOk.take {n:Int} {w:List Int} (h:WOk n w) (k:Nat):WOk n (w.take k):=fun x hx=>h x (List.mem_of_mem_take hx)
theorem WOk.append {n:Int} {w v:List Int} (h:WOk n w) (g:WOk n v):WOk n (w++v):=fun x hx=>(List.mem_append.1 hx).elim (h x) (g x)
theorem MacOk.dest (H:MacOk m):∀ {w:List Int} {s:Nat},WOk m.Inputs w→s<m.Next.length→dest m s w<m.Next.length
 | [],_,_,hs=>hs
 | a::w,s,hw,hs=>by
  have:=hw.head
  exact H.dest (w:=w) hw.tail (H.at hs (a:=a.toNat) (by omega)).1
def RowRng (n:Nat) (u v:Int):Prop:=(0≤u∧u<(↑n:Int))∧0≤v∧v≤1048576
theorem R06_row_tot (h1:m.Inputs≤64) {s:Nat} (hs:s<m.Next.length) (ho:m.Out.length=m.Next.length):∃ e,R06_row m (↑s:Int)=some e∧(e=0→∃ x y,m.Next[s]?=some x∧m.Out[s]?=some y∧(↑x.length:Int)=m.Inputs∧(↑y.length:Int)=m.Inputs∧(∀ u∈x,0≤u∧u<(↑m.Next.length:Int))∧∀ v∈y,0≤v∧v≤1048576):=by
 obtain ⟨x,hx⟩:∃ x,m.Next[s]?=some x:=⟨_,get_at hs⟩
 obtain ⟨y,hy⟩:∃ y,m.Out[s]?=some y:=⟨_,get_at (l:=m.Out) (i:=s) (by omega)⟩
 unfold R06_row
 rw [idx_at rfl hx]
 by_cases g1:(↑x.length:Int)=m.Inputs
 ·by_cases g2:(↑y.length:Int)=m.Inputs
  ·rw [decide_eq_false (fun h=>h g1),cond_false,idx_at rfl hy,decide_eq_false (fun h=>h g2),obind,cond_false]
   obtain ⟨r,hr,hq⟩:=iter_post (step:=fun a=>R06_row.s2 m (↑s:Int) a) (fun a=>a≤x.length∧∀ b u v,b<a→x[b]?=some u→y[b]?=some v→RowRng m.Next.length u v) (fun a=>x.length-a) (fun r=>r=.inr 2∨(r=.inl ()∧∀ b u v,b<x.length→x[b]?=some u→y[b]?=some v→RowRng m.Next.length u v)) (fun a ⟨q1,q2⟩=>by
    simp only [R06_row.s2]
    by_cases q3:a<x.length
    ·obtain ⟨u,ha⟩:∃ u,x[a]?=some u:=⟨_,get_at q3⟩
     obtain ⟨v,hb⟩:∃ v,y[a]?=some v:=⟨_,get_at (l:=y) (i:=a) (by omega)⟩
     rw [decide_eq_true (by omega),cond_true,idx_at rfl hx,idxn_at ha]
     by_cases z1:u<0
     ·right
      exact ⟨.inr 2,by rw [decide_eq_true z1];rfl,Or.inl rfl⟩
     rw [decide_eq_false z1,cond_false,idx_at rfl hx,idxn_at ha]
     by_cases z2:(↑m.Next.length:Int)≤u
     ·right
      exact ⟨.inr 2,by rw [decide_eq_true z2];rfl,Or.inl rfl⟩
     rw [decide_eq_false z2,cond_false,idx_at rfl hy,idxn_at hb]
     by_cases z3:v<0
     ·right
      exact ⟨.inr 2,by rw [decide_eq_true z3];rfl,Or.inl rfl⟩
     rw [decide_eq_false z3,cond_false,idx_at rfl hy,idxn_at hb]
     by_cases z4:1048576<v
     ·right
      exact ⟨.inr 2,by rw [decide_eq_true z4];rfl,Or.inl rfl⟩
     left
     refine ⟨a+1,by rw [decide_eq_false z4,obind,cond_false,chk_pos (by unfold inR;omega)],⟨q3,fun b u' v' hb' hu hv=>?_⟩,by omega⟩
     rcases Nat.lt_or_ge b a with h | h
     ·exact q2 b u' v' h hu hv
     ·have e:b=a:=by omega
      subst e
      rw [ha] at hu
      rw [hb] at hv
      injection hu with hu
      injection hv with hv
      subst hu
      subst hv
      exact ⟨⟨by omega,by omega⟩,by omega,by omega⟩
    ·right
     have e:a=x.length:=by omega
     subst e
     exact ⟨.inl (),by rw [decide_eq_false (by omega),cond_false],Or.inr ⟨rfl,q2⟩⟩) fuel 0 ⟨Nat.zero_le _,fun b _ _ h=>absurd h (Nat.not_lt_zero _)⟩ (by have:=fuel_big;omega)
   rw [hr,obind]
   rcases hq with rfl | ⟨rfl,hq⟩
   ·exact ⟨2,rfl,fun h=>by cases h⟩
   ·refine ⟨0,rfl,fun _=>⟨x,y,hx,hy,g1,g2,fun u hu=>?_,fun v hv=>?_⟩⟩
    ·obtain ⟨b,hb,rfl⟩:=List.mem_iff_getElem.1 hu
     exact (hq b _ _ hb (get_at hb) (get_at (l:=y) (by omega))).1
    ·obtain ⟨b,hb,rfl⟩:=List.mem_iff_getElem.1 hv
     exact (hq b _ _ (by omega) (get_at (l:=x) (by omega)) (get_at hb)).2
  ·exact ⟨1,by rw [decide_eq_false (fun h=>h g1),cond_false,idx_at rfl hy,decide_eq_true g2];rfl,fun h=>by cases h⟩
 ·exact ⟨1,by rw [decide_eq_true g1];rfl,fun h=>by cases h⟩
theorem R06_Valid_tot (m:T_api_Mealy):∃ e,R06_Valid m=some e∧(e=0→MacOk m):=by
 unfold R06_Valid
 by_cases c1:m.Inputs<1
 ·exact ⟨2,by rw [decide_eq_true c1];rfl,fun h=>by cases h⟩
 rw [decide_eq_false c1,cond_false]
 by_cases c2:64<m.Inputs
 ·exact ⟨2,by rw [decide_eq_true c2];rfl,fun h=>by cases h⟩
 rw [decide_eq_false c2,obind,cond_false]
 by_cases c3:(↑m.Next.length:Int)=0
 ·exact ⟨19,by rw [decide_eq_true c3];rfl,fun h=>by cases h⟩
 rw [decide_eq_false c3,cond_false]
 by_cases c4:128<(↑m.Next.length:Int)
 ·exact ⟨11,by rw [decide_eq_true c4];rfl,fun h=>by cases h⟩
 rw [decide_eq_false c4,cond_false]
 by_cases c5:m.Start<0
 ·exact ⟨2,by rw [decide_eq_true c5];rfl,fun h=>by cases h⟩
 rw [decide_eq_false c5,cond_false]
 by_cases c6:(↑m.Next.length:Int)≤m.Start
 ·exact ⟨2,by rw [decide_eq_true c6];rfl,fun h=>by cases h⟩
 rw [decide_eq_false c6,obind,cond_false]
 by_cases c7:(↑m.Out.length:Int)=(↑m.Next.length:Int)
 ·rw [decide_eq_false (fun h=>h c7),cond_false]
  have ho:m.Out.length=m.Next.length:=by omega
  obtain ⟨r,hr,hq⟩:=iter_post (step:=fun s=>R06_Valid.s2 m s) (fun a=>a≤m.Next.length∧∀ s,s<a→∃ x y,m.Next[s]?=some x∧m.Out[s]?=some y∧(↑x.length:Int)=m.Inputs∧(↑y.length:Int)=m.Inputs∧(∀ u∈x,0≤u∧u<(↑m.Next.length:Int))∧∀ v∈y,0≤v∧v≤1048576) (fun a=>m.Next.length-a) (fun r=>(∃ e,r=.inr e∧e≠0)∨(r=.inl ()∧∀ s,s<m.Next.length→∃ x y,m.Next[s]?=some x∧m.Out[s]?=some y∧(↑x.length:Int)=m.Inputs∧(↑y.length:Int)=m.Inputs∧(∀ u∈x,0≤u∧u<(↑m.Next.length:Int))∧∀ v∈y,0≤v∧v≤1048576)) (fun a ⟨q1,q2⟩=>by
   simp only [R06_Valid.s2]
   by_cases q3:a<m.Next.length
   ·obtain ⟨e,he,hz⟩:=R06_row_tot (m:=m) (by omega) q3 ho
    rw [decide_eq_true (by omega),cond_true,he,obind]
    by_cases z:e=0
    ·left
     refine ⟨a+1,by rw [decide_eq_false (fun h=>h z),cond_false],⟨q3,fun s hs=>?_⟩,by omega⟩
     rcases Nat.lt_or_ge s a with h | h
     ·exact q2 s h
     ·have e2:s=a:=by omega
      subst e2
      exact hz z
    ·right
     exact ⟨.inr e,by rw [decide_eq_true z,cond_true],Or.inl ⟨e,rfl,z⟩⟩
   ·right
    have e:a=m.Next.length:=by omega
    subst e
    exact ⟨.inl (),by rw [decide_eq_false (by omega),cond_false],Or.inr ⟨rfl,q2⟩⟩) fuel 0 ⟨Nat.zero_le _,fun s h=>absurd h (Nat.not_lt_zero _)⟩ (by have:=fuel_big;omega)
  rw [hr,obind]
  rcases hq with ⟨e,rfl,hz⟩ | ⟨rfl,hq⟩
  ·exact ⟨e,rfl,fun h=>absurd h hz⟩
  ·exact ⟨0,rfl,fun _=>⟨by omega,by omega,by omega,by omega,⟨by omega,by omega⟩,ho,hq⟩⟩
 ·exact ⟨1,by rw [decide_eq_true c7];rfl,fun h=>by cases h⟩
theorem macOk_of (h:R06_Valid m=some 0):MacOk m:=by
 obtain ⟨e,he,hz⟩:=R06_Valid_tot m
 rw [h] at he
 injection he with he
 exact hz he.symm
end
end Go.Proofs.Ytkfaepfljlphoaa.Sym

/-
 Devices: what the program's and the document's Query come to. Plain laws.
-/
namespace Go.Proofs.Ytkfaepfljlphoaa.Sym
set_option maxRecDepth 100000
theorem mealy_Valid_ok {m:T_api_Mealy} (H:MacOk m):mealy_Valid m=some 0:=by
 have i1:=H.i1
 have i2:=H.i2
 have n1:=H.n1
 have n2:=H.n2
 have st:=H.st
 have ol:=H.ol
 unfold mealy_Valid
 rw [decide_eq_false (by omega),cond_false,decide_eq_false (by omega),obind,cond_false,decide_eq_false (by omega),cond_false,decide_eq_false (by omega),cond_false,decide_eq_false (by omega),cond_false,decide_eq_false (by omega),obind,cond_false,decide_eq_false (by omega),cond_false]
 have inner:∀ s,s<m.Next.length→iter (fun (a:Nat)=>mealy_Valid.s13 m s a) fuel 0=some (.inl ()):=fun s hs =>
  iter_eq (fun a=>a≤m.Inputs.toNat) (fun a=>m.Inputs.toNat-a) (fun a ha=>by
   simp only [mealy_Valid.s13]
   by_cases g:a<m.Inputs.toNat
   ·left
    obtain ⟨h1,h2,h3,x,y,hx,hy,hxa,hya⟩:=H.at hs g
    refine ⟨a+1,?_,g,by omega⟩
    rw [decide_eq_true (by omega),cond_true,idxn_at hx,idxn_at hxa,idxn_at hy,idxn_at hya,decide_eq_false (by omega),cond_false,decide_eq_false (by omega),cond_false,decide_eq_false (by omega),cond_false,decide_eq_false (by omega),obind,cond_false,chk_pos (by unfold inR;omega)]
   ·right
    rw [decide_eq_false (by omega),cond_false]) (Nat.zero_le _) (by have:=fuel_big;omega)
 have outer:iter (fun (s:Nat)=>mealy_Valid.s14 m s) fuel 0=some (.inl ()) :=
  iter_eq (fun s=>s≤m.Next.length) (fun s=>m.Next.length-s) (fun s hs=>by
   simp only [mealy_Valid.s14]
   by_cases g:s<m.Next.length
   ·left
    obtain ⟨x,y,hx,hy,hl1,hl2,_,_⟩:=H.row s g
    refine ⟨s+1,?_,g,by omega⟩
    rw [decide_eq_true (by omega),cond_true,idxn_at hx,decide_eq_false (by omega),cond_false,idxn_at hy,decide_eq_false (by omega),obind,cond_false,inner s g,obind]
    rfl
   ·right
    rw [decide_eq_false (by omega),cond_false]) (Nat.zero_le _) (by have:=fuel_big;omega)
 rw [outer,obind]
 rfl
abbrev costOk (l:T_api_Latency):Prop:=(∀ c∈l.Step,0≤c∧c≤1048576)∧0≤l.Reset∧l.Reset≤1048576
abbrev cntOk (n:Int):Prop:=0≤n∧n≤1125899906842624
abbrev faultOk (f:T_api_Faults):Prop:=(0≤f.Lost∧f.Lost≤10000)∧(0≤f.Wrong∧f.Wrong≤10000)∧(0≤f.Crash∧f.Crash≤10000)∧f.Lost+f.Wrong+f.Crash≤10000
structure DevOk (d:T_api_Device):Prop where
 v6:R06_Valid d.M=some 0
 st:0≤d.State∧d.State<(↑d.M.Next.length:Int)
 ll:(↑d.Latency.Step.length:Int)=d.M.Inputs
 lc:costOk d.Latency
 fl:faultOk d.Faults
 c1:cntOk d.Steps
 c2:cntOk d.Resets
 c3:cntOk d.Time
section
variable {d:T_api_Device}
end
end Go.Proofs.Ytkfaepfljlphoaa.Sym

/-
 Validity of machines: the program's and the document's error. Plain laws.
-/
namespace Go.Proofs.Ytkfaepfljlphoaa.Sym
set_option maxRecDepth 100000
theorem scan_map {α R R':Type} {g:Nat→α→Option R} {f:R→R'}:∀ (l:List α) (j:Nat),scan (fun i x=>(g i x).map f) j l=(scan g j l).map f
 | [],_=>rfl
 | x::l,j=>by
  unfold scan
  cases g j x with
  | some r=>rfl
  | none=>exact scan_map l (j+1)
theorem scan_mem {α R:Type} {g:Nat→α→Option R} {r:R}:∀ {l:List α} {j:Nat},scan g j l=some r→∃ i x,l[i]?=some x∧g (j+i) x=some r
 | [],_,h=>by cases h
 | x::l,j,h=>by
  unfold scan at h
  cases e:g j x with
  | some q =>
   rw [e] at h
   exact ⟨0,x,rfl,by rw [Nat.add_zero,e];exact h⟩
  | none =>
   rw [e] at h
   obtain ⟨i,y,h1,h2⟩:=scan_mem (j:=j+1) h
   exact ⟨i+1,y,by simpa using h1,by rw [show j+(i+1)=j+1+i by omega,h2]⟩
def celE (n:Nat) (u v:Int):Option Int:=if u<0∨(↑n:Int)≤u∨v<0∨1048576<v then some 2 else none
def rowE (m:T_api_Mealy) (s:Nat) (x:List Int):Option Int :=
 if (↑x.length:Int)≠m.Inputs∨(↑((m.Out[s]?).getD []).length:Int)≠m.Inputs then some 1 else scan (fun a u=>celE m.Next.length u ((((m.Out[s]?).getD [])[a]?).getD 0)) 0 x
def validM (m:T_api_Mealy):Int :=
 if m.Inputs<1∨64<m.Inputs then 2 else if m.Next.length=0 then 19 else if 128<m.Next.length then 11 else if m.Start<0∨(↑m.Next.length:Int)≤m.Start then 2 else if m.Out.length≠m.Next.length then 1
 else match scan (rowE m) 0 m.Next with | some e=>e | none=>0
section
variable {m:T_api_Mealy}
theorem rowE_ne {s:Nat} {x:List Int} {e:Int} (h:rowE m s x=some e):e≠0:=by
 unfold rowE at h
 split at h
 ·injection h with h
  omega
 ·obtain ⟨i,u,_,h2⟩:=scan_mem h
  unfold celE at h2
  split at h2
  ·injection h2 with h2
   omega
  ·cases h2
theorem cel_cond {n:Nat} {u v:Int}:(cond (decide (u<0)) (some true) (cond (decide ((↑n:Int)≤u)) (some true) (cond (decide (v<0)) (some true) (some (decide (1048576<v))))):Option Bool)=some (celE n u v).isSome:=by
 unfold celE
 by_cases h1:u<0<;>by_cases h2:(↑n:Int)≤u<;>by_cases h3:v<0<;>by_cases h4:1048576<v<;>simp [h1,h2,h3,h4]
theorem celE_two {n:Nat} {u v:Int}:celE n u v=if (celE n u v).isSome=true then some 2 else none:=by
 unfold celE
 split<;>rfl
theorem row_len {s:Nat} {x y:List Int} (hx:m.Next[s]?=some x) (hy:m.Out[s]?=some y) :
  (idxn m.Next s fun e57=>cond (decide ((↑e57.length:Int)≠m.Inputs)) (some true) (idxn m.Out s fun e59=>some (decide ((↑e59.length:Int)≠m.Inputs))):Option Bool)=some (decide ((↑x.length:Int)≠m.Inputs∨(↑y.length:Int)≠m.Inputs)):=by
 rw [idxn_at hx]
 by_cases h:(↑x.length:Int)=m.Inputs
 ·rw [decide_eq_false (fun k=>k h),cond_false,idxn_at hy]
  simp [h]
 ·rw [decide_eq_true h,cond_true]
  simp [h]
theorem idx_nat {α β:Type} {l:List α} {i:Nat} {k:α→Option β}:idx l (↑i:Int) k=idxn l i k:=by
 cases h:l[i]? with
 | some x=>rw [idx_at rfl h,idxn_at h]
 | none =>
  unfold idx idxn
  rw [h,if_pos (by omega),Int.toNat_natCast,h]
theorem R06_row_eq (hi:m.Inputs≤64) {s:Nat} {x y:List Int} (hx:m.Next[s]?=some x) (hy:m.Out[s]?=some y):R06_row m (↑s:Int)=some (match rowE m s x with | some e=>e | none=>0):=by
 unfold R06_row
 rw [idx_nat]
 simp only [idx_nat]
 rw [row_len hx hy,obind]
 unfold rowE
 rw [hy,Option.getD_some]
 by_cases h:(↑x.length:Int)≠m.Inputs∨(↑y.length:Int)≠m.Inputs
 ·rw [decide_eq_true h,cond_true,if_pos h]
 ·rw [decide_eq_false h,cond_false,if_neg h]
  have h1:(↑x.length:Int)=m.Inputs:=Classical.byContradiction fun q=>h (Or.inl q)
  have h2:(↑y.length:Int)=m.Inputs:=Classical.byContradiction fun q=>h (Or.inr q)
  rw [iter_scan (l:=x) (fun a u=>celE m.Next.length u ((y[a]?).getD 0)) (fun a u hu=>?_) ?_ (by omega),obind]
  ·cases scan (fun a u=>celE m.Next.length u ((y[a]?).getD 0)) 0 x<;>rfl
  ·simp only [R06_row.s2]
   rw [decide_eq_false (by omega),cond_false]
  ·have ha:=(List.getElem?_eq_some_iff.1 hu).1
   have hv:y[a]?=some y[a]:=get_at (by omega)
   rw [hv,Option.getD_some]
   simp only [R06_row.s2,idx_nat]
   rw [decide_eq_true (by omega),cond_true]
   simp only [idxn_at hx,idxn_at hy,idxn_at hu,idxn_at hv]
   rw [cel_cond,obind]
   cases e:celE m.Next.length u y[a] with
   | none =>
    rw [Option.isSome_none,cond_false,chk_pos (by unfold inR;omega)]
   | some r =>
    have:=celE_two (n:=m.Next.length) (u:=u) (v:=y[a])
    rw [e] at this
    injection this with this
    rw [this,Option.isSome_some,cond_true]
theorem mealy_row_eq (hi:m.Inputs≤64) {s:Nat} {x y:List Int} (hx:m.Next[s]?=some x) (hy:m.Out[s]?=some y):mealy_Valid.s14 m s=some (match rowE m s x with | some e=>.inr (.inr e) | none=>.inl (s+1)):=by
 have hs:=(List.getElem?_eq_some_iff.1 hx).1
 simp only [mealy_Valid.s14]
 rw [decide_eq_true (by omega),cond_true,row_len hx hy,obind]
 unfold rowE
 rw [hy,Option.getD_some]
 by_cases h:(↑x.length:Int)≠m.Inputs∨(↑y.length:Int)≠m.Inputs
 ·rw [decide_eq_true h,cond_true,if_pos h]
 ·rw [decide_eq_false h,cond_false,if_neg h]
  have h1:(↑x.length:Int)=m.Inputs:=Classical.byContradiction fun q=>h (Or.inl q)
  have h2:(↑y.length:Int)=m.Inputs:=Classical.byContradiction fun q=>h (Or.inr q)
  rw [iter_scan (l:=x) (fun a u=>(celE m.Next.length u ((y[a]?).getD 0)).map fun r=>(.inr (.inr r):Nat⊕(Unit⊕Int))) (fun a u hu=>?_) ?_ (by omega),obind,scan_map]
  ·cases scan (fun a u=>celE m.Next.length u ((y[a]?).getD 0)) 0 x<;>rfl
  ·simp only [mealy_Valid.s13]
   rw [decide_eq_false (by omega),cond_false]
  ·have ha:=(List.getElem?_eq_some_iff.1 hu).1
   have hv:y[a]?=some y[a]:=get_at (by omega)
   rw [hv,Option.getD_some]
   simp only [mealy_Valid.s13]
   rw [decide_eq_true (by omega),cond_true]
   simp only [idxn_at hx,idxn_at hy,idxn_at hu,idxn_at hv]
   rw [cel_cond,obind]
   cases e:celE m.Next.length u y[a] with
   | none =>
    rw [Option.isSome_none,cond_false,chk_pos (by unfold inR;omega)]
    rfl
   | some r =>
    have:=celE_two (n:=m.Next.length) (u:=u) (v:=y[a])
    rw [e] at this
    injection this with this
    rw [this,Option.isSome_some,cond_true]
    rfl
theorem R06_Valid_eq (m:T_api_Mealy):R06_Valid m=some (validM m):=by
 unfold R06_Valid validM
 by_cases c1:m.Inputs<1
 ·rw [decide_eq_true c1,if_pos (Or.inl c1)];rfl
 rw [decide_eq_false c1,cond_false]
 by_cases c2:64<m.Inputs
 ·rw [decide_eq_true c2,if_pos (Or.inr c2)];rfl
 rw [decide_eq_false c2,obind,cond_false,if_neg (by omega)]
 by_cases c3:m.Next.length=0
 ·rw [decide_eq_true (by omega),if_pos c3];rfl
 rw [decide_eq_false (by omega),cond_false,if_neg c3]
 by_cases c4:128<m.Next.length
 ·rw [decide_eq_true (by omega),if_pos c4];rfl
 rw [decide_eq_false (by omega),cond_false,if_neg c4]
 by_cases c5:m.Start<0
 ·rw [decide_eq_true c5,if_pos (Or.inl c5)];rfl
 rw [decide_eq_false c5,cond_false]
 by_cases c6:(↑m.Next.length:Int)≤m.Start
 ·rw [decide_eq_true c6,if_pos (Or.inr c6)];rfl
 rw [decide_eq_false c6,obind,cond_false,if_neg (by omega)]
 by_cases c7:m.Out.length=m.Next.length
 ·rw [decide_eq_false (by omega),cond_false,if_neg (by omega),iter_scan (l:=m.Next) (rowE m) (fun s x hx=>?_) ?_ (by omega),obind]
  ·cases scan (rowE m) 0 m.Next<;>rfl
  ·simp only [R06_Valid.s2]
   rw [decide_eq_false (by omega),cond_false]
  ·have hs:=(List.getElem?_eq_some_iff.1 hx).1
   simp only [R06_Valid.s2]
   rw [decide_eq_true (by omega),cond_true,R06_row_eq (by omega) hx (get_at (l:=m.Out) (by omega)),obind]
   cases e:rowE m s x with
   | none=>rfl
   | some r=>rw [decide_eq_true (rowE_ne e),cond_true]
 ·rw [decide_eq_true (by omega),if_pos c7];rfl
theorem mealy_Valid_eq (m:T_api_Mealy):mealy_Valid m=some (validM m):=by
 unfold mealy_Valid validM
 by_cases c1:m.Inputs<1
 ·rw [decide_eq_true c1,if_pos (Or.inl c1)];rfl
 rw [decide_eq_false c1,cond_false]
 by_cases c2:64<m.Inputs
 ·rw [decide_eq_true c2,if_pos (Or.inr c2)];rfl
 rw [decide_eq_false c2,obind,cond_false,if_neg (by omega)]
 by_cases c3:m.Next.length=0
 ·rw [decide_eq_true (by omega),if_pos c3];rfl
 rw [decide_eq_false (by omega),cond_false,if_neg c3]
 by_cases c4:128<m.Next.length
 ·rw [decide_eq_true (by omega),if_pos c4];rfl
 rw [decide_eq_false (by omega),cond_false,if_neg c4]
 by_cases c5:m.Start<0
 ·rw [decide_eq_true c5,if_pos (Or.inl c5)];rfl
 rw [decide_eq_false c5,cond_false]
 by_cases c6:(↑m.Next.length:Int)≤m.Start
 ·rw [decide_eq_true c6,if_pos (Or.inr c6)];rfl
 rw [decide_eq_false c6,obind,cond_false,if_neg (by omega)]
 by_cases c7:m.Out.length=m.Next.length
 ·rw [decide_eq_false (by omega),cond_false,if_neg (by omega),iter_scan (l:=m.Next) (rowE m) (fun s x hx=>?_) ?_ (by omega),obind]
  ·cases scan (rowE m) 0 m.Next<;>rfl
  ·simp only [mealy_Valid.s14]
   rw [decide_eq_false (by omega),cond_false]
  ·have hs:=(List.getElem?_eq_some_iff.1 hx).1
   rw [mealy_row_eq (by omega) hx (get_at (l:=m.Out) (by omega))]
   cases rowE m s x<;>rfl
 ·rw [decide_eq_true (by omega),if_pos c7];rfl
theorem valid_ok (h:validM m=0):MacOk m:=macOk_of (by rw [R06_Valid_eq,h])
def fromM (m:T_api_Mealy) (s:Int) (w:List Int):List Int×Int×Int :=
 if validM m≠0 then ([],0,validM m) else if s<0∨(↑m.Next.length:Int)≤s then ([],0,2) else if checkI w m.Inputs≠0 then ([],0,checkI w m.Inputs) else (outs m s.toNat w,(↑(dest m s.toNat w):Int),0)
theorem checkI_len {w:List Int} {n:Int} (h:checkI w n=0):w.length≤1024:=by
 unfold checkI at h
 split at h
 ·split at h
  ·cases h
  ·omega
 ·cases h
theorem runner_eq (H:MacOk m) {s:Nat} (hs:s<m.Next.length) {w:List Int} (hw:WOk m.Inputs w) (hl:w.length≤100000000):mealy_runner_run (⟨(⟨m⟩:T_mealy_machine),(↑s:Int)⟩:T_mealy_runner) w=some (outs m s w,(⟨(⟨m⟩:T_mealy_machine),(↑(dest m s w):Int)⟩:T_mealy_runner)):=by
 unfold mealy_runner_run
 have key:=iter_eq (step:=fun (q:Int×List Int×Nat)=>mealy_runner_run.s2 (⟨(⟨m⟩:T_mealy_machine),(↑s:Int)⟩:T_mealy_runner) w q.1 q.2.1 q.2.2) (r:=((↑(dest m s w):Int),outs m s w)) (fun q=>q.2.2≤w.length∧q.1=(↑(dest m s (w.take q.2.2)):Int)∧q.2.1=outs m s (w.take q.2.2)) (fun q=>w.length-q.2.2) (fun q ⟨g1,g2,g3⟩=>by
  obtain ⟨st,y,k⟩:=q
  simp only at g1 g2 g3
  subst g2
  subst g3
  simp only [mealy_runner_run.s2,mealy_machine_move]
  by_cases g4:k<w.length
  ·left
   have hx:=get_at g4
   obtain ⟨x0,x1⟩:=hw _ (List.getElem_mem g4)
   have ha:w[k].toNat<m.Inputs.toNat:=by omega
   have hd:Sym.dest m s (w.take k)<m.Next.length:=H.dest (hw.take k) hs
   obtain ⟨_,_,_,x,y,e1,e2,e3,e4⟩:=H.at hd ha
   refine ⟨((↑(Sym.dest m s (w.take (k+1))):Int),outs m s (w.take (k+1)),k+1),?_,⟨g4,rfl,rfl⟩,by simp only;omega⟩
   rw [dec_lt hx,cond_true,idxn_at hx,idx_at rfl e1,idx_at (i:=w[k].toNat) (by omega) e3,idx_at rfl e2,idx_at (i:=w[k].toNat) (by omega) e4,obind,chk_pos (by unfold capOk;rw [outs_len,List.length_take];omega),take_step hx,dest_append,outs_append]
   rfl
  ·right
   have e:k=w.length:=by omega
   subst e
   rw [decide_eq_false (by omega),cond_false,List.take_length]) (n:=fuel) (s:=((↑s:Int),[],0)) ⟨Nat.zero_le _,rfl,rfl⟩ (by have:=fuel_big;simp only;omega)
 rw [key,obind]
 rfl
theorem mealy_From_eq {s:Int} {w:List Int} (hw:SmW w):mealy_From m s w=some (fromM m s w):=by
 unfold mealy_From mealy_state fromM
 rw [mealy_Valid_eq,obind]
 by_cases c1:validM m=0
 ·rw [decide_eq_false (by omega),cond_false,if_neg (by omega)]
  by_cases c2:s<0
  ·rw [decide_eq_true c2,if_pos (Or.inl c2)];rfl
  rw [decide_eq_false c2,cond_false]
  by_cases c3:(↑m.Next.length:Int)≤s
  ·rw [decide_eq_true c3,if_pos (Or.inr c3)];rfl
  rw [decide_eq_false c3,obind,cond_false,if_neg (by omega),obind,decide_eq_false (by omega),cond_false,word_Check_eq _ _ hw,obind]
  by_cases c4:checkI w m.Inputs=0
  ·have:=checkI_len c4
   have hO:=runner_eq (valid_ok c1) (s:=s.toNat) (by omega) (w:=w) (check_mem c4) (by omega)
   rw [show (↑s.toNat:Int)=s by omega] at hO
   rw [decide_eq_false (by omega),cond_false,if_neg (by omega),hO,obind]
  ·rw [decide_eq_true c4,cond_true,if_pos c4]
 ·rw [decide_eq_true c1,cond_true,if_pos c1,obind,decide_eq_true c1,cond_true]
end
end Go.Proofs.Ytkfaepfljlphoaa.Sym

/-
 Lists of words compared, small machines, tails. Plain laws.
-/
namespace Go.Proofs.Ytkfaepfljlphoaa.Sym
set_option maxRecDepth 100000
def greatM (m:T_api_Mealy):Bool:=decide (12<m.Next.length∨12<m.Out.length∨6<m.Inputs∨(∃ x∈m.Next,12<x.length)∨∃ x∈m.Out,12<x.length)
theorem scan_great (l:List (List Int)):scan (fun _ x=>if 12<List.length x then some true else none) 0 l=if ∃ x∈l,12<List.length x then some true else none:=by
 split
 ·rename_i h
  obtain ⟨x,hx,h12⟩:=h
  cases e:scan (fun _ x=>if 12<List.length x then some true else none) 0 l with
  | some q =>
   obtain ⟨i,u,_,h2⟩:=scan_mem e
   split at h2
   ·exact h2.symm
   ·cases h2
  | none =>
   obtain ⟨i,hi,rfl⟩:=List.mem_iff_getElem.1 hx
   have:=scan_none.1 e i _ (get_at hi)
   rw [if_pos h12] at this
   cases this
 ·rename_i h
  exact scan_none.2 fun i u hu=>if_neg fun q=>h ⟨u,List.mem_of_getElem? hu,q⟩
theorem great_loop {step:Nat→Option (Nat⊕(Unit⊕Bool))} {l:List (List Int)} (hl:l.length≤100) (h:∀ i,step i=cond (decide ((↑i:Int)<(↑(List.length l):Int))) (idxn l i fun e80=>cond (decide (12<(↑(List.length e80):Int))) (some (.inr (.inr true))) (some (.inl (i+1)))) (some (.inr (.inl ())))):iter step fuel 0=some (if ∃ x∈l,12<List.length x then .inr true else .inl ()):=by
 rw [iter_scan (l:=l) (fun _ x=>if 12<List.length x then some true else none) (fun i x hx=>?_) ?_ (by omega),scan_great]
 ·by_cases q:∃ x∈l,12<List.length x
  ·rw [if_pos q,if_pos q]
  ·rw [if_neg q,if_neg q]
 ·rw [h,decide_eq_false (by omega),cond_false]
 ·have hi:=(List.getElem?_eq_some_iff.1 hx).1
  rw [h,decide_eq_true (by omega),cond_true,idxn_at hx]
  by_cases e:12<x.length
  ·rw [decide_eq_true (by omega),cond_true,if_pos e]
  ·rw [decide_eq_false (by omega),cond_false,if_neg e]
theorem L08_Great_eq (m:T_api_Mealy):L08_Great m=some (greatM m):=by
 unfold L08_Great greatM
 by_cases c1:12<m.Next.length
 ·rw [decide_eq_true (by omega),cond_true,obind,cond_true,decide_eq_true (Or.inl c1)]
 rw [decide_eq_false (by omega),cond_false]
 by_cases c2:12<m.Out.length
 ·rw [decide_eq_true (by omega),cond_true,obind,cond_true,decide_eq_true (Or.inr (Or.inl c2))]
 rw [decide_eq_false (by omega),cond_false,obind]
 by_cases c3:6<m.Inputs
 ·rw [decide_eq_true c3,cond_true,decide_eq_true (Or.inr (Or.inr (Or.inl c3)))]
 rw [decide_eq_false c3,cond_false,great_loop (step:=fun s=>L08_Great.s2 m s) (l:=m.Next) (by omega) (fun _=>rfl),obind]
 by_cases c4:∃ x∈m.Next,12<x.length
 ·rw [if_pos c4,decide_eq_true (Or.inr (Or.inr (Or.inr (Or.inl c4))))];rfl
 rw [if_neg c4]
 show (iter _ fuel 0).bind _=_
 rw [great_loop (step:=fun s=>L08_Great.s4 m s) (l:=m.Out) (by omega) (fun _=>rfl),obind]
 by_cases c5:∃ x∈m.Out,12<x.length
 ·rw [if_pos c5,decide_eq_true (Or.inr (Or.inr (Or.inr (Or.inr c5))))];rfl
 ·rw [if_neg c5,decide_eq_false (by rintro (h | h | h | h | h);exact c1 h;exact c2 h;exact c3 h;exact c4 h;exact c5 h)];rfl
def smallM (m:T_api_Mealy):Bool:=!greatM m&&decide (m.Next.length≤8)&&decide (m.Inputs≤4)
theorem L11_Small_eq (m:T_api_Mealy):L11_Small m=some (smallM m):=by
 unfold L11_Small smallM
 rw [L08_Great_eq,obind]
 cases greatM m with
 | true=>rfl
 | false =>
  by_cases c:m.Next.length≤8
  ·rw [decide_eq_true c,decide_eq_true (by omega)];rfl
  ·rw [decide_eq_false c,decide_eq_false (by omega)];rfl
theorem smallM_of {m:T_api_Mealy} (h:smallM m=true):greatM m=false∧m.Next.length≤8∧m.Inputs≤4:=by
 unfold smallM at h
 rw [Bool.and_eq_true,Bool.and_eq_true,Bool.not_eq_true'] at h
 exact ⟨h.1.1,of_decide_eq_true h.1.2,of_decide_eq_true h.2⟩
section
variable {m:T_api_Mealy} {ids:List (List (List Int))} {w:List Int}
theorem fromM_start (hw:SmW w) (h:validM m=0):fromM m m.Start w=if checkI w m.Inputs≠0 then ([],0,checkI w m.Inputs) else (outs m m.Start.toNat w,(↑(dest m m.Start.toNat w):Int),0):=by
 have H:=valid_ok h
 have:=H.st
 unfold fromM
 rw [if_neg (by omega),if_neg (by omega)]
end
end Go.Proofs.Ytkfaepfljlphoaa.Sym

/-
 Search in breadth, step by step. Plain laws.
-/
namespace Go.Proofs.Ytkfaepfljlphoaa.Sym
set_option maxRecDepth 100000
section
variable {A:Type} [DecidableEq A]
def bfsB (e:A→Nat→A) (K:Nat) (s0:A):Nat→List (A×List Int)
 | 0=>[(s0,[])]
 | r+1=>match (bfsB e K s0 r)[r / K]? with
  | none=>bfsB e K s0 r
  | some x=>if e x.1 (r%K)∈(bfsB e K s0 r).map Prod.fst then bfsB e K s0 r else bfsB e K s0 r++[(e x.1 (r%K),x.2++[(↑(r%K):Int)])]
theorem dm_div {K i a:Nat} (h:a<K):(i*K+a) / K=i:=by
 rw [Nat.add_comm,Nat.add_mul_div_right _ _ (by omega),Nat.div_eq_of_lt h,Nat.zero_add]
theorem dm_mod {K i a:Nat} (h:a<K):(i*K+a)%K=a:=by
 rw [Nat.add_comm,Nat.add_mul_mod_self_right,Nat.mod_eq_of_lt h]
theorem mem_lt {i n a K:Nat} (hi:i<n) (ha:a<K):i*K+a<n*K:=by
 have:(i+1)*K≤n*K:=Nat.mul_le_mul_right K hi
 rw [Nat.succ_mul] at this
 omega
variable {e:A→Nat→A} {K:Nat} {s0:A}
theorem bfs_step {i a:Nat} {x:A×List Int} (ha:a<K) (hx:(bfsB e K s0 (i*K+a))[i]?=some x) :
  bfsB e K s0 (i*K+(a+1))=if e x.1 a∈(bfsB e K s0 (i*K+a)).map Prod.fst then bfsB e K s0 (i*K+a) else bfsB e K s0 (i*K+a)++[(e x.1 a,x.2++[(↑a:Int)])]:=by
 show bfsB e K s0 ((i*K+a)+1)=_
 rw [bfsB,dm_div ha,hx,dm_mod ha]
theorem bfs_pre1 (r:Nat):bfsB e K s0 r <+: bfsB e K s0 (r+1):=by
 rw [bfsB]
 split
 ·exact List.prefix_refl _
 ·split
  ·exact List.prefix_refl _
  ·exact List.prefix_append _ _
theorem bfs_pre {r:Nat}:∀ {r':Nat},r≤r'→bfsB e K s0 r <+: bfsB e K s0 r'
 | 0,h=>by
  have:r=0:=by omega
  subst this
  exact List.prefix_refl _
 | r'+1,h=>by
  rcases Nat.lt_or_ge r (r'+1) with g | g
  ·exact (bfs_pre (r':=r') (by omega)).trans (bfs_pre1 r')
  ·have:r=r'+1:=by omega
   subst this
   exact List.prefix_refl _
theorem pre_get {α:Type} {l l':List α} (h:l <+: l') {i:Nat} {x:α} (hx:l[i]?=some x):l'[i]?=some x:=by
 obtain ⟨t,rfl⟩:=h
 rw [List.getElem?_append_left (List.getElem?_eq_some_iff.1 hx).1,hx]
theorem bfs_pos (r:Nat):(bfsB e K s0 r)[0]?=some (s0,[]):=pre_get (bfs_pre (Nat.zero_le r)) rfl
theorem bfs_nodup:∀ r:Nat,((bfsB e K s0 r).map Prod.fst).Nodup
 | 0=>by simp [bfsB]
 | r+1=>by
  have ih:=bfs_nodup r
  rw [bfsB]
  split
  ·exact ih
  ·split
   ·exact ih
   ·rename_i x _ hn
    rw [List.map_append,List.nodup_append]
    refine ⟨ih,by simp,fun a ha b hb hab=>hn ?_⟩
    have:b=e x.1 (r%K):=by simpa using hb
    rw [← this,← hab]
    exact ha
theorem bfs_from:∀ {r u:Nat} {x:A×List Int},(bfsB e K s0 r)[u]?=some x→u=0∨∃ r' y,r'<r∧r' / K<u∧(bfsB e K s0 r)[r' / K]?=some y∧x=(e y.1 (r'%K),y.2++[(↑(r'%K):Int)])
 | 0,u,x,h=>by
  left
  have:=(List.getElem?_eq_some_iff.1 h).1
  simp [bfsB] at this
  exact this
 | r+1,u,x,h=>by
  have old:(bfsB e K s0 r)[u]?=some x→u=0∨∃ r' y,r'<r+1∧r' / K<u∧(bfsB e K s0 (r+1))[r' / K]?=some y∧x=(e y.1 (r'%K),y.2++[(↑(r'%K):Int)]):=fun h=>by
   rcases bfs_from h with h | ⟨r',y,h1,h2,h3,h4⟩
   ·exact Or.inl h
   ·exact Or.inr ⟨r',y,by omega,h2,pre_get (bfs_pre1 r) h3,h4⟩
  have hh:=h
  rw [bfsB] at h
  split at h
  ·exact old h
  ·rename_i y hy
   split at h
   ·exact old h
   ·rename_i hn
    rcases Nat.lt_or_ge u (bfsB e K s0 r).length with g | g
    ·rw [List.getElem?_append_left g] at h
     exact old h
    ·right
     rw [List.getElem?_append_right g] at h
     have hu:u-(bfsB e K s0 r).length=0:=by
      have:=(List.getElem?_eq_some_iff.1 h).1
      simpa using this
     rw [hu] at h
     have hx:x=(e y.1 (r%K),y.2++[(↑(r%K):Int)]):=by
      simp at h
      exact h.symm
     have hk:=(List.getElem?_eq_some_iff.1 hy).1
     exact ⟨r,y,by omega,by omega,pre_get (bfs_pre1 r) hy,hx⟩
theorem bfs_to {r:Nat} {x:A×List Int} (hx:(bfsB e K s0 r)[r / K]?=some x):e x.1 (r%K)∈(bfsB e K s0 (r+1)).map Prod.fst:=by
 rw [bfsB,hx]
 simp only
 split
 ·assumption
 ·simp
structure BfsEnd (e:A→Nat→A) (K:Nat) (s0:A) (L:List (A×List Int)):Prop where
 eq:L=bfsB e K s0 (L.length*K)
variable {L:List (A×List Int)}
theorem BfsEnd.at (h:BfsEnd e K s0 L) {r:Nat} (hr:r≤L.length*K):bfsB e K s0 r <+: L:=by
 have:=bfs_pre (e:=e) (K:=K) (s0:=s0) hr
 rw [← h.eq] at this
 exact this
theorem BfsEnd.first (h:BfsEnd e K s0 L):L[0]?=some (s0,[]):=by
 rw [h.eq]
 exact bfs_pos _
theorem BfsEnd.nodup (h:BfsEnd e K s0 L):(L.map Prod.fst).Nodup:=by
 rw [h.eq]
 exact bfs_nodup _
theorem BfsEnd.long (h:BfsEnd e K s0 L) {i a:Nat} (hi:i<L.length) (ha:a<K):∃ x,L[i]?=some x∧(bfsB e K s0 (i*K+a))[i]?=some x:=by
 refine ⟨_,List.getElem?_eq_getElem hi,?_⟩
 have hpre:=h.at (r:=i*K+a) (by have:=mem_lt hi ha;omega)
 rcases Nat.lt_or_ge i (bfsB e K s0 (i*K+a)).length with g | g
 ·have:=pre_get hpre (List.getElem?_eq_getElem g)
  rw [List.getElem?_eq_getElem hi] at this
  rw [List.getElem?_eq_getElem g,this]
 ·exfalso
  have stay:∀ d,bfsB e K s0 (i*K+a+d)=bfsB e K s0 (i*K+a):=by
   intro d
   induction d with
   | zero=>rfl
   | succ d ih =>
    show bfsB e K s0 (i*K+a+d+1)=_
    rw [bfsB,ih,List.getElem?_eq_none ?_]
    have h1:(i*K+a) / K≤(i*K+a+d) / K:=Nat.div_le_div_right (by omega)
    rw [dm_div ha] at h1
    omega
  have h2:=stay (L.length*K-(i*K+a))
  rw [show i*K+a+(L.length*K-(i*K+a))=L.length*K by have:=mem_lt hi ha;omega,← h.eq] at h2
  rw [← h2] at g
  omega
theorem BfsEnd.closed (h:BfsEnd e K s0 L) {i a:Nat} {x:A×List Int} (hx:L[i]?=some x) (ha:a<K):∃ j y,L[j]?=some y∧y.1=e x.1 a∧∀ u,0<u→u≤j→∃ i' a' z w,a'<K∧i'*K+a'≤i*K+a∧i'<u∧L[i']?=some z∧L[u]?=some w∧w.1=e z.1 a':=by
 have hi:=(List.getElem?_eq_some_iff.1 hx).1
 obtain ⟨x',h1,h2⟩:=h.long hi ha
 rw [hx] at h1
 injection h1 with h1
 subst h1
 have hlt:=mem_lt hi ha
 have hpre:=h.at (r:=i*K+a+1) (by omega)
 have h3:=bfs_to (e:=e) (K:=K) (s0:=s0) (r:=i*K+a) (x:=x) (by rw [dm_div ha];exact h2)
 rw [dm_mod ha] at h3
 obtain ⟨y,hy,hye⟩:=List.mem_map.1 h3
 obtain ⟨j,hj,hjy⟩:=List.mem_iff_getElem.1 hy
 have hjy':(bfsB e K s0 (i*K+a+1))[j]?=some y:=by rw [List.getElem?_eq_getElem hj,hjy]
 refine ⟨j,y,pre_get hpre hjy',hye,fun u hu huj=>?_⟩
 have hul:u<(bfsB e K s0 (i*K+a+1)).length:=by omega
 have hw:=List.getElem?_eq_getElem hul
 rcases bfs_from hw with q | ⟨r',z,q1,q2,q3,q4⟩
 ·omega
 ·have hK:0<K:=by omega
  refine ⟨r' / K,r'%K,z,_,Nat.mod_lt _ hK,?_,q2,pre_get hpre q3,pre_get hpre hw,by rw [q4]⟩
  have:=Nat.div_add_mod r' K
  rw [Nat.mul_comm] at this
  omega
theorem BfsEnd.from (h:BfsEnd e K s0 L) (hK:0<K) {u:Nat} {x:A×List Int} (hx:L[u]?=some x):u=0∨∃ i a y,i<u∧a<K∧L[i]?=some y∧x=(e y.1 a,y.2++[(↑a:Int)]):=by
 have hx':=hx
 rw [h.eq] at hx'
 rcases bfs_from hx' with q | ⟨r',z,q1,q2,q3,q4⟩
 ·exact Or.inl q
 ·rw [← h.eq] at q3
  exact Or.inr ⟨r' / K,r'%K,z,q2,Nat.mod_lt _ hK,q3,q4⟩
theorem BfsEnd.uniq {L':List (A×List Int)} (hK:0<K) (h:BfsEnd e K s0 L) (h':BfsEnd e K s0 L'):L=L':=by
 have key:∀ {L L':List (A×List Int)},BfsEnd e K s0 L→BfsEnd e K s0 L'→L.length≤L'.length→L=L':=fun {L L'} h h' hl=>by
  rcases Nat.lt_or_ge L.length L'.length with g | g
  ·exfalso
   have hpre:L <+: L':=by
    have:=h'.at (r:=L.length*K) (Nat.mul_le_mul_right K hl)
    rwa [← h.eq] at this
   obtain ⟨x,_,hx⟩:=h'.long g hK
   rw [Nat.add_zero,← h.eq,List.getElem?_eq_none (Nat.le_refl _)] at hx
   cases hx
  ·have e1:L.length=L'.length:=by omega
   rw [h.eq,h'.eq,e1]
 rcases Nat.le_total L.length L'.length with g | g
 ·exact key h h' g
 ·exact (key h' h g).symm
end
end Go.Proofs.Ytkfaepfljlphoaa.Sym

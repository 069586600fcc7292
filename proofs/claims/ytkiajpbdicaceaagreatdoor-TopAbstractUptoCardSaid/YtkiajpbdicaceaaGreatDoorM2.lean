/- Parts of the proof. -/
import Derived.Test.YtkiajpbdicaceaaGreatDoorM1
import Derived.Maps.Own
import Derived.Laws.StructEq
import Derived.ChangeKeysEq
import Derived.Great.BuildSlice
import Derived.Orders
set_option linter.all false
set_option maxRecDepth 100000
set_option maxHeartbeats 4000000
open Go.RowKit
namespace Go.Proofs.YtkiajpbdicaceaaGreatDoor.Sym
section
theorem mkObj_eqs (σ τ:St) (nm:Nat) (k:Kd):(∀ o,(app σ (zez τ nm k)).kd o=if o=nm then k else σ.kd o)∧(∀ o,(app σ (zez τ nm k)).gn o=if o=nm then τ.gn nm+1 else σ.gn o)∧(∀ o,(app σ (zez τ nm k)).ig o=σ.ig o) ∧
  (∀ t,(app σ (zez τ nm k)).av t=σ.av t)∧∀ o i,(app σ (zez τ nm k)).ce o i=σ.ce o i:=by
 unfold zez;simp only [zb2,zex];exact ⟨fun o=>by rw [zfm,kd_gen],fun o=>by rw [zgi,zui],fun o=>by rw [zj2,ig_gen],fun o=>by rw [ziz,av_gen],fun o i=>by rw [zj3,ce_gen]⟩
theorem mkK_eqs (σ τ:St) (nm:Nat) (k:Kd):(∀ o,(app σ (zhi τ nm k)).kd o=if o=nm then k else σ.kd o)∧(∀ o,(app σ (zhi τ nm k)).gn o=if o=nm then τ.gn nm+1 else σ.gn o)∧(∀ o,(app σ (zhi τ nm k)).ig o=if o=nm∧zr6 k=true then τ.ig nm+1 else σ.ig o) ∧
  (∀ t,(app σ (zhi τ nm k)).av t=σ.av t)∧∀ o i,(app σ (zhi τ nm k)).ce o i=σ.ce o i:=by
 have hn:zr6 k=false->(∀ o,(app σ (zez τ nm k)).kd o=if o=nm then k else σ.kd o)∧(∀ o,(app σ (zez τ nm k)).gn o=if o=nm then τ.gn nm+1 else σ.gn o)∧(∀ o,(app σ (zez τ nm k)).ig o=if o=nm∧zr6 k=true then τ.ig nm+1 else σ.ig o) ∧
  (∀ t,(app σ (zez τ nm k)).av t=σ.av t)∧∀ o i,(app σ (zez τ nm k)).ce o i=σ.ce o i:=fun hg=>by
  obtain ⟨h1,h2,h3,h4,h5⟩:=mkObj_eqs σ τ nm k;exact ⟨h1,h2,fun o=>by rw [if_neg (fun e=>by rw [hg] at e;cases e.2)];exact h3 o,h4,h5⟩
 cases k with
 | dead=>exact hn rfl
 | box t m=>exact hn rfl
 | row e m es=>exact hn rfl
 | map l=>exact hn rfl
 | bag t e m l q=>exact hn rfl
 | mapI l c=>exact hn rfl
 | que e m es=>exact hn rfl
 | grid e e' m gs q =>
  show (∀ o,(app (upd σ (.ign nm) (.n (τ.ig nm+1))) (zez τ nm _)).kd o=_)∧(∀ o,(app (upd σ (.ign nm) (.n (τ.ig nm+1))) (zez τ nm _)).gn o=_)∧(∀ o,(app (upd σ (.ign nm) (.n (τ.ig nm+1))) (zez τ nm _)).ig o=_) ∧
   (∀ t,(app (upd σ (.ign nm) (.n (τ.ig nm+1))) (zez τ nm _)).av t=_)∧∀ o i,(app (upd σ (.ign nm) (.n (τ.ig nm+1))) (zez τ nm _)).ce o i=_
  obtain ⟨h1,h2,h3,h4,h5⟩:=mkObj_eqs (upd σ (.ign nm) (.n (τ.ig nm+1))) τ nm (.grid e e' m gs q);refine ⟨fun o=>by rw [h1,kd_ign],fun o=>by rw [h2,gn_ign],fun o=>?_,fun t=>by rw [h4,av_ign],fun o i=>by rw [h5,ce_ign]⟩;rw [h3,ig_ign];by_cases e1:o=nm
  ·rw [if_pos e1,if_pos ⟨e1,rfl⟩]
  ·rw [if_neg e1,if_neg (fun h=>e1 h.1)]
def innK (k:Kd) (inn old:List Value):List Value:=match k with
 | .grid _ _ _ _ _=>inn
 | .bag _ _ _ _ _=>inn
 | .mapI _ _=>inn
 | _=>old
theorem fpk_innK (v:Value) (k:Kd) (inn old:List Value):fpk v (innK k inn old) k=fpk v inn k:=by cases k<;>rfl
theorem hold_innK {w:World} {S:Nat->Prop} {v:Value} {inn old:List Value}:∀ {k:Kd},zd9 w S v inn k->zd9 w S v (innK k inn old) k
 | .dead,h=>h
 | .box _ _,h=>h
 | .row _ _ _,h=>h
 | .grid _ _ _ _ _,h=>h
 | .map _,h=>h
 | .bag _ _ _ _ _,h=>h
 | .mapI _ _,h=>h
 | .que _ _ _,h=>h
def setK (ρ:Ly) (σ':St) (nm:Nat) (v:Value) (inn:List Value) (k:Kd):Ly:=⟨fun o=>if o=nm then v else ρ o,fun o=>if o=nm then innK k inn (ρ.inn nm) else ρ.inn o,σ'.ig⟩
section
variable {P:Program} {B:Base} {o:Oper} {σ:St} {K:Fx->Prop}
theorem adopt_one {a:Act} {w:World} {ρ:Ly} (h:SatR B σ a w ρ) {S':Nat->Prop} {v:Value} {k:Kd} {inn:List Value} {nm:Nat} {τ:St} (hg:σ.gn nm=τ.gn nm) (hi:σ.ig nm=τ.ig nm) (hh:zd9 w S' v inn k) (hS:∀ b,S' b->Imm B σ ρ w b) (hz:∀ b∈fpk v inn k,B.Z b) :
  ∃ ρ':Ly,SatR { B with Z:=fun b=>B.Z b∧b∉fpk v inn k } (app σ (zhi τ nm k)) a w ρ'∧(∀ u x,RepI w (Imm B σ ρ w) u x->RepI w (Imm { B with Z:=fun b=>B.Z b∧b∉fpk v inn k } (app σ (zhi τ nm k)) ρ' w) u x) ∧
   (∀ u x,RepA w (Imm B σ ρ w) ρ σ.gn u x->RepA w (Imm { B with Z:=fun b=>B.Z b∧b∉fpk v inn k } (app σ (zhi τ nm k)) ρ' w) ρ' (app σ (zhi τ nm k)).gn u x) ∧
   (∀ b,Imm B σ ρ w b->Imm { B with Z:=fun b=>B.Z b∧b∉fpk v inn k } (app σ (zhi τ nm k)) ρ' w b)∧ρ' nm=v∧∀ o,o≠nm->ρ' o=ρ o:=by
 obtain ⟨e1,e2,e3,e4,e5⟩:=mkK_eqs σ τ nm k;have a2:∀ t m,k≠.box t m:=fun t m e=>by subst e;exact hh.elim
 have a0:∀ b,Owns (app σ (zhi τ nm k)) (setK ρ (app σ (zhi τ nm k)) nm v inn k) nm b->b∈fpk v inn k:=fun b hb=>by
  unfold Owns at hb;rw [e1,if_pos rfl] at hb;simp only [setK,if_pos] at hb;rw [fpk_innK] at hb;exact hb
 obtain ⟨h1,h2,h3,h4⟩:=h.stepZ (σ':=app σ (zhi τ nm k)) (ρ':=setK ρ (app σ (zhi τ nm k)) nm v inn k) (w':=w) (fun o=>o=nm) (fun b=>B.Z b∧b∉fpk v inn k) e4
  (fun o hd=>⟨by rw [e1,if_neg hd],by rw [e2,if_neg hd],fun i=>e5 o i,by simp [setK,hd],by simp [setK,hd],by show (app σ (zhi τ nm k)).ig o=_;rw [e3,if_neg (fun e=>hd e.1)];exact (h.igs o).symm⟩)
  (fun o hd=>by
   subst hd
   refine ⟨⟨by rw [e2,if_pos rfl,hg];omega,fun e=>by rw [e2,if_pos rfl,hg] at e;omega⟩,?_,fun e=>?_⟩
   ·show _<=(app σ (zhi τ o k)).ig o
    rw [e3,h.igs,hi]
    split<;>omega
   ·have e:(app σ (zhi τ o k)).ig o=ρ.ig o:=e
    rw [e3,h.igs,hi] at e
    cases hgk:zr6 k with
    | true=>rw [hgk,if_pos ⟨rfl,rfl⟩] at e;omega
    | false =>
     simp only [setK,if_pos]
     cases k<;>first | rfl | exact hh.elim | cases hgk)
  (fun o=>rfl) (Belo.refl _ _ _) (fun o b hd ho=>by subst hd;exact .inr (.inl (hz b (a0 b ho)))) (fun o p b hd hp _ _=>hd.trans hp.symm)
  (fun b hb=>⟨(h.res b hb.1).1.2,.inr (.inl hb.1),fun o hd ho=>by subst hd;exact hb.2 (a0 b ho)⟩) fun hI hA o hd=>by
   subst hd;rw [e1,if_pos rfl];refine zne.of_hold a2 ?_;simp only [setK,if_pos];refine hold_innK (hh.mono (fun _ _=>rfl) fun u x hr=>hI u x (hr.mono hS fun _ _ _ h=>h))
 exact ⟨_,h1,h2,h3,h4,by simp [setK],fun o ho=>by simp [setK,ho]⟩
theorem zlg (σ:St):∀ (a b:List (Nat×Kd)),zdz σ (a++b)=zdz σ a++zdz σ b
 | [],b=>rfl
 | p::a,b=>by rw [ycq,zdz,zlg σ a b,zdz,ybs]
theorem zoe {a:Act} {w:World} {S':Nat->Prop} (τ:St) (f:Nat->Nat):∀ {l:List Oc} {i:Nat} {us:List Value} {F:List Nat} {B:Base} {σ:St} {ρ:Ly},SatR B σ a w ρ->zlp w S' us l F->(∀ b,S' b->Imm B σ ρ w b)->F.Nodup->(∀ b∈F,B.Z b) ->
  ((zcj τ f i l).2.map (·.1)).Nodup->(∀ p∈(zcj τ f i l).2,σ.gn p.1=τ.gn p.1∧σ.ig p.1=τ.ig p.1) ->
  ∃ (ρ':Ly) (Z':Nat->Prop),SatR { B with Z:=Z' } (app σ (zdz τ (zcj τ f i l).2)) a w ρ'∧(∀ b,B.Z b->b∉F->Z' b)∧Reps w (Imm { B with Z:=Z' } (app σ (zdz τ (zcj τ f i l).2)) ρ' w) ρ' (app σ (zdz τ (zcj τ f i l).2)).gn us (zcj τ f i l).1 ∧
   (∀ u x,RepA w (Imm B σ ρ w) ρ σ.gn u x->RepA w (Imm { B with Z:=Z' } (app σ (zdz τ (zcj τ f i l).2)) ρ' w) ρ' (app σ (zdz τ (zcj τ f i l).2)).gn u x) ∧
   (∀ b,Imm B σ ρ w b->Imm { B with Z:=Z' } (app σ (zdz τ (zcj τ f i l).2)) ρ' w b)∧(∀ o,o∉(zcj τ f i l).2.map (·.1)->ρ' o=ρ o∧(app σ (zdz τ (zcj τ f i l).2)).gn o=σ.gn o∧(app σ (zdz τ (zcj τ f i l).2)).ig o=σ.ig o∧(app σ (zdz τ (zcj τ f i l).2)).kd o=σ.kd o)
 | [],i,us,F,B,σ,ρ,h,hok,hS,hnd,hz,hn,hgs=>by
  match us,hok with
  | [],hok=>exact ⟨ρ,B.Z,h,fun _ hb _=>hb,⟨rfl,by simp⟩,fun _ _ hr=>hr,fun _ hb=>hb,fun _ _=>⟨rfl,rfl,rfl,rfl⟩⟩
 | c::l,i,us,F,B,σ,ρ,h,hok,hS,hnd,hz,hn,hgs=>by
  match us,hok with
  | u::us,⟨F1,F2,h1,h2,h3⟩ =>
   subst h3;rw [ybc] at hnd;cases c with
   | im x =>
    obtain ⟨hx,rfl⟩:=h1;obtain ⟨ρ',Z',g1,g2,g3,g4,g5,g6⟩:=zoe τ f (l:=l) (i:=i+1) h h2 hS hnd.2.1 (fun b hb=>hz b (by simp [hb])) hn hgs;refine ⟨ρ',Z',g1,g2,⟨by simp [zcj,ocPl,g3.1],fun j y z hy hz=>?_⟩,g4,g5,g6⟩;cases j with
    | zero =>
     simp [zcj,ocPl] at hy hz;subst hy hz;exact .im _ _ (hx.mono (fun b hb=>g5 b (hS b hb)) fun _ _ _ h=>h)
    | succ j=>exact g3.2 j y z (by simpa using hy) (by simpa [zcj,ocPl] using hz)
   | ow k =>
    obtain ⟨ho1,inn,hh,rfl⟩:=h1
    have hn':(f i∉(zcj τ f (i+1) l).2.map (·.1))∧((zcj τ f (i+1) l).2.map (·.1)).Nodup:=by
     have:(zcj τ f i (.ow k::l)).2=(f i,k)::(zcj τ f (i+1) l).2:=rfl;rw [this,yan,ybj] at hn;exact hn
    have a8:=hgs (f i,k) (by show _∈(f i,k)::_;simp);obtain ⟨ρ1,a1,a2,a3,a4,a5,a6⟩:=adopt_one h (nm:=f i) (τ:=τ) a8.1 a8.2 hh hS fun b hb=>hz b (by simp [hb]);obtain ⟨e1,e2,e3,e4,e5⟩:=mkK_eqs σ τ (f i) k;have a9:∀ p∈(zcj τ f (i+1) l).2,p.1≠f i:=fun p hp e=>hn'.1 (yap.2 ⟨p,hp,e⟩)
    obtain ⟨ρ',Z',g1,g2,g3,g4,g5,g6⟩:=zoe τ f (l:=l) (i:=i+1) a1 h2 (fun b hb=>a4 b (hS b hb)) hnd.2.1 (fun b hb=>⟨hz b (by simp [hb]),fun hf=>hnd.2.2 b hf b hb rfl⟩) hn'.2 (fun p hp=>by
     rw [e2,e3,if_neg (a9 p hp),if_neg (fun e=>a9 p hp e.1)]
     exact hgs p (by show p∈(f i,k)::_;simp [hp]))
    have a7:app σ (zdz τ (zcj τ f i (.ow k::l)).2)=app (app σ (zhi τ (f i) k)) (zdz τ (zcj τ f (i+1) l).2):=by
     show app σ (zhi τ (f i) k++zdz τ (zcj τ f (i+1) l).2)=_;rw [zau]
    rw [a7];refine ⟨ρ',Z',g1,fun b hb b0=>g2 b ⟨hb,fun hf=>b0 (by simp [hf])⟩ (fun hf=>b0 (by simp [hf])),⟨by show _=((_:AV)::(zcj τ f (i+1) l).1).length;simp [g3.1],fun j y z hy hz=>?_⟩,fun v x hr=>g4 v x (a3 v x hr),fun b hb=>g5 b (a4 b hb),fun o ho=>?_⟩
    ·cases j with
     | zero =>
      have hz:(AV.osl (f i) (τ.gn (f i)+1))=z:=by simpa [zcj,ocPl] using hz
      simp at hy;subst hy hz;obtain ⟨b1,b2,_,_⟩:=g6 (f i) hn'.1;refine .osl _ _ _ ho1 ?_ fun _=>?_
      ·rw [b2,e2,if_pos rfl];omega
      ·rw [b1,a5]
     | succ j=>exact g3.2 j y z (by simpa using hy) (by simpa [zcj,ocPl] using hz)
    ·have a0:o≠f i∧o∉(zcj τ f (i+1) l).2.map (·.1):=by
      have:(zcj τ f i (.ow k::l)).2=(f i,k)::(zcj τ f (i+1) l).2:=rfl;rw [this,yan] at ho;exact ⟨fun e=>ho (by simp [e]),fun hm=>ho (yay _ hm)⟩
     obtain ⟨b1,b2,b3,b4⟩:=g6 o a0.2;exact ⟨by rw [b1,a6 o a0.1],by rw [b2,e2,if_neg a0.1],by rw [b3,e3,if_neg (fun e=>a0.1 e.1)],by rw [b4,e1,if_neg a0.1]⟩
def LkR (w:World) (S:Nat->Prop) (ρ:Ly) (γ:Nat->Nat) (p:Value) (qs:List Nat):LK->Prop
 | .box t al=>∃ (q:Nat) (us:List Value),qs=[q]∧p=.pointer (some ⟨q,0,none⟩)∧w.heap[q]?=some (.cells us.toArray t (0,0))∧(∀ u∈us,u.oneCell'=true)∧Reps w S ρ γ us al
 | .obj k=>flatK k=true∧∃ inn,zd9 w S p inn k∧qs=fpk p inn k
def BxR (w:World) (S:Nat->Prop) (ρ:Ly) (γ:Nat->Nat):List (Nat×LK)->List Value->List Nat->Prop
 | [],[],qs=>qs=[]
 | (_,x)::bl,p::ps,qs=>∃ q1 q2,LkR w S ρ γ p q1 x∧BxR w S ρ γ bl ps q2∧qs=q1++q2
 | _,_,_=>False
theorem LkR.mono {w:World} {S S':Nat->Prop} {ρ ρ':Ly} {γ γ':Nat->Nat} (hA:∀ u x,RepA w S ρ γ u x->RepA w S' ρ' γ' u x) {p:Value} {qs:List Nat}:∀ {x:LK},LkR w S ρ γ p qs x->LkR w S' ρ' γ' p qs x
 | .box t al,⟨q,us,h1,h2,h3,h4,h5⟩=>⟨q,us,h1,h2,h3,h4,⟨h5.1,fun i u x hu hx=>hA _ _ (h5.2 i u x hu hx)⟩⟩
 | .obj k,⟨h1,inn,h2,h3⟩=>⟨h1,inn,h2.mono (fun _ _=>rfl) fun u x hr=>(hA u (.im x) (.im _ _ hr)).im_inv,h3⟩
theorem BxR.mono {w:World} {S S':Nat->Prop} {ρ ρ':Ly} {γ γ':Nat->Nat} (hA:∀ u x,RepA w S ρ γ u x->RepA w S' ρ' γ' u x):∀ {bl:List (Nat×LK)} {ps:List Value} {qs:List Nat},BxR w S ρ γ bl ps qs->BxR w S' ρ' γ' bl ps qs
 | [],[],_,h=>h
 | _::_,_::_,_,⟨q1,q2,h1,h2,h3⟩=>⟨q1,q2,h1.mono hA,h2.mono hA,h3⟩
 | [],_::_,_,h=>h.elim
 | _::_,[],_,h=>h.elim
theorem zqe {a:Act} {w:World} {S':Nat->Prop} (τ:St):∀ {bx:yad} {ys:List Arg} {ps:List Value} {F:List Nat} {bl:List (Nat×LK)} {ss:List (Nat×Kd)} {B:Base} {σ:St} {ρ:Ly},bxPl τ bx ys=some (bl,ss)->SatR B σ a w ρ->zem w S' ps ys F->(∀ b,S' b->Imm B σ ρ w b)->F.Nodup->(∀ b∈F,B.Z b) ->
  (ss.map (·.1)).Nodup->(∀ p∈ss,σ.gn p.1=τ.gn p.1∧σ.ig p.1=τ.ig p.1) ->
  ∃ (ρ':Ly) (Z':Nat->Prop) (qs:List Nat),SatR { B with Z:=Z' } (app σ (zdz τ ss)) a w ρ'∧(∀ b,B.Z b->b∉F->Z' b)∧(∀ q∈qs,Z' q∧q∈F)∧qs.Nodup∧BxR w (Imm { B with Z:=Z' } (app σ (zdz τ ss)) ρ' w) ρ' (app σ (zdz τ ss)).gn bl ps qs∧bl.map (·.1)=bx.map (·.1) ∧
   (∀ u x,RepA w (Imm B σ ρ w) ρ σ.gn u x->RepA w (Imm { B with Z:=Z' } (app σ (zdz τ ss)) ρ' w) ρ' (app σ (zdz τ ss)).gn u x) ∧
   (∀ b,Imm B σ ρ w b->Imm { B with Z:=Z' } (app σ (zdz τ ss)) ρ' w b)∧(∀ o,o∉ss.map (·.1)->ρ' o=ρ o∧(app σ (zdz τ ss)).gn o=σ.gn o∧(app σ (zdz τ ss)).ig o=σ.ig o∧(app σ (zdz τ ss)).kd o=σ.kd o)
 | [],[],ps,F,bl,ss,B,σ,ρ,e,h,hok,hS,hnd,hz,hn,hgs=>by
  simp only [bxPl,zkF,zkG] at e;obtain ⟨rfl,rfl⟩:=e
  match ps,hok with
  | [],hok=>exact ⟨ρ,B.Z,[],h,fun _ hb _=>hb,by simp,yb8,rfl,rfl,fun _ _ hr=>hr,fun _ hb=>hb,fun _ _=>⟨rfl,rfl,rfl,rfl⟩⟩
 | [],y::ys,ps,F,bl,ss,B,σ,ρ,e,h,hok,hS,hnd,hz,hn,hgs=>by simp [bxPl] at e
 | (b,i)::bx,[],ps,F,bl,ss,B,σ,ρ,e,h,hok,hS,hnd,hz,hn,hgs=>by simp [bxPl] at e
 | (b,i)::bx,.im _::ys,ps,F,bl,ss,B,σ,ρ,e,h,hok,hS,hnd,hz,hn,hgs=>by simp [bxPl] at e
 | (b,i)::bx,.ow _::ys,ps,F,bl,ss,B,σ,ρ,e,h,hok,hS,hnd,hz,hn,hgs=>by simp [bxPl] at e
 | (b,i)::bx,.lent k::ys,ps,F,bl,ss,B,σ,ρ,e,h,hok,hS,hnd,hz,hn,hgs=>by
  unfold bxPl at e;split at e
  ·rename_i l s2 hfk e2;simp only [zkF,zkG] at e;obtain ⟨rfl,rfl⟩:=e
   match ps,hok with
   | p::ps,⟨F1,F2,⟨p1,inn,p2,p3⟩,p6,p7⟩ =>
    subst p7;rw [ybc] at hnd;obtain ⟨hnF1,hnF2,hdis⟩:=hnd;obtain ⟨ρ',Z',qs,g1,g2,g3,g4,g5,g6,g7,g8,g9⟩:=zqe τ e2 h p6 hS hnF2 (fun c hc=>hz c (by simp [hc])) hn hgs;refine ⟨ρ',Z',F1++qs,g1,fun c hc hnc=>g2 c hc fun hf=>hnc (by simp [hf]),fun c hc=>?_,ybc.2 ⟨hnF1,g4,fun x hx y hy=>hdis x hx y (g3 y hy).2⟩,⟨F1,qs,⟨hfk,inn,p2.mono (fun _ _=>rfl) fun u x hr=>hr.mono (fun c hc=>g8 c (hS c hc)) fun _ _ _ h=>h,p3⟩,g5,rfl⟩,by simp [g6],g7,g8,g9⟩;rcases yal.1 hc with hc | hc
    ·exact ⟨g2 c (hz c (by simp [hc])) fun hf=>hdis c hc c hf rfl,by simp [hc]⟩
    ·exact ⟨(g3 c hc).1,by simp [(g3 c hc).2]⟩
  ·cases e
 | (b,i)::bx,.box t cs::ys,ps,F,bl,ss,B,σ,ρ,e,h,hok,hS,hnd,hz,hn,hgs=>by
  unfold bxPl at e;split at e
  ·rename_i al s1 l s2 e1 e2;simp only [zkF,zkG] at e;obtain ⟨rfl,rfl⟩:=e
   match ps,hok with
   | p::ps,⟨F1,F2,⟨q,us,F',p1,p2,p3,p4,p5⟩,p6,p7⟩ =>
    subst p5 p7;have hs1:s1=(zcj τ (cellNm τ b i) 0 cs).2:=by rw [e1]
    have a7:al=(zcj τ (cellNm τ b i) 0 cs).1:=by rw [e1]
    rw [ya9,ybc] at hn;rw [ycq,ybj,ybc] at hnd;obtain ⟨hq,a0,hnF2,hdis⟩:=hnd;rw [yal,not_or] at hq;obtain ⟨ρ1,Z1,a1,a2,a3,a4,a5,a6⟩:=zoe τ (cellNm τ b i) (l:=cs) (i:=0) h p4 hS a0 (fun c hc=>hz c (by simp [hc])) (by rw [<- hs1];exact hn.1) (fun p hp=>hgs p (yai _ (by rw [hs1];exact hp)));rw [<- hs1] at a1 a3 a4 a5 a6;rw [<- a7] at a3
    obtain ⟨ρ',Z',qs,g1,g2,g3,g4,g5,g6,g7,g8,g9⟩:=zqe τ e2 a1 p6 (fun c hc=>a5 c (hS c hc)) hnF2 (fun c hc=>a2 c (hz c (by simp [hc])) fun hf=>hdis c hf c hc rfl) hn.2.1 (fun p hp=>by
     obtain ⟨b1,b2,b3,_⟩:=a6 p.1 fun hm=>hn.2.2 p.1 hm p.1 (yap.2 ⟨p,hp,rfl⟩) rfl
     rw [b2,b3]
     exact hgs p (yaf _ hp))
    rw [zlg,zau];refine ⟨ρ',Z',q::qs,g1,fun c hc hnc=>g2 c (a2 c hc fun hf=>hnc (by simp [hf])) fun hf=>hnc (by simp [hf]),fun c hc=>?_,ybj.2 ⟨fun hm=>hq.2 (g3 q hm).2,g4⟩,⟨[q],qs,⟨q,us,rfl,p1,p2,p3,⟨a3.1,fun j u x hu hx=>g7 _ _ (a3.2 j u x hu hx)⟩⟩,g5,rfl⟩,by simp [g6],fun v x hr=>g7 v x (a4 v x hr),fun c hc=>g8 c (a5 c hc),fun o ho=>?_⟩
    ·rcases yau.1 hc with rfl | hc
     ·exact ⟨g2 _ (a2 _ (hz _ (by simp)) hq.1) hq.2,by simp⟩
     ·exact ⟨(g3 c hc).1,by simp [(g3 c hc).2]⟩
    ·rw [ya9,yal,not_or] at ho;obtain ⟨b1,b2,b3,b4⟩:=a6 o ho.1;obtain ⟨c1,c2,c3,c4⟩:=g9 o ho.2;exact ⟨c1.trans b1,c2.trans b2,c3.trans b3,c4.trans b4⟩
  ·cases e
theorem adopt_lent {a:Act} {w:World} {b:Nat} {x:LK} {p:Value} {qs:List Nat} {B:Base} {σ:St} {ρ:Ly} (h:SatR B σ a w ρ) (hx:LkR w (Imm B σ ρ w) ρ σ.gn p qs x) (hz:∀ q∈qs,B.Z q) (hρ:ρ b=p) :
  SatR { B with Z:=fun c=>B.Z c∧c∉qs } (app σ (lkWr b x)) a w ρ∧(∀ u y,RepA w (Imm B σ ρ w) ρ σ.gn u y->RepA w (Imm { B with Z:=fun c=>B.Z c∧c∉qs } (app σ (lkWr b x)) ρ w) ρ (app σ (lkWr b x)).gn u y):=by
 cases x with
 | box t al =>
  obtain ⟨q,us,e1,e2,e3,e4,e5⟩:=hx;subst e1;have hρb:ρ b=.pointer (some ⟨q,0,none⟩):=hρ.trans e2;have a3:∀ o,(app (upd σ (.knd b) (.kd (.box t al.length))) (zg6 b 0 al)).kd o=if o=b then .box t al.length else σ.kd o:=fun o=>by rw [zqm,zfm]
  have a5:(app (upd σ (.knd b) (.kd (.box t al.length))) (zg6 b 0 al)).gn=σ.gn:=by rw [zs4];exact funext fun o=>zgi σ b o _
  have a0:∀ c,Owns (app (upd σ (.knd b) (.kd (.box t al.length))) (zg6 b 0 al)) ρ b c->c=q:=fun c hc=>by
   unfold Owns at hc;rw [a3,if_pos rfl,hρb] at hc;simpa [fpk,zbm] using hc
  obtain ⟨h1,h2,h3,h4⟩:=h.stepZ (σ':=app (upd σ (.knd b) (.kd (.box t al.length))) (zg6 b 0 al)) (ρ':=ρ) (w':=w) (fun o=>o=b) (fun c=>B.Z c∧c∉[q]) (fun o=>by rw [zsz,ziz])
   (fun o hd=>⟨by rw [a3,if_neg hd],by rw [a5],fun i=>by rw [zor,if_neg (fun z=>hd z.1),zj3],rfl,rfl,rfl⟩) (fun o _=>⟨⟨by rw [a5];exact yam _,fun _=>rfl⟩,yam _,fun _=>rfl⟩)
   (fun o=>by rw [celWr_ig,zj2];exact h.igs o) (Belo.refl _ _ _) (fun o c hd ho=>by subst hd;rw [a0 c ho];exact .inr (.inl (hz q (by simp)))) (fun o p c hd hp _ _=>hd.trans hp.symm)
   (fun c hc=>⟨(h.res c hc.1).1.2,.inr (.inl hc.1),fun o hd ho=>by subst hd;exact hc.2 (by rw [a0 c ho];simp)⟩) fun hI hA o hd=>by
    subst hd;rw [a3,if_pos rfl];refine ⟨q,us,hρb,e3,e5.1,e4,fun i u hu=>?_⟩;have hi:i<al.length:=by rw [<- e5.1];exact (zkI.1 hu).1
    obtain ⟨c,hc⟩:∃ c,al[i]?=some c:=⟨_,zkM hi⟩;rw [zor,if_pos ⟨rfl,by omega,by omega⟩,ydk,zk9 hc];exact hA _ _ (e5.2 i u c hu hc)
  exact ⟨h1,h3⟩
 | obj k =>
  obtain ⟨e1,inn,e2,e3⟩:=hx;have a7:∀ t m,k≠.box t m:=fun t m e=>by subst e;cases e1
  have a6:∀ a2,fpk p a2 k=qs:=fun a2=>by rw [e3];cases k<;>first | rfl | cases e1
  have a4:∀ a2,zd9 w (Imm B σ ρ w) p a2 k:=fun a2=>by cases k<;>first | exact e2 | cases e1
  have a0:∀ c,Owns (upd σ (.knd b) (.kd k)) ρ b c->c∈qs:=fun c hc=>by
   unfold Owns at hc;rw [zfm,if_pos rfl,hρ,a6] at hc;exact hc
  obtain ⟨h1,h2,h3,h4⟩:=h.stepZ (σ':=upd σ (.knd b) (.kd k)) (ρ':=ρ) (w':=w) (fun o=>o=b) (fun c=>B.Z c∧c∉qs) (fun o=>ziz σ b o _)
   (fun o hd=>⟨by rw [zfm,if_neg hd],zgi σ b o _,fun i=>zj3 σ b o i _,rfl,rfl,rfl⟩) (fun o _=>⟨⟨by rw [zgi];exact yam _,fun _=>rfl⟩,yam _,fun _=>rfl⟩)
   (fun o=>by rw [zj2];exact h.igs o) (Belo.refl _ _ _) (fun o c hd ho=>by subst hd;exact .inr (.inl (hz c (a0 c ho)))) (fun o p c hd hp _ _=>hd.trans hp.symm)
   (fun c hc=>⟨(h.res c hc.1).1.2,.inr (.inl hc.1),fun o hd ho=>by subst hd;exact hc.2 (a0 c ho)⟩) fun hI hA o hd=>by
    subst hd;rw [zfm,if_pos rfl];refine zne.of_hold a7 ?_;rw [hρ];exact (a4 _).mono (fun _ _=>rfl) hI
  exact ⟨h1,h3⟩
theorem zpo {a:Act} {w:World}:∀ {bl:List (Nat×LK)} {ps:List Value} {qs:List Nat} {B:Base} {σ:St} {ρ:Ly},SatR B σ a w ρ->BxR w (Imm B σ ρ w) ρ σ.gn bl ps qs->qs.Nodup->(∀ q∈qs,B.Z q)->(bl.map (·.1)).Nodup->(∀ (j:Nat) (b:Nat) (p:Value),(bl.map (·.1))[j]?=some b->ps[j]?=some p->ρ b=p) ->
  ∃ Z':Nat->Prop,SatR { B with Z:=Z' } (app σ (bxWr bl)) a w ρ∧(∀ b,B.Z b->b∉qs->Z' b)∧(∀ u x,RepA w (Imm B σ ρ w) ρ σ.gn u x->RepA w (Imm { B with Z:=Z' } (app σ (bxWr bl)) ρ w) ρ (app σ (bxWr bl)).gn u x)
 | [],ps,qs,B,σ,ρ,h,hb,hnd,hz,hn,hρ=>by
  match ps,hb with
  | [],hb=>exact ⟨B.Z,h,fun _ hb _=>hb,fun _ _ hr=>hr⟩
 | (b,x)::bl,[],qs,B,σ,ρ,h,hb,hnd,hz,hn,hρ=>hb.elim
 | (b,x)::bl,p::ps,qs,B,σ,ρ,h,⟨q1,q2,e1,e2,e3⟩,hnd,hz,hn,hρ=>by
  subst e3;rw [ybc] at hnd;rw [yan,ybj] at hn;obtain ⟨h1,h3⟩:=adopt_lent h e1 (fun q hq=>hz q (by simp [hq])) (hρ 0 b p rfl rfl);obtain ⟨Z',g1,g2,g3⟩:=zpo h1 (e2.mono h3) hnd.2.1 (fun c hc=>⟨hz c (by simp [hc]),fun e=>hnd.2.2 c e c hc rfl⟩) hn.2 fun j c v hc hv=>hρ (j+1) c v (by simpa using hc) (by simpa using hv)
  have happ:app σ (bxWr ((b,x)::bl))=app (app σ (lkWr b x)) (bxWr bl):=by
   show app σ (lkWr b x++bxWr bl)=_;rw [zau]
  rw [happ];exact ⟨Z',g1,fun c hc a0=>g2 c ⟨hc,fun e=>a0 (by simp [e])⟩ fun hm=>a0 (by simp [hm]),fun u x hr=>g3 u x (h3 u x hr)⟩
theorem zuj (bs:yad):∀ (σ:St),(app σ (fwr bs)).ig=σ.ig:=by
 induction bs with
 | nil=>intro σ;rfl
 | cons b bs ih =>
  intro σ;show (app (upd σ (.knd b.1) (.kd .dead)) (fwr bs)).ig=_;rw [ih];exact funext fun t=>zj2 σ b.1 t _
theorem ziy {a:Act} {w w':World} {ρ:Ly} (h:SatR B σ a w ρ) (gs:yad) (hgsn:(gs.map (·.1)).Nodup) {S':Nat->Prop} {v:Value} {ps:List Value} {τ:St} {tp:Bool} {d:Nat} {l:List Oc} {ys:List Arg} {F':List Nat} {bx:yad} {bl:List (Nat×LK)} {ss':List (Nat×Kd)} {va:AV}
  (hb:Belo (fun b=>b∈zdp σ ρ gs) w.heap.size w w') (hS:∀ b,S' b->(Imm B σ ρ w b∨w.heap.size<=b∨b∈zdp σ ρ gs)∧b<w'.heap.size∧b∉F') (hr:zm5 w' S' v ps (.mk tp l ys) F') (hnd:F'.Nodup) (hF':∀ b∈F',(w.heap.size<=b∨b∈zdp σ ρ gs)∧b<w'.heap.size)
  (hbl:bxPl τ bx ys=some (bl,ss')) (hps:ps=bx.map fun p=>ρ p.1) (hbn:(bx.map (·.1)).Nodup) (hva:resV tp (zcj τ (zfa tp d) 0 l).1=some va) (hnm:(((zcj τ (zfa tp d) 0 l).2++ss').map (·.1)).Nodup) (hnb:∀ x∈((zcj τ (zfa tp d) 0 l).2++ss').map (·.1),x∉bl.map (·.1))
  (hτ:∀ p∈(zcj τ (zfa tp d) 0 l).2++ss',σ.gn p.1=τ.gn p.1∧σ.ig p.1=τ.ig p.1) :
  ∃ ρ',SatR B (app (app (app σ (fwr gs)) (zdz τ ((zcj τ (zfa tp d) 0 l).2++ss'))) (bxWr bl)) a w' ρ'∧RepA w' (Imm B (app (app (app σ (fwr gs)) (zdz τ ((zcj τ (zfa tp d) 0 l).2++ss'))) (bxWr bl)) ρ' w') ρ' (app (app (app σ (fwr gs)) (zdz τ ((zcj τ (zfa tp d) 0 l).2++ss'))) (bxWr bl)).gn v va ∧
   (∀ u x,RepA w (Imm B σ ρ w) ρ σ.gn u x->RepA w' (Imm B (app (app (app σ (fwr gs)) (zdz τ ((zcj τ (zfa tp d) 0 l).2++ss'))) (bxWr bl)) ρ' w') ρ' (app (app (app σ (fwr gs)) (zdz τ ((zcj τ (zfa tp d) 0 l).2++ss'))) (bxWr bl)).gn u x) ∧
   ∀ (j:Nat) (b:Nat) (p:Value),(bl.map (·.1))[j]?=some b->ps[j]?=some p->ρ' b=p:=by
 have a7:∀ o,o∈gs.map (·.1)->∀ b,¬ Owns (app σ (fwr gs)) ρ o b:=fun o ho b d1=>(zs7 d1).2 ho
 obtain ⟨h1,d6,d5,d2⟩:=h.stepZ (σ':=app σ (fwr gs)) (ρ':=ρ) (w':=w') (fun o=>o∈gs.map (·.1)) (fun b=>B.Z b∨b∈F') (fun t=>fwr_av gs t σ) (fun o hd=>⟨by rw [zly,if_neg hd],by rw [zo7],fun i=>fwr_ce gs o i σ,rfl,rfl,rfl⟩)
  (fun o _=>⟨⟨by rw [zo7];exact yam _,fun _=>rfl⟩,yam _,fun _=>rfl⟩) (fun o=>by rw [zuj];exact h.igs o)
  ⟨hb.os,hb.tape,hb.output,hb.size,fun k hk hn=>hb.block k hk fun hm=>by
   obtain ⟨p,hp,ho⟩:=zed.1 hm
   exact hn (.inr ⟨p.1,yap.2 ⟨p,hp,rfl⟩,ho⟩)⟩
  (fun o b hd ho=>absurd ho (a7 o hd b)) (fun o p b hd hp ho _=>absurd ho (a7 o hd b))
  (fun b a0=>by
   rcases a0 with a0 | a0
   ·exact ⟨yb2 (h.res b a0).1.2 hb.size,.inr (.inl a0),fun o hd=>a7 o hd b⟩
   ·obtain ⟨h2,h3⟩:=hF' b a0
    refine ⟨h3,?_,fun o hd=>a7 o hd b⟩
    rcases h2 with h2 | h2
    ·exact .inl h2
    ·obtain ⟨p,hp,ho⟩:=zed.1 h2
     exact .inr (.inr ⟨p.1,yap.2 ⟨p,hp,rfl⟩,ho⟩))
  fun _ _ o hd=>by rw [zly,if_pos hd];trivial
 have c8:∀ b,S' b->Imm { B with Z:=fun b=>B.Z b∨b∈F' } (app σ (fwr gs)) ρ w' b:=fun b a0=>by
  obtain ⟨h2,h3,h4⟩:=hS b a0;rcases h2 with h2 | h2 | h2
  ·exact d2 b h2
  ·refine ⟨.inr (.inl (yce h.bel.size h2)),h3,fun o ho=>?_,fun hz=>?_⟩
   ·have:=(h.own o b (zs7 ho).1).2;omega
   ·rcases hz with hz | hz
    ·have:=(h.res b hz).1.2;omega
    ·exact h4 hz
  ·obtain ⟨p,hp,ho⟩:=zed.1 h2;refine ⟨.inr (h.own p.1 b ho).1,h3,fun q hq=>?_,fun hz=>?_⟩
   ·obtain ⟨h5,h6⟩:=zs7 hq;have:=h.dis q p.1 b h5 ho;subst this;exact h6 (yap.2 ⟨p,hp,rfl⟩)
   ·rcases hz with hz | hz
    ·exact (h.res b hz).2 p.1 ho
    ·exact h4 hz
 obtain ⟨us,F1,F2,hv,hl,hy,rfl⟩:=hr;rw [ybc] at hnd;rw [ya9,ybc] at hnm
 obtain ⟨ρ2,Z2,a1,a2,a3,a4,a5,a6⟩:=zoe τ (zfa tp d) (l:=l) (i:=0) h1 hl c8 hnd.1 (fun b a0=>.inr (yai _ a0)) hnm.1 fun p hp=>by
  rw [zo7,zuj];exact hτ p (yai _ hp)
 obtain ⟨ρ3,Z3,qs,b1,b2,b3,b4,b5,b6,b7,b8,b9⟩:=zqe τ hbl a1 hy (fun b a0=>a5 b (c8 b a0)) hnd.2.1 (fun b a0=>a2 b (.inr (yaf _ a0)) fun hf=>hnd.2.2 b hf b a0 rfl) hnm.2.1 fun p hp=>by
  obtain ⟨c1,c2,c3,_⟩:=a6 p.1 fun hm=>hnm.2.2 p.1 hm p.1 (yap.2 ⟨p,hp,rfl⟩) rfl;rw [c2,c3,zo7,zuj];exact hτ p (yaf _ hp)
 have c6:app (app (app σ (fwr gs)) (zdz τ (zcj τ (zfa tp d) 0 l).2)) (zdz τ ss')=app (app σ (fwr gs)) (zdz τ ((zcj τ (zfa tp d) 0 l).2++ss')):=by rw [zlg,zau]
 rw [c6] at b1 b5 b7 b8 b9
 have a9:∀ (j:Nat) (b:Nat) (p:Value),(bl.map (·.1))[j]?=some b->ps[j]?=some p->ρ3 b=p:=fun j b p a0 hp=>by
  have c0:b∈bl.map (·.1):=zkH a0;rw [b6,yat] at a0;rw [hps,yat] at hp;cases hc:bx[j]? with
  | none=>rw [hc] at a0;cases a0
  | some y =>
   rw [hc] at a0 hp;simp only [yaj,zkF] at a0 hp;have d0:b∉(zcj τ (zfa tp d) 0 l).2.map (·.1):=fun hm=>hnb b (by rw [ya9];exact yai _ hm) c0;have c9:b∉ss'.map (·.1):=fun hm=>hnb b (by rw [ya9];exact yaf _ hm) c0;rw [(b9 b c9).1,(a6 b d0).1,<- hp,a0]
 obtain ⟨Z4,c1,c2,c3⟩:=zpo b1 b5 b4 (fun q hq=>(b3 q hq).1) (by rw [b6];exact hbn) a9
 have c7:RepA w' (Imm { B with Z:=Z4 } (app (app (app σ (fwr gs)) (zdz τ ((zcj τ (zfa tp d) 0 l).2++ss'))) (bxWr bl)) ρ3 w') ρ3 (app (app (app σ (fwr gs)) (zdz τ ((zcj τ (zfa tp d) 0 l).2++ss'))) (bxWr bl)).gn v va:=by
  have a8:Reps w' (Imm { B with Z:=Z4 } (app (app (app σ (fwr gs)) (zdz τ ((zcj τ (zfa tp d) 0 l).2++ss'))) (bxWr bl)) ρ3 w') ρ3 (app (app (app σ (fwr gs)) (zdz τ ((zcj τ (zfa tp d) 0 l).2++ss'))) (bxWr bl)).gn us (zcj τ (zfa tp d) 0 l).1 :=
   ⟨a3.1,fun i u x hu hx=>c3 _ _ (b7 _ _ (a3.2 i u x hu hx))⟩
  cases tp with
  | true =>
   simp only [resV,zkF] at hva;subst hva;rw [hv];exact .tup _ _ a8.1 a8.2
  | false =>
   simp only [resV] at hva;split at hva
   ·rename_i al d4;injection hva with hva
    subst hva;have hv:us=[v]:=hv;subst hv;exact a8.2 0 v al rfl (by rw [d4];rfl)
   ·cases hva
 obtain ⟨e1,e2,e3,_⟩:=c1.stepZ (σ':=app (app (app σ (fwr gs)) (zdz τ ((zcj τ (zfa tp d) 0 l).2++ss'))) (bxWr bl)) (ρ':=ρ3) (w':=w') (fun _=>False) B.Z (fun _=>rfl) (fun _ _=>⟨rfl,rfl,fun _=>rfl,rfl,rfl,rfl⟩) (fun _ hd=>hd.elim) c1.igs (Belo.refl _ _ _) (fun _ _ hd=>hd.elim) (fun _ _ _ hd=>hd.elim)
  (fun b a0=>by
   have b0:b∉F1++F2:=fun hf=>by
    rcases (hF' b hf).1 with h5 | h5
    ·have:=(h.res b a0).1.2;omega
    ·obtain ⟨p,hp,ho⟩:=zed.1 h5
     exact (h.res b a0).2 p.1 ho
   rw [yal,not_or] at b0
   have d3:Z4 b:=c2 b (b2 b (a2 b (.inl a0) b0.1) b0.2) fun hq=>b0.2 (b3 b hq).2
   exact ⟨yb2 (h.res b a0).1.2 hb.size,.inr (.inl d3),fun _ hd=>hd.elim⟩) fun _ _ _ hd=>hd.elim
 exact ⟨ρ3,e1,e3 _ _ c7,fun u x hr=>e3 _ _ (c3 _ _ (b7 _ _ (a4 _ _ (d5 _ _ hr)))),a9⟩
theorem objG_same {σ':St} {p:Nat} (h:σ'.kd p=σ.kd p):objG σ' p=objG σ p:=by unfold objG;rw [h]
theorem zdy.mem {σ':St} {gs:yad} (h:zdy σ σ' gs) {p:Nat×Nat} (hp:p∈gs):σ'.gn p.1=σ.gn p.1∧σ'.kd p.1=σ.kd p.1∧zqa σ' p.1=zqa σ p.1 :=
 have hh:=zdy.head (p:=p) (c:=[]) fun l hl=>h l (by
  unfold frd at *
  rw [ya3,ycr,ybp] at hl
  exact yci.2 ⟨p,hp,hl⟩)
 ⟨hh.1,hh.2.1,hh.2.2.1⟩
theorem cellG0_same {σ':St} {own:List Nat} {d i j:Nat} {c:AV} {x:Oc} {gs:yad} (e:zv5 σ own d i j c=some (x,gs)) (h:∀ p∈gs,σ'.kd p.1=σ.kd p.1):zv5 σ' own d i j c=some (x,gs):=by
 unfold zv5 at e ⊢;split at e
 ·exact e
 ·rename_i p g;split at e
  ·rename_i k hk;injection e with e
   injection e with e1 e2
   subst e1 e2;rw [objG_same (h (p,g) (by simp)),hk]
  ·cases e
 ·cases e
theorem cellG_same {σ':St} {own:List Nat} {d i j:Nat} {c:AV} {x:Oc} {gs:yad} (e:cellG σ own d i j c=some (x,gs)) (h:∀ p∈gs,σ'.kd p.1=σ.kd p.1):cellG σ' own d i j c=some (x,gs):=by
 unfold cellG at e ⊢;split at e
 ·rename_i hh;exact e
 ·rename_i hh;exact cellG0_same e h
theorem ztz {σ':St} {own:List Nat} {d i:Nat}:∀ {cs:List AV} {j:Nat} {xs:List Oc} {gs:yad},zse σ own d i j cs=some (xs,gs)->(∀ p∈gs,σ'.kd p.1=σ.kd p.1)->zse σ' own d i j cs=some (xs,gs)
 | [],_,_,_,e,_=>e
 | c::cs,j,xs,gs,e,h=>by
  simp only [zse] at e ⊢;split at e
  ·rename_i x g1 xs1 gs1 h1 h2;simp only [zkF,zkG] at e;obtain ⟨rfl,rfl⟩:=e;rw [cellG_same h1 fun p hp=>h p (yai _ hp),ztz h2 fun p hp=>h p (yaf _ hp)]
  ·cases e
theorem argG_same {σ':St} {own:List Nat} {d i:Nat} {c:AV} {x:Arg} {bs gs:yad} (e:argG σ own d i c=some (x,bs,gs)) (hb:zdy σ σ' bs) (hg:zdy σ σ' gs):argG σ' own d i c=some (x,bs,gs):=by
 unfold argG at e ⊢;split at e
 ·rename_i ho;split at e
  ·rename_i b g;split at e
   ·rename_i k hk;simp only [zkF,zkG] at e;obtain ⟨rfl,rfl,rfl⟩:=e;rw [objG_same (hg.mem (p:=(b,g)) (by simp)).2.1,hk]
   ·cases e
  ·rename_i b g;split at e
   ·rename_i t m hk;split at e
    ·rename_i cs a2 a0;simp only [zkF,zkG] at e;obtain ⟨rfl,rfl,rfl⟩:=e;obtain ⟨h1,h2,h3⟩:=hg.mem (p:=(b,g)) (by simp);simp only [h2,hk];rw [h3,ztz a0 fun p hp=>(hg.mem (yay _ hp)).2.1]
    ·cases e
   ·cases e
  ·exact e
  ·cases e
 ·rename_i ho;split at e
  ·exact e
  ·split at e
   ·rename_i y bs' hy;simp only [zkF,zkG] at e;obtain ⟨rfl,rfl,rfl⟩:=e;rw [znp hy hb]
   ·cases e
theorem zkh {σ':St} {own:List Nat} {d:Nat}:∀ {cs:List AV} {i:Nat} {xs:List Arg} {bs gs:yad},zk5 σ own d i cs=some (xs,bs,gs)->zdy σ σ' bs->zdy σ σ' gs->zk5 σ' own d i cs=some (xs,bs,gs)
 | [],i,xs,bs,gs,e,_,_=>e
 | c::cs,i,xs,bs,gs,e,hb,hg=>by
  simp only [zk5] at e ⊢;split at e
  ·rename_i x b1 g1 xs1 bs1 gs1 h1 h2;simp only [zkF,zkG] at e;obtain ⟨rfl,rfl,rfl⟩:=e;rw [argG_same h1 hb.left hg.left,zkh h2 hb.right hg.right]
  ·cases e
theorem zoh {ρ:Ly} {bs gs:yad} (h:∀ p∈gs,p.1∉bs.map (·.1)):zdp (app σ (fwr bs)) ρ gs=zdp σ ρ gs:=by
 unfold zdp
 induction gs with
 | nil=>rfl
 | cons p gs ih =>
  rw [ya3,ya3,zly,if_neg (h p (by simp)),ih fun q hq=>h q (by simp [hq])]
theorem zjt:∀ {l:List (Nat×Kd)} {p:Nat×Kd},p∈l->Loc.gen p.1∈znf l∧Loc.ign p.1∈znf l
 | q::l,p,h=>by
  rcases yau.1 h with rfl | h
  ·exact ⟨by simp [znf],by simp [znf]⟩
  ·obtain ⟨h1,h2⟩:=zjt h;exact ⟨by simp [znf,h1],by simp [znf,h2]⟩
theorem zjf {σ':St} {b:Nat} (h:σ' (.ign b)=σ (.ign b)):σ'.ig b=σ.ig b:=by unfold St.ig;rw [h]
theorem resOk_flat {w:World} {S S':Nat->Prop} {v:Value} {ps:List Value} {r:Rs} {F:List Nat} (hf:flatRs r) (h:zm5 w S v ps r F):zm5 w S' v ps r F:=by
 cases r with
 | mk tp l ys =>
  obtain ⟨us,F1,F2,h1,h2,h3,h4⟩:=h;exact ⟨us,F1,F2,h1,h2.flat hf.1,h3.flat hf.2,h4⟩
theorem zow {τ:St}:∀ {bx:yad} {ys:List Arg} {bl:List (Nat×LK)} {ss:List (Nat×Kd)},bxPl τ bx ys=some (bl,ss)->bl.map (·.1)=bx.map (·.1)
 | [],[],bl,ss,e=>by simp only [bxPl,zkF,zkG] at e;obtain ⟨rfl,rfl⟩:=e;rfl
 | [],_::_,_,_,e=>by simp [bxPl] at e
 | (b,i)::bx,[],_,_,e=>by simp [bxPl] at e
 | (b,i)::bx,.im _::ys,_,_,e=>by simp [bxPl] at e
 | (b,i)::bx,.ow _::ys,_,_,e=>by simp [bxPl] at e
 | (b,i)::bx,.lent k::ys,bl,ss,e=>by
  unfold bxPl at e;split at e
  ·rename_i l s2 hfk e2;simp only [zkF,zkG] at e;obtain ⟨rfl,rfl⟩:=e;simp [zow e2]
  ·cases e
 | (b,i)::bx,.box t cs::ys,bl,ss,e=>by
  unfold bxPl at e;split at e
  ·rename_i al s1 l s2 e1 e2;simp only [zkF,zkG] at e;obtain ⟨rfl,rfl⟩:=e;simp [zow e2]
  ·cases e
theorem zq7 {own:List Nat} {d:Nat}:∀ {cs:List AV} {i:Nat} {xs:List Arg} {bs gs:yad},zk5 σ own d i cs=some (xs,bs,gs)->((bxG own d i cs).map (·.1)).Sublist (gs.map (·.1))
 | [],i,xs,bs,gs,e=>by simp [bxG]
 | c::cs,i,xs,bs,gs,e=>by
  simp only [zk5] at e;split at e
  ·rename_i x b1 g1 xs1 bs1 gs1 h1 h2;simp only [zkF,zkG] at e;obtain ⟨rfl,rfl,rfl⟩:=e;have ih:=zq7 h2
   have up:((bxG own d (i+1) cs).map (·.1)).Sublist ((g1++gs1).map (·.1)):=by
    rw [ya9];exact ih.trans (ycx _ _)
   unfold argG at h1;unfold bxG;split at h1
   ·split at h1
    ·rename_i b g;split at h1
     ·simp only [zkF,zkG] at h1;obtain ⟨rfl,rfl,rfl⟩:=h1;simp only;split
      ·simp only [yan,ycq];refine List.Sublist.cons_cons _ ?_;exact ih
      ·exact up
     ·cases h1
    ·rename_i b g;split at h1
     ·split at h1
      ·simp only [zkF,zkG] at h1;obtain ⟨rfl,rfl,rfl⟩:=h1;simp only [yan,ycq];refine List.Sublist.cons_cons _ ?_;rw [ya9];exact ih.trans (ycx _ _)
      ·cases h1
     ·cases h1
    ·exact up
    ·cases h1
   ·exact up
  ·cases e
theorem agL_len:∀ (cs:List AV),(agL cs).length=cs.length
 | []=>rfl
 | _::l=>congrArg (·+1) (agL_len l)
theorem argG_nm {own:List Nat} {d i:Nat} {a:AV} {x:Arg} {bs gs:yad} (h:argG σ own d i a=some (x,bs,gs)):x≠.lent .dead:=by
 rintro rfl;unfold argG at h;split at h
 ·split at h
  ·split at h
   ·rename_i k hk;simp only [zkF,zkG] at h;unfold lentG at h;split at h
    ·obtain ⟨h1,_⟩:=h;injection h1 with h1
     exact (zl1 hk).2.1 h1
    ·cases h.1
   ·cases h
  ·split at h
   ·split at h
    ·simp at h
    ·cases h
   ·cases h
  ·split at h
   ·split at h
    ·simp at h
    ·cases h
   ·cases h
  ·cases h
 ·split at h
  ·split at h
   ·simp at h
   ·cases h
  ·split at h
   ·simp at h
   ·cases h
theorem argsG_nm {own:List Nat} {d i:Nat} {al0:List AV} {xs:List Arg} {bs gs:yad} (h:zk5 σ own d i al0=some (xs,bs,gs)):nmX xs=true:=by
 cases al0 with
 | nil =>
  simp only [zk5,zkF,zkG] at h;rw [<- h.1];rfl
 | cons a l =>
  simp only [zk5] at h;split at h
  ·rename_i h1 _;simp only [zkF,zkG] at h;rw [<- h.1];have:=argG_nm h1;unfold nmX;split
   ·rename_i e;injection e with e
    exact absurd e this
   ·rfl
  ·cases h
theorem aCall_ok {C:FuncId->List Arg->Rs->Prop} (hC:∀ g xs r,C g xs r->SpX P g xs r) {own:List Nat} {c:Call} {f:Operand} (hop:o.op=.call c) (hcal:c.callee=.value f) (hd:zdh B.n o=true) (h:aCall own o σ K C f c.args.toList):∃ fx,K fx∧Eff P B o fx.rd σ fx.wr:=by
 unfold aCall at h;split at h
 ·rename_i d g caps a8 hf;split at h
  ·rename_i xs bs gs b6;obtain ⟨e5,h⟩:=h.ok;obtain ⟨a0,b0⟩:=zhh e5;obtain ⟨c0,r,hr,h⟩:=h.out;obtain ⟨a5,e4⟩:=(hC g xs r hr).sp (argsG_nm b6);cases r with
   | mk tp l ys =>
   simp only at h;split at h
   ·rename_i al ss bl ss' c7 c9;split at h
    ·rename_i va d3;obtain ⟨d7,h⟩:=h.ok;obtain ⟨b4,a9⟩:=zhh d7;have e3:al=(zcj σ (zfa tp d) 0 l).1:=by rw [c7]
     have d6:ss=(zcj σ (zfa tp d) 0 l).2:=by rw [c7]
     subst e3 d6;have a7:=((zq7 b6).nodup a0);have d0:∀ t,some d=some t->t<B.n:=fun t e=>by injection e with e;subst e;exact zdf hd a8
     have b5:∀ (σ':St),(∀ x∈opd f++opdL c.args.toList++frd σ (bs++gs)++znf ((zcj σ (zfa tp d) 0 l).2++ss'),σ' x=σ x)->∀ (a:Act) (w:World) (ρ:Ly),SatR B σ' a w ρ->∀ (K':Act->World->Prop) (Q:Exit->Act->World->Prop),
       (∀ v w' F',Belo (fun b=>b∈zdp σ' ρ gs) w.heap.size w w'->zm5 w' (fun b=>(Imm B (app σ' (fwr bs)) ρ w b∨w.heap.size<=b∨b∈zdp σ' ρ gs)∧b<w'.heap.size∧b∉F') v ((bxG own d 0 (c.args.toList.map (evA σ)++caps)).map fun p=>ρ p.1) (.mk tp l ys) F' ->
        F'.Nodup->(∀ b∈F',(w.heap.size<=b∨b∈zdp σ' ρ gs)∧b<w'.heap.size)->(∀ p∈(zcj σ (zfa tp d) 0 l).2++ss',σ'.gn p.1=σ.gn p.1∧σ'.ig p.1=σ.ig p.1)->K' (a.put (some d) v) w')->o.wp P a w K' Q:=by
      intro σ' hag a w ρ hs K' Q hK;have d1:=zao (zao (zao hag));have c6:=za3 (zao (zao hag));have a3:zdy σ σ' (bs++gs):=za3 (zao hag);have b3:=za3 hag
      have b8:∀ p∈bs++gs,σ'.gn p.1=p.2:=fun p hp=>by
       rw [<- c0 p hp];exact (a3.mem hp).1
      obtain ⟨us,d5,e0⟩:∃ us:List Value,a.eval f=.func (.func g) #[] us.toArray∧Reps w (Imm B σ' ρ w) ρ σ'.gn us caps:=by
       have h1:=za0 hs f;rw [zai d1] at h1;split at hf
       ·rename_i g' a4 b9;simp only [zkF,zkG] at hf;obtain ⟨rfl,rfl⟩:=hf;rw [b9] at h1;have h1:=h1.im_inv;generalize a.eval f=v at h1;cases h1 with
        | fn _ us _ hl hr =>
         refine ⟨us,rfl,by simpa using hl,fun i u y hu hy=>?_⟩;simp only [yat] at hy;cases hc:a4[i]? with
         | none=>rw [hc] at hy;cases hy
         | some c =>
          rw [hc] at hy;simp only [yaj,zkF] at hy;rw [<- hy];exact .im _ _ (hr i u c hu hc)
       ·rename_i g' a4 b9;simp only [zkF,zkG] at hf;obtain ⟨rfl,rfl⟩:=hf;rw [b9] at h1;generalize a.eval f=v at h1;cases h1 with
        | fn _ us _ hl hr=>exact ⟨us,rfl,hl,hr⟩
       ·cases hf
      have a2:=(evL_ok hs c6).app e0;have c8:=zkh b6 a3.left a3.right;have d4:=zoj hs (bs0:=bs) (fun p hp=>b8 p (yai _ hp)) a2 c8 (fun _ h=>h) fun p hp=>b8 p (yaf _ hp);obtain ⟨e2,_⟩:=bxG_ok hs a2 c8 fun p hp=>b8 p (yaf _ hp)
      have a6:=e4 w (Imm B (app σ' (fwr bs)) ρ w) _ _ (fun b hb=>hb.2.1) d4 (ze0 hs a0) fun b hb=>by
       obtain ⟨p,hp,ho⟩:=zed.1 hb;refine ⟨fun hi=>hi.2.2.1 p.1 ?_,(hs.own p.1 b ho).2⟩;unfold Owns at ho ⊢;rw [zly,if_neg (b0 p.1 (yap.2 ⟨p,hp,rfl⟩))];exact ho
      have run:(execOp a.eval o).run P w=.ok (.enter g (c.args.toList.map a.eval++us).toArray) w:=by
       have e:(c.args.map a.eval)++us.toArray=(c.args.toList.map a.eval++us).toArray:=by
        apply ydw;simp
       simp [execOp,hop,resolve,hcal,d5,Deferred.ofValue,invoke,a5,<- e]
      unfold Oper.wp;rw [run,Oper.upon_enter];refine a6.mono ?_;rintro e w' ⟨v,F',rfl,d2,b2,d8,e1⟩;show K' (a.put o.dst v) w';rw [a8];rw [e2] at b2
      exact hK v w' F' d2 b2 d8 e1 fun p hp=>by
       obtain ⟨h5,h6⟩:=zjt hp;exact ⟨zd6 (b3 _ h5),zjf (b3 _ h6)⟩
     split at h
     ·obtain ⟨b7,h⟩:=h.out;refine ⟨_,h,fun σ' hag a w ⟨ρ,hs⟩ K' Q hK=>b5 σ' hag a w ρ hs K' Q fun v w' F' h1 h2 h3 h4 h5=>hK _ _ ?_⟩;obtain ⟨ρ',g1,g2,_⟩:=ziy hs gs a0 (S':=fun _=>False) h1 (fun b hb=>hb.elim) (resOk_flat b7 h2) h3 h4 c9 rfl a7 d3 b4 a9 h5;refine ⟨ρ',?_⟩;show SatR B (app σ' (fwr gs++(zdz σ ((zcj σ (zfa tp d) 0 l).2++ss')++(bxWr bl++[(.tmp d,.av va)])))) _ _ _;rw [zau,zau,zau];exact g1.put (d:=some d) d0 g2
     ·refine ⟨_,h,fun σ' hag a w ⟨ρ,hs⟩ K' Q hK=>b5 σ' hag a w ρ hs K' Q fun v w' F' h1 h2 h3 h4 h5=>hK _ _ ?_⟩;have d9:=zoh (σ:=σ') (ρ:=ρ) (bs:=bs) (gs:=gs) fun p hp=>b0 p.1 (yap.2 ⟨p,hp,rfl⟩);rw [<- d9] at h1 h2 h4;obtain ⟨ρ',g1,g2,_⟩:=ziy (hs.kills bs).1 gs a0 h1 (fun b hb=>hb) h2 h3 h4 c9 rfl a7 d3 b4 a9 fun p hp=>by rw [zo7,zuj];exact h5 p hp
      refine ⟨ρ',?_⟩;show SatR B (app σ' (fwr bs++(fwr gs++(zdz σ ((zcj σ (zfa tp d) 0 l).2++ss')++(bxWr bl++[(.tmp d,.av va)]))))) _ _ _;rw [zau,zau,zau,zau];exact g1.put (d:=some d) d0 g2
    ·exact h.elim
   ·exact h.elim
  ·exact h.elim
 ·exact h.elim
theorem aCallA_ok {C:FuncId->List Arg->Rs->Prop} (hC:∀ g xs r,C g xs r->SpX P g xs r) {own:List Nat} {c:Call} {f:Operand} (hop:o.op=.call c) (hcal:c.callee=.value f) (hd:zdh B.n o=true) (h:aCallA own o σ K C f c.args.toList):∃ fx,K fx∧Eff P B o fx.rd σ fx.wr:=by
 unfold aCallA at h;split at h
 ·rename_i d g caps cs rest b0 hf e9;split at h
  ·rename_i xs bs gs c7;obtain ⟨e3,h⟩:=h.ok;obtain ⟨a5,b4⟩:=zhh e3;obtain ⟨b7,r,hr,h⟩:=h.out;obtain ⟨a9,f5⟩:SpA P g (agT (own.contains (8500000+d))) (agL cs).length xs r:=hC g _ r hr;cases r with
   | mk tp l ys =>
   simp only at h;split at h
   ·rename_i al ss bl ss' d0 e8;split at h
    ·rename_i va a3;obtain ⟨d9,h⟩:=h.ok;obtain ⟨c6,c8⟩:=zhh d9;have e2:al=(zcj σ (zfa tp d) 0 l).1:=by rw [d0]
     have d8:ss=(zcj σ (zfa tp d) 0 l).2:=by rw [d0]
     subst e2 d8;have b8:=((zq7 c7).nodup a5);have f4:∀ t,some d=some t->t<B.n:=fun t e=>by injection e with e;subst e;exact zdf hd b0
     have d5:∀ (σ':St),(∀ x∈opd f++opdL c.args.toList++frd σ (bs++gs)++znf ((zcj σ (zfa tp d) 0 l).2++ss'),σ' x=σ x)->∀ (a:Act) (w:World) (ρ:Ly),SatR B σ' a w ρ->∀ (K':Act->World->Prop) (Q:Exit->Act->World->Prop),
       (∀ v u w' F',RetA (agT (own.contains (8500000+d))) v u->Belo (fun b=>b∈zdp σ' ρ gs) w.heap.size w w'->zm5 w' (fun b=>(Imm B (app σ' (fwr bs)) ρ w b∨w.heap.size<=b∨b∈zdp σ' ρ gs)∧b<w'.heap.size∧b∉F') u ((bxG own d 0 (cs++(rest++caps))).map fun p=>ρ p.1) (.mk tp l ys) F' ->
        F'.Nodup->(∀ b∈F',(w.heap.size<=b∨b∈zdp σ' ρ gs)∧b<w'.heap.size)->(∀ p∈(zcj σ (zfa tp d) 0 l).2++ss',σ'.gn p.1=σ.gn p.1∧σ'.ig p.1=σ.ig p.1)->K' (a.put (some d) v) w')->o.wp P a w K' Q:=by
      intro σ' hag a w ρ hs K' Q hK;have c0:=zao (zao (zao hag));have c9:=za3 (zao (zao hag));have a7:zdy σ σ' (bs++gs):=za3 (zao hag);have b3:=za3 hag
      have b5:∀ p∈bs++gs,σ'.gn p.1=p.2:=fun p hp=>by
       rw [<- b7 p hp];exact (a7.mem hp).1
      obtain ⟨us,e5,e4⟩:∃ us:List Value,a.eval f=.func (.func g) #[] us.toArray∧Reps w (Imm B σ' ρ w) ρ σ'.gn us caps:=by
       have h1:=za0 hs f;rw [zai c0] at h1;split at hf
       ·rename_i g' a6 a0;simp only [zkF,zkG] at hf;obtain ⟨rfl,rfl⟩:=hf;rw [a0] at h1;have h1:=h1.im_inv;generalize a.eval f=v at h1;cases h1 with
        | fn _ us _ hl hr =>
         refine ⟨us,rfl,by simpa using hl,fun i u y hu hy=>?_⟩;simp only [yat] at hy;cases hc:a6[i]? with
         | none=>rw [hc] at hy;cases hy
         | some c =>
          rw [hc] at hy;simp only [yaj,zkF] at hy;rw [<- hy];exact .im _ _ (hr i u c hu hc)
       ·rename_i g' a6 a0;simp only [zkF,zkG] at hf;obtain ⟨rfl,rfl⟩:=hf;rw [a0] at h1;generalize a.eval f=v at h1;cases h1 with
        | fn _ us _ hl hr=>exact ⟨us,rfl,hl,hr⟩
       ·cases hf
      have a0:=evL_ok hs c9;rw [e9] at a0
      obtain ⟨u0,vr,d7,h0,a2,e1⟩:∃ u0 vr,c.args.toList.map a.eval=.agg u0.toArray::vr∧Reps w (Imm B σ' ρ w) ρ σ'.gn u0 cs∧(∀ u∈u0,u.oneCell'=true)∧Reps w (Imm B σ' ρ w) ρ σ'.gn vr rest:=by
       generalize c.args.toList.map a.eval=vs at a0
       match vs,a0 with
       | [],a0=>have:=a0.1;simp at this
       | v::vr,a0 =>
        have h1:=a0.2 0 v (.agg cs) rfl rfl;cases h1 with
        | agg us _ hl h1 hr=>exact ⟨us,vr,rfl,⟨hl,hr⟩,h1,by simpa using a0.1,fun i u x hu hx=>a0.2 (i+1) u x (by simpa using hu) (by simpa using hx)⟩
      have a4:=h0.app (e1.app e4);have b9:=zkh c7 a7.left a7.right;have d6:=zoj hs (bs0:=bs) (fun p hp=>b5 p (yai _ hp)) a4 b9 (fun _ h=>h) fun p hp=>b5 p (yaf _ hp);obtain ⟨f3,_⟩:=bxG_ok hs a4 b9 fun p hp=>b5 p (yaf _ hp)
      have a8:=f5 w (Imm B (app σ' (fwr bs)) ρ w) _ _ _ (fun b hb=>hb.2.1) d6 (by rw [agL_len];exact h0.1) a2 (ze0 hs a5) fun b hb=>by
       obtain ⟨p,hp,ho⟩:=zed.1 hb;refine ⟨fun hi=>hi.2.2.1 p.1 ?_,(hs.own p.1 b ho).2⟩;unfold Owns at ho ⊢;rw [zly,if_neg (b4 p.1 (yap.2 ⟨p,hp,rfl⟩))];exact ho
      have run:(execOp a.eval o).run P w=.ok (.enter g (c.args.toList.map a.eval++us).toArray) w:=by
       have e:(c.args.map a.eval)++us.toArray=(c.args.toList.map a.eval++us).toArray:=by
        apply ydw;simp
       simp [execOp,hop,resolve,hcal,e5,Deferred.ofValue,invoke,a9,<- e]
      rw [d7] at run;unfold Oper.wp;rw [run,Oper.upon_enter];refine a8.mono ?_;rintro e w' ⟨v,u,F',rfl,d3,d4,b2,e0,e7⟩;show K' (a.put o.dst v) w';rw [b0];rw [f3] at b2
      exact hK v u w' F' d3 d4 b2 e0 e7 fun p hp=>by
       obtain ⟨h5,h6⟩:=zjt hp;exact ⟨zd6 (b3 _ h5),zjf (b3 _ h6)⟩
     refine ⟨_,h,fun σ' hag a w ⟨ρ,hs⟩ K' Q hK=>d5 σ' hag a w ρ hs K' Q fun v u w' F' h0 h1 h2 h3 h4 h5=>hK _ _ ?_⟩;have e6:=zoh (σ:=σ') (ρ:=ρ) (bs:=bs) (gs:=gs) fun p hp=>b4 p.1 (yap.2 ⟨p,hp,rfl⟩);rw [<- e6] at h1 h2 h4
     obtain ⟨b6,d1,d2⟩:∃ b6,resV tp (zcj σ (zfa tp d) 0 l).1=some b6∧∀ (w:World) (S:Nat->Prop) (ρ:Ly) (γ:Nat->Nat),RepA w S ρ γ u b6->RepA w S ρ γ v va:=by
      generalize own.contains (8500000+d)=fl at a3 h0;cases fl with
      | false=>exact ⟨va,a3,fun _ _ _ _ hr=>by have h0:v=u:=h0;rw [h0];exact hr⟩
      | true =>
       obtain ⟨us',rfl,rfl,ho⟩:∃ us:List Value,u=.tuple us.toArray∧v=.agg us.toArray∧∀ x∈us,x.oneCell'=true:=h0;cases tp with
       | false=>cases a3
       | true =>
        have a3:some (AV.agg (zcj σ (zfa true d) 0 l).1)=some va:=a3;injection a3 with a3
        subst a3;refine ⟨_,rfl,fun w S ρ γ hr=>?_⟩;generalize hq:Value.tuple us'.toArray=q at hr;cases hr with
        | tup us2 _ hl hr2 =>
         have e:us2=us':=by
          injection hq with hq
          have:=congrArg Array.toList hq;simpa using this.symm
         subst e;exact .agg _ _ hl ho hr2
     obtain ⟨ρ',g1,g2,_⟩:=ziy (hs.kills bs).1 gs a5 h1 (fun b hb=>hb) h2 h3 h4 e8 rfl b8 d1 c6 c8 fun p hp=>by rw [zo7,zuj];exact h5 p hp
     refine ⟨ρ',?_⟩;show SatR B (app σ' (fwr bs++(fwr gs++(zdz σ ((zcj σ (zfa tp d) 0 l).2++ss')++(bxWr bl++[(.tmp d,.av va)]))))) _ _ _;rw [zau,zau,zau,zau];exact g1.put (d:=some d) f4 (d2 _ _ _ _ g2)
    ·exact h.elim
   ·exact h.elim
  ·exact h.elim
 ·exact h.elim
theorem aCallR_ok {C:FuncId->List Arg->Rs->Prop} (hC:∀ g xs r,C g xs r->SpX P g xs r) {own:List Nat} {c:Call} {f:Operand} (hop:o.op=.call c) (hcal:c.callee=.value f) (hd:zdh B.n o=true) (h:aCallR own o σ K C f c.args.toList):∃ fx,K fx∧Eff P B o fx.rd σ fx.wr:=by
 unfold aCallR at h;split at h
 ·rename_i d g caps a9 hf;split at h
  ·rename_i xs bs gs c6;obtain ⟨e0,h⟩:=h.ok;obtain ⟨a3,b3⟩:=zhh e0;obtain ⟨b6,r,hr,h⟩:=h.out;obtain ⟨a8,e8⟩:SpR P g xs r:=hC g _ r hr;cases r with
   | mk tp l ys =>
   simp only at h;split at h
   ·rename_i al ss bl ss' c9 e5;split at h
    ·rename_i va a0;obtain ⟨d7,h⟩:=h.ok;obtain ⟨c0,c7⟩:=zhh d7;have d9:al=(zcj σ (zfa tp d) 0 l).1:=by rw [c9]
     have d6:ss=(zcj σ (zfa tp d) 0 l).2:=by rw [c9]
     subst d9 d6;have b7:=((zq7 c6).nodup a3);have e7:∀ t,some d=some t->t<B.n:=fun t e=>by injection e with e;subst e;exact zdf hd a9
     have d4:∀ (σ':St),(∀ x∈opd f++opdL c.args.toList++frd σ (bs++gs)++znf ((zcj σ (zfa tp d) 0 l).2++ss'),σ' x=σ x)->∀ (a:Act) (w:World) (ρ:Ly),SatR B σ' a w ρ->∀ (K':Act->World->Prop) (Q:Exit->Act->World->Prop),
       (∀ v u w' F',RetA 1 v u->Belo (fun b=>b∈zdp σ' ρ gs) w.heap.size w w'->zm5 w' (fun b=>(Imm B (app σ' (fwr bs)) ρ w b∨w.heap.size<=b∨b∈zdp σ' ρ gs)∧b<w'.heap.size∧b∉F') u ((bxG own d 0 (c.args.toList.map (evA σ)++caps)).map fun p=>ρ p.1) (.mk tp l ys) F' ->
        F'.Nodup->(∀ b∈F',(w.heap.size<=b∨b∈zdp σ' ρ gs)∧b<w'.heap.size)->(∀ p∈(zcj σ (zfa tp d) 0 l).2++ss',σ'.gn p.1=σ.gn p.1∧σ'.ig p.1=σ.ig p.1)->K' (a.put (some d) v) w')->o.wp P a w K' Q:=by
      intro σ' hag a w ρ hs K' Q hK;have b9:=zao (zao (zao hag));have c8:=za3 (zao (zao hag));have a5:zdy σ σ' (bs++gs):=za3 (zao hag);have b2:=za3 hag
      have b4:∀ p∈bs++gs,σ'.gn p.1=p.2:=fun p hp=>by
       rw [<- b6 p hp];exact (a5.mem hp).1
      obtain ⟨us,e2,e1⟩:∃ us:List Value,a.eval f=.func (.func g) #[] us.toArray∧Reps w (Imm B σ' ρ w) ρ σ'.gn us caps:=by
       have h1:=za0 hs f;rw [zai b9] at h1;split at hf
       ·rename_i g' a4 a6;simp only [zkF,zkG] at hf;obtain ⟨rfl,rfl⟩:=hf;rw [a6] at h1;have h1:=h1.im_inv;generalize a.eval f=v at h1;cases h1 with
        | fn _ us _ hl hr =>
         refine ⟨us,rfl,by simpa using hl,fun i u y hu hy=>?_⟩;simp only [yat] at hy;cases hc:a4[i]? with
         | none=>rw [hc] at hy;cases hy
         | some c =>
          rw [hc] at hy;simp only [yaj,zkF] at hy;rw [<- hy];exact .im _ _ (hr i u c hu hc)
       ·rename_i g' a4 a6;simp only [zkF,zkG] at hf;obtain ⟨rfl,rfl⟩:=hf;rw [a6] at h1;generalize a.eval f=v at h1;cases h1 with
        | fn _ us _ hl hr=>exact ⟨us,rfl,hl,hr⟩
       ·cases hf
      have a6:=evL_ok hs c8;have a2:=a6.app e1;have b8:=zkh c6 a5.left a5.right;have d5:=zoj hs (bs0:=bs) (fun p hp=>b4 p (yai _ hp)) a2 b8 (fun _ h=>h) fun p hp=>b4 p (yaf _ hp);obtain ⟨e6,_⟩:=bxG_ok hs a2 b8 fun p hp=>b4 p (yaf _ hp)
      have a7:=e8 w (Imm B (app σ' (fwr bs)) ρ w) _ _ (fun b hb=>hb.2.1) d5 (ze0 hs a3) fun b hb=>by
       obtain ⟨p,hp,ho⟩:=zed.1 hb;refine ⟨fun hi=>hi.2.2.1 p.1 ?_,(hs.own p.1 b ho).2⟩;unfold Owns at ho ⊢;rw [zly,if_neg (b3 p.1 (yap.2 ⟨p,hp,rfl⟩))];exact ho
      have run:(execOp a.eval o).run P w=.ok (.enter g (c.args.toList.map a.eval++us).toArray) w:=by
       have e:(c.args.map a.eval)++us.toArray=(c.args.toList.map a.eval++us).toArray:=by
        apply ydw;simp
       simp [execOp,hop,resolve,hcal,e2,Deferred.ofValue,invoke,a8,<- e]
      unfold Oper.wp;rw [run,Oper.upon_enter];refine a7.mono ?_;rintro e w' ⟨v,u,F',rfl,d2,d3,b0,d8,e4⟩;show K' (a.put o.dst v) w';rw [a9];rw [e6] at b0
      exact hK v u w' F' d2 d3 b0 d8 e4 fun p hp=>by
       obtain ⟨h5,h6⟩:=zjt hp;exact ⟨zd6 (b2 _ h5),zjf (b2 _ h6)⟩
     refine ⟨_,h,fun σ' hag a w ⟨ρ,hs⟩ K' Q hK=>d4 σ' hag a w ρ hs K' Q fun v u w' F' h0 h1 h2 h3 h4 h5=>hK _ _ ?_⟩;have e3:=zoh (σ:=σ') (ρ:=ρ) (bs:=bs) (gs:=gs) fun p hp=>b3 p.1 (yap.2 ⟨p,hp,rfl⟩);rw [<- e3] at h1 h2 h4
     obtain ⟨b5,d0,d1⟩:∃ b5,resV tp (zcj σ (zfa tp d) 0 l).1=some b5∧∀ (w:World) (S:Nat->Prop) (ρ:Ly) (γ:Nat->Nat),RepA w S ρ γ u b5->RepA w S ρ γ v va:=by
      obtain ⟨us',rfl,rfl,ho⟩:∃ us:List Value,u=.tuple us.toArray∧v=.agg us.toArray∧∀ x∈us,x.oneCell'=true:=h0;cases tp with
      | false=>cases a0
      | true =>
       have a0:some (AV.agg (zcj σ (zfa true d) 0 l).1)=some va:=a0;injection a0 with a0
       subst a0;refine ⟨_,rfl,fun w S ρ γ hr=>?_⟩;generalize hq:Value.tuple us'.toArray=q at hr;cases hr with
       | tup us2 _ hl hr2 =>
        have e:us2=us':=by
         injection hq with hq
         have:=congrArg Array.toList hq;simpa using this.symm
        subst e;exact .agg _ _ hl ho hr2
     obtain ⟨ρ',g1,g2,_⟩:=ziy (hs.kills bs).1 gs a3 h1 (fun b hb=>hb) h2 h3 h4 e5 rfl b7 d0 c0 c7 fun p hp=>by rw [zo7,zuj];exact h5 p hp
     refine ⟨ρ',?_⟩;show SatR B (app σ' (fwr bs++(fwr gs++(zdz σ ((zcj σ (zfa tp d) 0 l).2++ss')++(bxWr bl++[(.tmp d,.av va)]))))) _ _ _;rw [zau,zau,zau,zau];exact g1.put (d:=some d) e7 (d1 _ _ _ _ g2)
    ·exact h.elim
   ·exact h.elim
  ·exact h.elim
 ·exact h.elim
theorem lkWr_gn (σ:St) (b:Nat) (x:LK):(app σ (lkWr b x)).gn=σ.gn:=by
 cases x with
 | box t al =>
  show (app (upd σ (.knd b) (.kd (.box t al.length))) (zg6 b 0 al)).gn=_;rw [zs4];exact funext fun o=>zgi σ b o _
 | obj k=>exact funext fun o=>zgi σ b o _
theorem lkWr_av (σ:St) (b:Nat) (x:LK) (t:Nat):(app σ (lkWr b x)).av t=σ.av t:=by
 cases x with
 | box ty al =>
  show (app (upd σ (.knd b) (.kd (.box ty al.length))) (zg6 b 0 al)).av t=_;rw [zsz,ziz]
 | obj k=>exact ziz σ b t _
theorem bxWr_gn:∀ {bl:List (Nat×LK)} {σ:St},(app σ (bxWr bl)).gn=σ.gn
 | [],_=>rfl
 | (b,x)::bl,σ=>by
  show (app σ (lkWr b x++bxWr bl)).gn=_;rw [zau,bxWr_gn,lkWr_gn]
theorem SatR.renew {σ:St} {a:Act} {w:World} {ρ:Ly} (h:SatR B σ a w ρ) (d:Nat) (v:Value):∃ ρ':Ly,SatR B (app σ [(.gen d,.n (σ.gn d+1)),(.knd d,.kd .dead)]) a w ρ'∧ρ' d=v ∧
  (∀ u x,RepA w (Imm B σ ρ w) ρ σ.gn u x->RepA w (Imm B (app σ [(.gen d,.n (σ.gn d+1)),(.knd d,.kd .dead)]) ρ' w) ρ' (app σ [(.gen d,.n (σ.gn d+1)),(.knd d,.kd .dead)]).gn u x) ∧
  ∀ b,Imm B σ ρ w b->Imm B (app σ [(.gen d,.n (σ.gn d+1)),(.knd d,.kd .dead)]) ρ' w b:=by
 have e1:∀ o,(app σ [(.gen d,.n (σ.gn d+1)),(.knd d,.kd .dead)]).kd o=if o=d then .dead else σ.kd o:=fun o=>by simp only [zb2,zex];rw [zfm,kd_gen]
 have e2:∀ o,(app σ [(.gen d,.n (σ.gn d+1)),(.knd d,.kd .dead)]).gn o=if o=d then σ.gn d+1 else σ.gn o:=fun o=>by simp only [zb2,zex];rw [zgi,zui]
 have e3:∀ o,(app σ [(.gen d,.n (σ.gn d+1)),(.knd d,.kd .dead)]).ig o=σ.ig o:=fun o=>by simp only [zb2,zex];rw [zj2,ig_gen]
 have a0:∀ b,¬ Owns (app σ [(.gen d,.n (σ.gn d+1)),(.knd d,.kd .dead)]) ⟨fun o=>if o=d then v else ρ o,ρ.inn,ρ.ig⟩ d b:=fun b hb=>by
  unfold Owns at hb;rw [e1,if_pos rfl] at hb;cases hb
 obtain ⟨h1,h2,h3,h4⟩:=h.stepZ (σ':=app σ [(.gen d,.n (σ.gn d+1)),(.knd d,.kd .dead)]) (ρ':=⟨fun o=>if o=d then v else ρ o,ρ.inn,ρ.ig⟩) (w':=w) (fun o=>o=d) B.Z
  (fun t=>by simp only [zb2,zex];rw [ziz,av_gen])
  (fun o hd=>⟨by rw [e1,if_neg hd],by rw [e2,if_neg hd],fun i=>by simp only [zb2,zex];rw [zj3,ce_gen],by simp [hd],rfl,rfl⟩)
  (fun o hd=>by
   subst hd
   exact ⟨⟨by rw [e2,if_pos rfl];omega,fun e=>by rw [e2,if_pos rfl] at e;omega⟩,yam _,fun _=>rfl⟩)
  (fun o=>by rw [e3];exact h.igs o) (Belo.refl _ _ _) (fun o b hd ho=>by subst hd;exact absurd ho (a0 b)) (fun o p b hd hp _ _=>hd.trans hp.symm)
  (fun b hb=>⟨(h.res b hb).1.2,.inr (.inl hb),fun o hd=>by subst hd;exact a0 b⟩) fun _ _ o hd=>by
   subst hd;rw [e1,if_pos rfl];trivial
 exact ⟨_,h1,by simp,h3,h4⟩
theorem aCallP_ok {C:FuncId->List Arg->Rs->Prop} (hC:∀ g xs r,C g xs r->SpX P g xs r) {own:List Nat} {c:Call} {f:Operand} (hop:o.op=.call c) (hcal:c.callee=.value f) (hd:zdh B.n o=true) (h:aCallP own o σ K C f c.args.toList):∃ fx,K fx∧Eff P B o fx.rd σ fx.wr:=by
 unfold aCallP at h;split at h
 ·rename_i d g caps a5 hf;split at h
  ·rename_i xs b7;obtain ⟨t,cs,hr,h⟩:=h;obtain ⟨a3,d1⟩:SpP P g xs (.mk true [] [.box t cs]):=hC g _ _ hr;split at h
   ·rename_i bl a9;have b8:∀ t,some d=some t->t<B.n:=fun t e=>by injection e with e;subst e;exact zdf hd a5
    refine ⟨_,h,fun σ' hag a w ⟨ρ,hs⟩ K' Q hK=>?_⟩;have b0:=zao (zao hag);have b2:=za3 (zao hag);have c8:σ'.gn d=σ.gn d:=zd6 (hag (.gen d) (yaf _ (yaw.2 rfl)))
    obtain ⟨us,b5,c0⟩:∃ us:List Value,a.eval f=.func (.func g) #[] us.toArray∧Reps w (Imm B σ' ρ w) ρ σ'.gn us caps:=by
     have h1:=za0 hs f;rw [zai b0] at h1;split at hf
     ·rename_i g' a2 a0;simp only [zkF,zkG] at hf;obtain ⟨rfl,rfl⟩:=hf;rw [a0] at h1;have h1:=h1.im_inv;generalize a.eval f=v at h1;cases h1 with
      | fn _ us _ hl hr =>
       refine ⟨us,rfl,by simpa using hl,fun i u y hu hy=>?_⟩;simp only [yat] at hy;cases hc:a2[i]? with
       | none=>rw [hc] at hy;cases hy
       | some c =>
        rw [hc] at hy;simp only [yaj,zkF] at hy;rw [<- hy];exact .im _ _ (hr i u c hu hc)
     ·rename_i g' a2 a0;simp only [zkF,zkG] at hf;obtain ⟨rfl,rfl⟩:=hf;rw [a0] at h1;generalize a.eval f=v at h1;cases h1 with
      | fn _ us _ hl hr=>exact ⟨us,rfl,hl,hr⟩
     ·cases hf
    have a0:=evL_ok hs b2;have a7:=a0.app c0;have c9:=zkh (σ':=σ') b7 (fun p hp=>by cases hp) (fun p hp=>by cases hp);have b4:=zoj hs (bs0:=[]) (fun p hp=>by cases hp) a7 c9 (fun _ h=>h) fun p hp=>by cases hp
    have a4:=d1 w (Imm B (app σ' (fwr [])) ρ w) _ _ (fun b hb=>hb.2.1) b4 yb8 fun b hb=>by cases hb
    have run:(execOp a.eval o).run P w=.ok (.enter g (c.args.toList.map a.eval++us).toArray) w:=by
     have e:(c.args.map a.eval)++us.toArray=(c.args.toList.map a.eval++us).toArray:=by
      apply ydw;simp
     simp [execOp,hop,resolve,hcal,b5,Deferred.ofValue,invoke,a3,<- e]
    unfold Oper.wp;rw [run,Oper.upon_enter];refine a4.mono ?_;rintro e w' ⟨v,F',rfl,b3,a6,b9,d0⟩;show K' (a.put o.dst v) w';rw [a5];refine hK _ _ ?_;obtain ⟨ρA,hA,b6,d3,c6⟩:=hs.renew d v;have c7:=zow a9;obtain ⟨ρ',g1,_,_,g4⟩:=ziy hA [] yb8 (v:=.tuple #[]) (ps:=[v]) (τ:=σ) (tp:=true) (d:=d) (l:=[]) (bx:=[(d,0)]) (va:=.tup []) b3 (fun b hb=>⟨(hb.1.imp (c6 b) id),hb.2⟩) a6 b9 d0 a9 (by simp [b6]) (by simp) rfl (by exact yb8) (fun x hx=>by cases hx) fun p hp=>by cases hp
    refine ⟨ρ',?_⟩;rw [<- c8];show SatR B (app σ' ([(.gen d,.n (σ'.gn d+1)),(.knd d,.kd .dead)]++(bxWr bl++[(.tmp d,.av (.own d (σ'.gn d+1) 0))]))) _ _ _;rw [zau,zau];have a8:ρ' d=v:=g4 0 d v (by rw [c7];rfl) rfl
    have d2:(app (app σ' [(.gen d,.n (σ'.gn d+1)),(.knd d,.kd .dead)]) (bxWr bl)).gn d=σ'.gn d+1:=by
     rw [bxWr_gn];simp only [zb2,zex];rw [zgi,zui,if_pos rfl]
    obtain ⟨q,hq⟩:∃ q,v=.pointer (some ⟨q,0,none⟩):=by
     obtain ⟨us,F1,F2,_,_,hy,_⟩:=a6;obtain ⟨_,_,⟨q,_,_,e,_⟩,_,_⟩:=hy;exact ⟨q,e⟩
    exact g1.put (d:=some d) b8 (.own _ _ _ _ (by rw [hq];rfl) (yc1 d2.symm) fun _=>⟨q,a8.trans hq,hq⟩)
   ·exact h.elim
  ·exact h.elim
 ·exact h.elim
end
end
section
def cellV (w:World) (v:Value) (j:Nat):Value:=match v with
 | .pointer (some a)=>match w.heap[a.block]? with
  | some (.cells us _ _)=>us.toList.getD j undef
  | _=>undef
 | _=>undef
theorem fillCs_ok {w:World} {S:Nat->Prop} {h:Nat->Bool} {V:Nat->Value}:∀ {us:List Value} {cs:List Oc} {j:Nat} {F:List Nat},(∀ k u,us[k]?=some u->V (j+k)=u∧u.oneCell'=true)->zlp w S us cs F->zlp w S us (fillCs h V j cs) F
 | [],[],_,_,_,hk=>hk
 | [],_::_,_,_,_,hk=>hk.elim
 | _::_,[],_,_,_,hk=>hk.elim
 | u::us,c::cs,j,F,hv,⟨F1,F2,h1,h2,h3⟩=>by
  refine ⟨F1,F2,?_,fillCs_ok (fun k x hx=>by rw [ybb,yb9 1 k];exact hv (k+1) x (by simpa using hx)) h2,h3⟩;unfold fillC;split
  ·split
   ·rename_i hc;cases c with
    | ow k=>cases hc
    | im x =>
     obtain ⟨_,h1⟩:=h1;obtain ⟨this,a2⟩:=hv 0 u rfl;rw [ybl] at this;rw [this];exact ⟨.ex _ a2,h1⟩
   ·exact h1
  ·exact h1
theorem fillX_ok {w:World} {S:Nat->Prop} {own:List Nat} {d:Nat} {V:Nat->Nat->Value}:∀ {vs:List Value} {xs:List Arg} {i:Nat} {F:List Nat},(∀ k v j,vs[k]?=some v->V (i+k) j=cellV w v j)->zem w S vs xs F->zem w S vs (fillX own d V i xs) F
 | [],[],_,_,_,hk=>hk
 | [],_::_,_,_,_,hk=>hk.elim
 | _::_,[],_,_,_,hk=>hk.elim
 | v::vs,x::xs,i,F,hv,⟨F1,F2,h1,h2,h3⟩=>by
  refine ⟨F1,F2,?_,fillX_ok (fun k x j hx=>by rw [ybb,yb9 1 k];exact hv (k+1) x j (by simpa using hx)) h2,h3⟩;cases x with
  | im x=>exact h1
  | ow k=>exact h1
  | lent k=>exact h1
  | box t cs =>
   obtain ⟨q,us,F',e1,e2,e3,e4,e5⟩:=h1;refine ⟨q,us,F',e1,e2,e3,fillCs_ok (fun k u hu=>?_) e4,e5⟩;have:=hv 0 v (0+k) rfl;rw [ybl] at this;refine ⟨?_,e3 u (zkH hu)⟩;rw [this,e1];unfold cellV;simp only [e2];rw [yae,ya7,hu];rfl
theorem fillX_vs {own:List Nat} {d:Nat} {V:Nat->Nat->Value}:∀ {vs:List Value} {xs:List Arg} {i:Nat},bxVs vs (fillX own d V i xs)=bxVs vs xs
 | [],[],_=>rfl
 | [],_::_,_=>rfl
 | _::_,[],_=>rfl
 | v::vs,x::xs,i=>by
  have ih:=fillX_vs (own:=own) (d:=d) (V:=V) (vs:=vs) (xs:=xs) (i:=i+1);cases x with
  | im x=>exact ih
  | ow k=>exact ih
  | lent k=>show v::_=v::_;rw [ih]
  | box t cs=>show v::_=v::_;rw [ih]
theorem zt3 {w:World} {S:Nat->Prop} {h:Nat->Bool} {V:Nat->Value}:∀ {us:List Value} {cs:List Oc} {j:Nat} {F:List Nat},zlp w S us (fillCs h V j cs) F->zlp w S us cs F∧∀ k c,cs[k]?=some c->h (j+k)=true->isAny c=true->us[k]?=some (V (j+k))
 | [],[],_,_,hk=>⟨hk,fun k c hc=>by simp at hc⟩
 | [],_::_,_,_,hk=>hk.elim
 | _::_,[],_,_,hk=>hk.elim
 | u::us,c::cs,j,F,⟨F1,F2,h1,h2,h3⟩=>by
  obtain ⟨r1,r2⟩:=zt3 h2
  have key:OcOk w S u c F1∧(h j=true->isAny c=true->u=V j):=by
   unfold fillC at h1;split at h1
   ·rename_i hh;split at h1
    ·rename_i hc;obtain ⟨h4,h5⟩:=h1;cases c with
     | ow k=>cases hc
     | im x =>
      cases x with
      | any=>cases h4;exact ⟨⟨.any _,h5⟩,fun _ _=>rfl⟩
      | _=>cases hc
    ·rename_i hc;exact ⟨h1,fun _ h6=>by rw [hc] at h6;cases h6⟩
   ·rename_i hh;exact ⟨h1,fun h6 _=>by rw [hh] at h6;cases h6⟩
  refine ⟨⟨F1,F2,key.1,r1,h3⟩,fun k c' hc hh ha=>?_⟩;cases k with
  | zero =>
   simp at hc;subst hc;rw [key.2 hh ha];rfl
  | succ k =>
   have:=r2 k c' (by simpa using hc) (by rw [ybb,yb9 1 k];exact hh) ha;rw [ybb,yb9 1 k] at this;simpa using this
theorem zwg {w:World} {S:Nat->Prop} {own:List Nat} {d:Nat} {V:Nat->Nat->Value}:∀ {bx:yad} {ps:List Value} {ys:List Arg} {F:List Nat},zem w S ps (fillY own d V bx ys) F->zem w S ps ys F ∧
  ∀ p∈hlY own d bx ys,∃ (k i:Nat) (t:TypeId) (cs:List Oc) (q:Nat) (us:List Value),bx[k]?=some (p.1,i)∧ys[k]?=some (.box t cs)∧p.2<cs.length∧ps[k]?=some (.pointer (some ⟨q,0,none⟩))∧w.heap[q]?=some (.cells us.toArray t (0,0))∧us[p.2]?=some (V i p.2)
 | [],ps,ys,F,hk=>⟨hk,fun p hp=>by cases ys<;>simp [hlY] at hp⟩
 | _::_,ps,[],F,hk=>⟨hk,fun p hp=>by simp [hlY] at hp⟩
 | (b,i)::bx,[],y::ys,F,hk=>hk.elim
 | (b,i)::bx,v::ps,y::ys,F,⟨F1,F2,h1,h2,h3⟩=>by
  obtain ⟨r1,r2⟩:=zwg h2
  have up:∀ p∈hlY own d bx ys,∃ (k i':Nat) (t:TypeId) (cs:List Oc) (q:Nat) (us:List Value),((b,i)::bx)[k]?=some (p.1,i')∧(y::ys)[k]?=some (.box t cs)∧p.2<cs.length∧(v::ps)[k]?=some (.pointer (some ⟨q,0,none⟩))∧w.heap[q]?=some (.cells us.toArray t (0,0))∧us[p.2]?=some (V i' p.2):=fun p hp=>by
   obtain ⟨k,i',t,cs,q,us,a1,a2,a3⟩:=r2 p hp;exact ⟨k+1,i',t,cs,q,us,by simpa using a1,by simpa using a2,by simpa using a3⟩
  cases y with
  | im x=>exact ⟨⟨F1,F2,h1,r1,h3⟩,up⟩
  | ow k=>exact ⟨⟨F1,F2,h1,r1,h3⟩,up⟩
  | lent k=>exact ⟨⟨F1,F2,h1,r1,h3⟩,up⟩
  | box t cs =>
   obtain ⟨q,us,F',e1,e2,e3,e4,e5⟩:=h1;obtain ⟨e6,e7⟩:=zt3 e4;refine ⟨⟨F1,F2,⟨q,us,F',e1,e2,e3,e6,e5⟩,r1,h3⟩,fun p hp=>?_⟩;unfold hlY at hp;rcases yal.1 hp with hp | hp
   ·have hcell:∀ (cs:List Oc) (j:Nat),p∈hlC own d i b j cs->∃ m c,p=(b,j+m)∧cs[m]?=some c∧holeH own d i (j+m)=true∧isAny c=true:=by
     intro cs
     induction cs with
     | nil=>intro j hp;simp [hlC] at hp
     | cons c cs ih =>
      intro j hp
      have a0:p∈hlC own d i b (j+1) cs->∃ m c',p=(b,j+m)∧(c::cs)[m]?=some c'∧holeH own d i (j+m)=true∧isAny c'=true:=fun hp=>by
       obtain ⟨m,c',a1,a2,a3,a4⟩:=ih (j+1) hp;exact ⟨m+1,c',by rw [a1,ybb,yb9 1 m],by simpa using a2,by rw [<- yb9 1 m,<- ybb];exact a3,a4⟩
      unfold hlC at hp;split at hp
      ·rename_i hh ha;rcases yau.1 hp with rfl | hp
       ·exact ⟨0,c,rfl,rfl,hh,ha⟩
       ·exact a0 hp
      ·exact a0 hp
    obtain ⟨m,c,rfl,a2,a3,a4⟩:=hcell cs 0 hp;rw [yae] at a3 ⊢;have a5:=e7 m c a2 (by rw [yae];exact a3) a4;rw [yae] at a5;exact ⟨0,i,t,cs,q,us,rfl,rfl,(zkI.1 a2).1,by rw [e1];rfl,e2,a5⟩
   ·exact up p hp
theorem memB_iff {b:Nat}:∀ {l:List Nat},memB b l=true↔b∈l
 | []=>by simp [memB]
 | x::l=>by
  unfold memB;split
  ·rename_i h;simp [yag h]
  ·rename_i h;have hne:b≠x:=fun e=>by rw [e,Nat.beq_refl] at h;cases h
   rw [memB_iff];simp [hne]
theorem memC_iff {b j:Nat}:∀ {l:yad},memC b j l=true↔(b,j)∈l
 | []=>by simp [memC]
 | x::l=>by
  unfold memC;split
  ·rename_i h;rw [yar] at h;have h1:=yag h.1;have h2:=yag h.2;have:(b,j)=x:=by rw [<- h1,<- h2]
   simp [this]
  ·rename_i h
   have a0:(b,j)≠x:=fun e=>by
    rw [<- e] at h;simp at h
   rw [memC_iff];simp [a0]
section
variable {P:Program} {B:Base} {o:Oper} {σ:St} {K:Fx->Prop}
theorem keepW_at (bs:List Nat) (hs:yad) (l:Loc):∀ (wr:List (Loc×Ct)) (σ:St),app σ (keepW bs hs wr) l=if keepL bs hs l=true then app σ wr l else σ l
 | [],σ=>by show σ l=_;split<;>rfl
 | p::wr,σ=>by
  unfold keepW;split
  ·rename_i hp;show app (upd σ p.1 p.2) (keepW bs hs wr) l=_;rw [keepW_at bs hs l wr];by_cases hl:keepL bs hs l=true
   ·rw [if_pos hl,if_pos hl];rfl
   ·rw [if_neg hl,if_neg hl,zfc,if_neg (fun e=>hl (by rw [e];exact hp))]
  ·rename_i hp;rw [keepW_at bs hs l wr];by_cases hl:keepL bs hs l=true
   ·rw [if_pos hl,if_pos hl];have hne:l≠p.1:=fun e=>by rw [e,hp] at hl;cases hl
    -- a write elsewhere
    have:∀ (wr:List (Loc×Ct)) (σ1 σ2:St),(∀ x,x≠p.1->σ1 x=σ2 x)->∀ x,x≠p.1->app σ1 wr x=app σ2 wr x:=by
     intro wr
     induction wr with
     | nil=>intro σ1 σ2 h x hx;exact h x hx
     | cons q wr ih =>
      intro σ1 σ2 h x hx;refine ih (upd σ1 q.1 q.2) (upd σ2 q.1 q.2) (fun y hy=>?_) x hx;rw [zfc,zfc];split
      ·rfl
      ·exact h y hy
    exact this wr σ (upd σ p.1 p.2) (fun x hx=>by rw [zfc,if_neg hx]) l hne
   ·rw [if_neg hl,if_neg hl]
theorem argsG_box {own:List Nat} {d:Nat} {b i:Nat}:∀ {cs:List AV} {i0:Nat} {xs:List Arg} {bs gs:yad},zk5 σ own d i0 cs=some (xs,bs,gs)->(b,i)∈bxG own d i0 cs->objG σ b=none->∃ k g,i=i0+k∧cs[k]?=some (.own b g 0)∧(b,g)∈gs
 | [],i0,xs,bs,gs,e,hm,_=>by simp [bxG] at hm
 | c::cs,i0,xs,bs,gs,e,hm,hn=>by
  simp only [zk5] at e;split at e
  ·rename_i x b1 g1 xs1 bs1 gs1 h1 h2;simp only [zkF,zkG] at e;obtain ⟨rfl,rfl,rfl⟩:=e
   have up:(b,i)∈bxG own d (i0+1) cs->∃ k g,i=i0+k∧(c::cs)[k]?=some (.own b g 0)∧(b,g)∈g1++gs1:=fun hm=>by
    obtain ⟨k,g,a1,a2,a3⟩:=argsG_box h2 hm hn;exact ⟨k+1,g,by omega,by simpa using a2,yaf _ a3⟩
   unfold argG at h1;unfold bxG at hm;split at h1
   ·rename_i ho;rw [ho] at hm;split at h1
    ·rename_i b' g';split at h1
     ·rename_i k hk;simp only at hm;split at hm
      ·rcases yau.1 hm with e | hm
       ·simp only [zkG] at e;rw [<- e.1,hn] at hk;cases hk
       ·exact up hm
      ·exact up hm
     ·cases h1
    ·rename_i b' g';split at h1
     ·split at h1
      ·simp only [zkF,zkG] at h1;obtain ⟨rfl,rfl,rfl⟩:=h1;simp only at hm;rcases yau.1 hm with e | hm
       ·simp only [zkG] at e;obtain ⟨rfl,rfl⟩:=e;exact ⟨0,g',rfl,rfl,by simp⟩
       ·exact up hm
      ·cases h1
     ·cases h1
    ·exact up hm
    ·cases h1
   ·rename_i ho;rw [ho] at hm;exact up hm
  ·cases e
theorem zs5 {τ:St}:∀ {bx:yad} {ys:List Arg} {bl:List (Nat×LK)} {ss:List (Nat×Kd)},bxPl τ bx ys=some (bl,ss)->∀ {k b i:Nat} {t:TypeId} {cs:List Oc},bx[k]?=some (b,i)->ys[k]?=some (.box t cs)->∃ al,bl[k]?=some (b,.box t al)∧al.length=cs.length
 | [],_,_,_,_,k,b,i,t,cs,h1,_=>by simp at h1
 | _::_,[],_,_,e,k,b,i,t,cs,h1,h2=>by simp at h2
 | (b0,i0)::bx,y::ys,bl,ss,e,k,b,i,t,cs,h1,h2=>by
  cases y with
  | im x=>simp [bxPl] at e
  | ow x=>simp [bxPl] at e
  | lent x =>
   unfold bxPl at e;split at e
   ·rename_i l s2 hfk e2;simp only [zkF,zkG] at e;obtain ⟨rfl,rfl⟩:=e;cases k with
    | zero=>simp at h2
    | succ k =>
     obtain ⟨al,a1,a2⟩:=zs5 e2 (k:=k) (by simpa using h1) (by simpa using h2);exact ⟨al,by simpa using a1,a2⟩
   ·cases e
  | box t0 cs0 =>
   unfold bxPl at e;split at e
   ·rename_i al s1 l s2 e1 e2;simp only [zkF,zkG] at e;obtain ⟨rfl,rfl⟩:=e;cases k with
    | zero =>
     simp at h1 h2;obtain ⟨rfl,rfl⟩:=h1;obtain ⟨rfl,rfl⟩:=h2;refine ⟨al,rfl,?_⟩;have:al=(zcj τ (cellNm τ b0 i0) 0 cs0).1:=by rw [e1]
     rw [this]
     have a0:∀ (f:Nat->Nat) (cs:List Oc) (j:Nat),(zcj τ f j cs).1.length=cs.length:=by
      intro f cs
      induction cs with
      | nil=>intro j;rfl
      | cons c cs ih=>intro j;show (_::(zcj τ f (j+1) cs).1).length=_;rw [zkL,ih];rfl
     exact a0 _ _ _
    | succ k =>
     obtain ⟨a3,a1,a2⟩:=zs5 e2 (k:=k) (by simpa using h1) (by simpa using h2);exact ⟨a3,by simpa using a1,a2⟩
   ·cases e
theorem zn3:∀ {bl:List (Nat×LK)},sameBx σ bl=true->∀ {b:Nat} {t:TypeId} {al:List AV},(b,LK.box t al)∈bl->σ.kd b=.box t al.length
 | [],_,b,t,al,h=>by simp at h
 | (b0,.obj k)::bl,e,b,t,al,h=>by
  rcases yau.1 h with h | h
  ·simp at h
  ·exact zn3 (bl:=bl) e h
 | (b0,.box t0 al0)::bl,e,b,t,al,h=>by
  unfold sameBx at e;rw [yar] at e;rcases yau.1 h with h | h
  ·simp only [zkG,LK.box.injEq] at h;obtain ⟨rfl,rfl,rfl⟩:=h;have e1:=e.1;split at e1
   ·rename_i t' m hk;rw [yar] at e1;rw [hk,yag e1.1,yag e1.2]
   ·cases e1
  ·exact zn3 e.2 h
theorem bxN_mem:∀ {bl:List (Nat×LK)} {b:Nat},b∈bxN bl->∃ t al,(b,LK.box t al)∈bl
 | [],b,h=>by simp [bxN] at h
 | (b0,.obj k)::bl,b,h=>by
  obtain ⟨t,al,h⟩:=bxN_mem (bl:=bl) h;exact ⟨t,al,by simp [h]⟩
 | (b0,.box t al)::bl,b,h=>by
  have h:b∈b0::bxN bl:=h;rcases yau.1 h with rfl | h
  ·exact ⟨t,al,by simp⟩
  ·obtain ⟨t,al,h⟩:=bxN_mem h;exact ⟨t,al,by simp [h]⟩
theorem bxN_of:∀ {bl:List (Nat×LK)} {b:Nat} {t:TypeId} {al:List AV},(b,LK.box t al)∈bl->b∈bxN bl
 | [],b,t,al,h=>by simp at h
 | (b0,.obj k)::bl,b,t,al,h=>by
  rcases yau.1 h with h | h
  ·simp at h
  ·exact bxN_of (bl:=bl) h
 | (b0,.box t0 al0)::bl,b,t,al,h=>by
  show b∈b0::bxN bl;rcases yau.1 h with h | h
  ·simp only [zkG] at h;simp [h.1]
  ·simp [bxN_of h]
theorem bxWr_kd:∀ {bl:List (Nat×LK)} {σ:St} {b:Nat} {t:TypeId} {al:List AV},(bl.map (·.1)).Nodup->(b,LK.box t al)∈bl->(app σ (bxWr bl)).kd b=.box t al.length
 | [],σ,b,t,al,_,h=>by simp at h
 | (b0,x)::bl,σ,b,t,al,hn,h=>by
  rw [yan,ybj] at hn
  have happ:app σ (bxWr ((b0,x)::bl))=app (app σ (lkWr b0 x)) (bxWr bl):=by
   show app σ (lkWr b0 x++bxWr bl)=_;rw [zau]
  rw [happ]
  have a0:∀ (bl:List (Nat×LK)) (σ:St),b0∉bl.map (·.1)->(app σ (bxWr bl)).kd b0=σ.kd b0:=by
   intro bl
   induction bl with
   | nil=>intro σ _;rfl
   | cons p bl ih =>
    intro σ hm;rw [yan,yau,not_or] at hm;show (app σ (lkWr p.1 p.2++bxWr bl)).kd b0=_;rw [zau,ih _ hm.2];cases p.2 with
    | box t al =>
     show (app (upd σ (.knd p.1) (.kd (.box t al.length))) (zg6 p.1 0 al)).kd b0=_;rw [zqm,zfm,if_neg hm.1]
    | obj k =>
     show (upd σ (.knd p.1) (.kd k)).kd b0=_;rw [zfm,if_neg hm.1]
  rcases yau.1 h with h | h
  ·simp only [zkG] at h;obtain ⟨rfl,rfl⟩:=h;rw [a0 bl _ hn.1];show (app (upd σ (.knd b) (.kd (.box t al.length))) (zg6 b 0 al)).kd b=_;rw [zqm,zfm,if_pos rfl]
  ·exact bxWr_kd hn.2 h
theorem fillX_nm {own:List Nat} {d i:Nat} {V:Nat->Nat->Value} {xs:List Arg} (h:nmX xs=true):nmX (fillX own d V i xs)=true:=by
 cases xs with
 | nil=>rfl
 | cons x l =>
  cases x with
  | im _=>rfl
  | ow _=>rfl
  | box _ _=>rfl
  | lent k=>cases k<;>first | rfl | cases h
theorem aCallH_ok {C:FuncId->List Arg->Rs->Prop} (hC:∀ g xs r,C g xs r->SpX P g xs r) {own:List Nat} {c:Call} {f:Operand} (hop:o.op=.call c) (hcal:c.callee=.value f) (hd:zdh B.n o=true) (h:aCallH own o σ K C f c.args.toList):∃ fx,K fx∧Eff P B o fx.rd σ fx.wr:=by
 unfold aCallH at h;split at h
 ·rename_i d g caps d7 hf;split at h
  ·rename_i xs bs gs c7;obtain ⟨l4,h⟩:=h.ok;obtain ⟨b9,c0⟩:=zhh l4;obtain ⟨h9,tp,l,ys,hr,h⟩:=h.out;have l3:=fun V=>(hC g _ _ (hr V)).sp (fillX_nm (argsG_nm c7));split at h
   ·rename_i al ss bl ss' i5 c9;split at h
    ·rename_i va l9;obtain ⟨d0,h⟩:=h.ok;rw [yar] at d0;obtain ⟨d0,b6⟩:=d0;obtain ⟨g8,i4⟩:=zhh d0;have j5:al=(zcj σ (zfa tp d) 0 l).1:=by rw [i5]
     have l0:ss=(zcj σ (zfa tp d) 0 l).2:=by rw [i5]
     subst j5 l0;have d9:=((zq7 c7).nodup b9);have l7:∀ t,some d=some t->t<B.n:=fun t e=>by injection e with e;subst e;exact zdf hd d7
     refine ⟨_,h,fun σ' hag a w ⟨ρ,hs⟩ K' Q hK=>?_⟩;have g7:=zao (zao (zao hag));have h4:=za3 (zao (zao hag));have a9:zdy σ σ' (bs++gs):=za3 (zao hag);have e8:=za3 hag
     have d4:∀ p∈bs++gs,σ'.gn p.1=p.2:=fun p hp=>by
      rw [<- h9 p hp];exact (a9.mem hp).1
     obtain ⟨us,j7,l5⟩:∃ us:List Value,a.eval f=.func (.func g) #[] us.toArray∧Reps w (Imm B σ' ρ w) ρ σ'.gn us caps:=by
      have h1:=za0 hs f;rw [zai g7] at h1;split at hf
      ·rename_i g' c6 g5;simp only [zkF,zkG] at hf;obtain ⟨rfl,rfl⟩:=hf;rw [g5] at h1;have h1:=h1.im_inv;generalize a.eval f=v at h1;cases h1 with
       | fn _ us _ hl hr =>
        refine ⟨us,rfl,by simpa using hl,fun i u y hu hy=>?_⟩;simp only [yat] at hy;cases hc:c6[i]? with
        | none=>rw [hc] at hy;cases hy
        | some c =>
         rw [hc] at hy;simp only [yaj,zkF] at hy;rw [<- hy];exact .im _ _ (hr i u c hu hc)
      ·rename_i g' c6 g5;simp only [zkF,zkG] at hf;obtain ⟨rfl,rfl⟩:=hf;rw [g5] at h1;generalize a.eval f=v at h1;cases h1 with
       | fn _ us _ hl hr=>exact ⟨us,rfl,hl,hr⟩
      ·cases hf
     have a0:=(evL_ok hs h4).app l5;have f7:=zkh c7 a9.left a9.right;have i7:=zoj hs (bs0:=bs) (fun p hp=>d4 p (yai _ hp)) a0 f7 (fun _ h=>h) fun p hp=>d4 p (yaf _ hp);obtain ⟨j9,_⟩:=bxG_ok hs a0 f7 fun p hp=>d4 p (yaf _ hp);generalize i9:c.args.toList.map a.eval++us=vs at *
     let V:Nat->Nat->Value:=fun i j=>cellV w (vs.getD i undef) j
     have f8:=fillX_ok (own:=own) (d:=d) (V:=V) (i:=0) (fun k v j hv=>by
      show cellV w (vs.getD (0+k) undef) j=_
      rw [yae,ya7,hv];rfl) i7
     obtain ⟨c8,k6⟩:=l3 V
     have d5:=k6 w (Imm B (app σ' (fwr bs)) ρ w) _ _ (fun b hb=>hb.2.1) f8 (ze0 hs b9) fun b hb=>by
      obtain ⟨p,hp,ho⟩:=zed.1 hb;refine ⟨fun hi=>hi.2.2.1 p.1 ?_,(hs.own p.1 b ho).2⟩;unfold Owns at ho ⊢;rw [zly,if_neg (c0 p.1 (yap.2 ⟨p,hp,rfl⟩))];exact ho
     have run:(execOp a.eval o).run P w=.ok (.enter g vs.toArray) w:=by
      have e:(c.args.map a.eval)++us.toArray=vs.toArray:=by
       rw [<- i9];apply ydw;simp
      simp [execOp,hop,resolve,hcal,j7,Deferred.ofValue,invoke,c8,<- e]
     unfold Oper.wp;rw [run,Oper.upon_enter];refine d5.mono ?_;rintro e w' ⟨v,F',rfl,e9,e0,j0,i6⟩;show K' (a.put o.dst v) w';rw [d7];rw [fillX_vs,j9] at e0;obtain ⟨k0,F1,F2,r1,r2,r3,r4⟩:=e0;obtain ⟨r5,r6⟩:=zwg r3;have j8:=zoh (σ:=σ') (ρ:=ρ) (bs:=bs) (gs:=gs) fun p hp=>c0 p.1 (yap.2 ⟨p,hp,rfl⟩);rw [<- j8] at e9 i6 r2 r5
     have h5:∀ p∈(zcj σ (zfa tp d) 0 l).2++ss',(app σ' (fwr bs)).gn p.1=σ.gn p.1∧(app σ' (fwr bs)).ig p.1=σ.ig p.1:=fun p hp=>by
      obtain ⟨h5,h6⟩:=zjt hp;rw [zo7,zuj];exact ⟨zd6 (e8 _ h5),zjf (e8 _ h6)⟩
     obtain ⟨ρ',g1,g2,g3,g4⟩:=ziy (hs.kills bs).1 gs b9 e9 (fun b hb=>hb) ⟨k0,F1,F2,r1,r2,r5,r4⟩ j0 i6 c9 rfl d9 l9 g8 i4 h5;have b7:=zow c9;have h7:(bl.map (·.1)).Nodup:=by rw [b7];exact d9
     -- the state with k8 i8
     generalize i0:fwr bs++(fwr gs++(zdz σ ((zcj σ (zfa tp d) 0 l).2++ss')++bxWr bl))=wr;generalize j3:hlY own d (bxG own d 0 (c.args.toList.map (evA σ)++caps)) ys=hl at r6
     have hσ1:app (app (app (app σ' (fwr bs)) (fwr gs)) (zdz σ ((zcj σ (zfa tp d) 0 l).2++ss'))) (bxWr bl)=app σ' wr:=by
      rw [<- i0,zau,zau,zau]
     have d8:∀ b∈bxN bl,∃ t m,σ'.kd b=.box t m∧(app σ' wr).kd b=.box t m∧∀ al,(b,LK.box t al)∈bl->al.length=m:=fun b hb=>by
      obtain ⟨t,al,hm⟩:=bxN_mem hb;have e1:=zn3 b6 hm;have k5:b∈gs.map (·.1):=(zq7 c7).subset (by rw [<- b7];exact yap.2 ⟨_,hm,rfl⟩);obtain ⟨p,hp,rfl⟩:=yap.1 k5;refine ⟨t,al.length,?_,?_,fun m0 l6=>?_⟩
      ·rw [(a9.mem (yaf _ hp)).2.1,e1]
      ·rw [<- hσ1];exact bxWr_kd h7 hm
      ·have:=zn3 b6 l6;rw [e1] at this;injection this with _ this
       exact this.symm
     rw [hσ1] at g1 g2 g3;have b0:=keepW_at (bxN bl) hl;have j1:∀ t,(app σ' (keepW (bxN bl) hl wr)).av t=(app σ' wr).av t:=fun t=>by unfold St.av;rw [b0,if_pos (show keepL (bxN bl) hl (.tmp t)=true from rfl)]
     have g9:(app σ' (keepW (bxN bl) hl wr)).gn=(app σ' wr).gn:=funext fun t=>by unfold St.gn;rw [b0,if_pos (show keepL (bxN bl) hl (.gen t)=true from rfl)]
     have j4:∀ t,(app σ' (keepW (bxN bl) hl wr)).ig t=(app σ' wr).ig t:=fun t=>by unfold St.ig;rw [b0,if_pos (show keepL (bxN bl) hl (.ign t)=true from rfl)]
     have f6:(app σ' (keepW (bxN bl) hl wr)).kd=(app σ' wr).kd:=funext fun t=>by
      by_cases ht:t∈bxN bl
      ·obtain ⟨t1,m,e1,e2,_⟩:=d8 t ht;rw [e2,<- e1];unfold St.kd;rw [b0,if_neg (by show ¬ (!memB t (bxN bl))=true;rw [memB_iff.2 ht];simp)]
      ·unfold St.kd
       rw [b0,if_pos (by
        show (!memB t (bxN bl))=true
        cases hb:memB t (bxN bl) with
        | false=>rfl
        | true=>exact absurd (memB_iff.1 hb) ht)]
     have h0:∀ b j,(b,j)∉hl->(app σ' (keepW (bxN bl) hl wr)).ce b j=(app σ' wr).ce b j:=fun b j hn=>by
      unfold St.ce
      rw [b0,if_pos (by
       show (!memC b j hl)=true
       cases hb:memC b j hl with
       | false=>rfl
       | true=>exact absurd (memC_iff.1 hb) hn)]
     have i3:∀ b j,(b,j)∈hl->(app σ' (keepW (bxN bl) hl wr)).ce b j=σ'.ce b j:=fun b j hm=>by
      unfold St.ce;rw [b0,if_neg (by show ¬ (!memC b j hl)=true;rw [memC_iff.2 hm];simp)]
     have b8:∀ o b,Owns (app σ' (keepW (bxN bl) hl wr)) ρ' o b↔Owns (app σ' wr) ρ' o b:=fun o b=>by unfold Owns;rw [f6]
     have j6:∀ p∈hl,p.1∈bxN bl:=fun p hp=>by
      obtain ⟨k,i,t,cs,q,d6,a1,a2,_⟩:=r6 p hp;obtain ⟨al,a3,_⟩:=zs5 c9 a1 a2;exact bxN_of (zkH a3)
     obtain ⟨s1,s2,s3,_⟩:=g1.stepZ (σ':=app σ' (keepW (bxN bl) hl wr)) (ρ':=ρ') (w':=w') (fun o=>o∈bxN bl) B.Z j1
      (fun o hd=>⟨by rw [f6],by rw [g9],fun i=>h0 o i fun hm=>hd (j6 _ hm),rfl,rfl,rfl⟩) (fun o _=>⟨⟨by rw [g9];exact yam _,fun _=>rfl⟩,yam _,fun _=>rfl⟩)
      (fun o=>by rw [j4];exact g1.igs o) (Belo.refl _ _ _) (fun o b hd ho=>.inr (.inr ⟨o,hd,(b8 o b).1 ho⟩)) (fun o p b _ _ h1 h2=>g1.dis o p b ((b8 o b).1 h1) ((b8 p b).1 h2))
      (fun b hb=>⟨(g1.res b hb).1.2,.inr (.inl hb),fun o _ ho=>(g1.res b hb).2 o ((b8 o b).1 ho)⟩) fun hI hA o hd=>by
       obtain ⟨t,m,k1,k2,k3⟩:=d8 o hd;rw [f6,k2];have ho:=g1.obs o;rw [k2] at ho;obtain ⟨q,d6,b1,b2,b3,b4,b5⟩:=ho;refine ⟨q,d6,b1,b2,b3,b4,fun j u hu=>?_⟩;by_cases hm:(o,j)∈hl
       ·rw [i3 o j hm];obtain ⟨k,i,t',cs,q',us'',a1,a2,a3,a4,a5,a6⟩:=r6 (o,j) hm;obtain ⟨al,c1,c2⟩:=zs5 c9 a1 a2
        -- the box's place
        have e1:=g4 k o _ (by rw [yat,c1];rfl) a4;rw [b1] at e1;injection e1 with e1
        injection e1 with e1
        injection e1 with e1
        subst e1;rw [b2] at a5;injection a5 with a5
        injection a5 with a5 a7 a8
        have:d6=us'':=by simpa using a5
        subst this;have a6:d6[j]?=some (V i j):=a6;rw [hu] at a6;injection a6 with a6
        -- what it held before
        have l8:(o,i)∈bxG own d 0 (c.args.toList.map (evA σ)++caps):=zkH a1;have j2:objG σ' o=none:=by unfold objG;rw [k1]
        obtain ⟨k',g',d1,d2,d3⟩:=argsG_box f7 l8 j2;rw [yae] at d1;subst d1
        obtain ⟨v0,g6⟩:∃ v0,vs[i]?=some v0:=by
         have m3:=(zkI.1 d2).1;have:=a0.1;exact ⟨_,zkM (by omega)⟩
        have hg':=d4 (o,g') (yaf _ d3);obtain ⟨q0,f9,e1,e2,e3,e4,e5,e6,e7⟩:=zj9 hs (a0.2 i v0 _ g6 d2) hg' k1
        have hj:j<m:=by
         have h1:=k3 al (by
          have:=zkH c1
          have h2:=zn3 b6 this
          have h3:=(a9.mem (p:=(o,g')) (yaf _ d3)).2.1
          rw [k1] at h3
          rw [h2] at h3
          injection h3 with h3 _
          subst h3
          exact this)
         have a3:j<cs.length:=a3;omega
        have hV:f9[j]?=some (V i j):=by
         show _=some (cellV w (vs.getD i undef) j);rw [ya7,g6];show _=some (cellV w v0 j);rw [e1];unfold cellV;simp only [e3];rw [ya7];have:j<f9.length:=by omega
         rw [zkM this];rfl
        have hk:=(hs.kills bs).1.obs o;rw [zly,if_neg (c0 o (yap.2 ⟨_,d3,rfl⟩)),k1] at hk;obtain ⟨q1,us1,f1,f2,f3,f4,f5⟩:=hk;rw [e2] at f1;injection f1 with f1
        injection f1 with f1
        injection f1 with f1
        subst f1;rw [e3] at f2;injection f2 with f2
        injection f2 with f2 _ _
        have:f9=us1:=by simpa using f2
        subst this;have h8:=f5 j _ hV;rw [fwr_ce] at h8;rw [a6];exact hA _ _ (g3 _ _ h8)
       ·rw [h0 o j hm];exact hA _ _ (b5 j u hu)
     refine hK _ _ ⟨ρ',?_⟩;show SatR B (app σ' (keepW (bxN bl) (hlY own d (bxG own d 0 (c.args.toList.map (evA σ)++caps)) ys) (fwr bs++(fwr gs++(zdz σ ((zcj σ (zfa tp d) 0 l).2++ss')++bxWr bl)))++[(.tmp d,.av va)])) _ _ _;rw [i0,j3,zau];exact s1.put (d:=some d) l7 (s3 _ _ g2)
    ·exact h.elim
   ·exact h.elim
  ·exact h.elim
 ·exact h.elim
end
end
section
open Go.RowKit Go.ChangeMaps
theorem ba_eq {a b:ByteArray} (h:(a==b)=true):a=b:=by
 have h:ByteArray.beq a b=true:=h;unfold ByteArray.beq at h;cases a;cases b;simp at h;rw [h]
theorem ba_rfl (a:ByteArray):(a==a)=true:=by
 show ByteArray.beq a a=true;unfold ByteArray.beq;simp
section
variable {P:Program} {B:Base} {o:Oper} {σ:St} {K:Fx->Prop}
theorem aNilCheck_ok {x:Operand} (hop:o.op=.nilCheck x) (hd:zdh B.n o=true) (h:zvb o σ K x):∃ fx,K fx∧Eff P B o fx.rd σ fx.wr:=by
 unfold zvb at h;split at h
 ·rename_i b g i hx;obtain ⟨hg,h⟩:=h.out;refine ⟨_,h,Eff.pure hd fun σ' hag a w ρ hs=>?_⟩;have h1:=za0 hs x;rw [zai (zao hag),hx] at h1;have hg':=(zd6 (za3 hag (.gen b) (by simp))).trans hg;generalize hv:a.eval x=v at h1;have h2:=h1;cases h1 with
  | own _ _ _ _ a2 hgg hh =>
   obtain ⟨q,e1,e2⟩:=hh hg';refine ⟨v,?_,h2⟩;subst e2;simp [execOp,hop,hv]
 ·rename_i cs hx;refine ⟨_,h,Eff.pure hd fun σ' hag a w ρ hs=>?_⟩;have h1:=za0 hs x;rw [zai hag,hx] at h1;have h2:=h1;have h1:=h1.im_inv;generalize hv:a.eval x=v at h1 h2;refine ⟨v,?_,h2⟩;cases h1 with
  | ref b q us _ _ _ _ _ _=>simp [execOp,hop,hv]
 ·rename_i f cs hx;refine ⟨_,h,Eff.pure hd fun σ' hag a w ρ hs=>?_⟩;have h1:=za0 hs x;rw [zai hag,hx] at h1;have h2:=h1;have h1:=h1.im_inv;generalize hv:a.eval x=v at h1 h2;refine ⟨v,?_,h2⟩;cases h1 with
  | fn _ us _ _ _=>simp [execOp,hop,hv]
 ·rename_i f cs hx;refine ⟨_,h,Eff.pure hd fun σ' hag a w ρ hs=>?_⟩;have h1:=za0 hs x;rw [zai hag,hx] at h1;have h2:=h1;generalize hv:a.eval x=v at h1 h2;refine ⟨v,?_,h2⟩;cases h1 with
  | fn _ us _ _ _=>simp [execOp,hop,hv]
 ·exact h.elim
theorem zha {α:Type} (z:List α):∀ (l j:Nat),(List.replicate l z).flatten[j]?=if j<l*z.length then z[j%z.length]? else none
 | 0,j=>by simp
 | l+1,j=>by
  rw [List.replicate_succ,ya4,yaq,zha z l];by_cases h:j<z.length
  ·rw [if_pos h,if_pos (by rw [Nat.add_mul];omega),Nat.mod_eq_of_lt h]
  ·have e:j%z.length=(j-z.length)%z.length:=Nat.mod_eq_sub_mod (by omega);rw [if_neg h,e];by_cases h2:j-z.length<l*z.length
   ·rw [if_pos h2,if_pos (by rw [Nat.add_mul];omega)]
   ·rw [if_neg h2,if_neg (by rw [Nat.add_mul];omega)]
theorem made_take (z:Array Value) (l c:Nat) (h:l<=c) (hz:0<z.size):(madeCells z (c*z.size)).toList.take (l*z.size)=(List.replicate l z.toList).flatten:=by
 apply yb7;intro j;rw [zha,yax];have hm:l*z.size<=c*z.size:=ybd _ h;simp only [ybw];by_cases hj:j<l*z.size
 ·rw [if_pos hj,if_pos hj];have a0:j%z.size<z.size:=Nat.mod_lt _ hz;unfold madeCells;rw [ybx,yat,Array.toList_range,yb6 (by omega)];simp only [yaj];rw [getElem!_pos z (j%z.size) a0,yao,ycn a0]
 ·rw [if_neg hj,if_neg hj]
theorem cap_bytes {c by_:Nat} (h:za2 c by_):(by_:Int)*(c:Int)<=281474976710656:=by
 have h1:=h.1;have:((by_*c:Nat):Int)<=281474976710656:=by rw [ydx];omega
 rwa [Int.natCast_mul] at this
theorem mkZ_rep {w:World} {S:Nat->Prop} (own:List Nat) (d:Nat) (v:Value):RepI w S v (mkZ own d v):=by
 unfold mkZ;split
 ·exact .val v
 ·exact zms (.val v)
theorem aMakeSlice_ok {own:List Nat} {t:TypeId} {len cap:Operand} (hop:o.op=.makeSlice t len cap) (hd:zdh B.n o=true) (h:zrb P own o σ K t len cap):∃ fx,K fx∧Eff P B o fx.rd σ fx.wr:=by
 unfold zrb at h;split at h
 ·rename_i d et a2 e6;have d0:=zeg e6;split at h
  ·rename_i l c k z by_ hl hc hk hz d8;obtain ⟨a4,h⟩:=h.ok;simp only [yar] at a4;have d6:=ze7 a4.1.1;obtain ⟨i,zv,hi,c6,b0,a8,b7⟩:=zkg a4.1.2 hk d8
   have c8:zv.cells.toList=z:=by
    unfold zeroOf at hz;simp only [hi,c6,yaj,zkF] at hz;exact hz
   have d9:∀ u∈z,u.oneCell'=true:=fun u hu=>ybf.1 a4.2 u hu;have a0:z.length=k:=by rw [<- c8];simpa using b7
   obtain ⟨⟨h0,e0,a9⟩,h⟩:=h.out;have d7:(c.toNat:Int)=c:=Int.toNat_of_nonneg (by omega);have b6:l.toNat<=c.toNat:=by omega
   have d4:c.toNat<=17592186044416:=a9.2
   have zn8:∀ σ' a w ρ,SatR B σ' a w ρ->(∀ y∈opd len++opd cap,σ' y=σ y)->(execOp a.eval o).run P w=.ok (.value (.slice (some ⟨w.heap.size,0,none⟩) l.toNat c.toNat)) (w.alloc (.cells (madeCells zv.cells (c.toNat*k)) et)):=fun σ' a w ρ hs hag=>by
    have h1:=za0 hs len;rw [zai (zao hag)] at h1;have h2:=za0 hs cap;rw [zai (za3 hag)] at h2;have hb:=cap_bytes a9;rw [<- a8,d7] at hb;have hr:=run_make (P:=P) w t et i zv d0 hi c6 .i64 .i64 l c h0 e0 hb (by omega);rw [b0] at hr;simp [execOp,hop,zcy hl h1,zcy hc h2,hr]
   have a6:∀ w:World,(w.alloc (.cells (madeCells zv.cells (c.toNat*k)) et)).ownsRow 0 et k (.slice (some ⟨w.heap.size,0,none⟩) l.toNat c.toNat) l.toNat (List.replicate l.toNat z).flatten:=fun w=>by
    refine ⟨?_,.inr ⟨w.heap.size,c.toNat,_,rfl,yas _,heap_alloc_new w _,b6,by unfold maxLen;omega,size_madeCells _ _,?_⟩⟩
    ·rw [zby (k:=k) (fun x hx=>by rw [ybg hx];exact a0),ybv]
    ·rw [<- c8,<- b7];exact made_take zv.cells _ _ b6 (by omega)
   have a7:∀ u∈(List.replicate l.toNat z).flatten,u.oneCell'=true:=fun u hu=>by
    obtain ⟨x,hx,b9⟩:=yc0.1 hu;rw [ybg hx] at b9;exact d9 u b9
   have m:∀ (σ':St) (w:World) (ρ:Ly),zsj σ' w (w.alloc (.cells (madeCells zv.cells (c.toNat*k)) et)) ρ none (.slice (some ⟨w.heap.size,0,none⟩) l.toNat c.toNat) none:=fun σ' w ρ =>
    ⟨World.grownBy_alloc w _ none,(fun b e=>by cases e),fun b e=>.inr (by simp only [zbm,zkF] at e;omega)⟩
   split at h
   ·split at h
    ·rename_i e' e7;split at h
     ·rename_i k' e8;obtain ⟨a3,h⟩:=h.ok;simp only [yar] at a3;have d2:k=1:=by simpa using a3.1.1
      have c7:=ze7 a3.2
      have b5:z=[.slice none 0 0]:=by
       have:=a3.1.2;split at this
       ·rfl
       ·cases this
      have h:=h.out;refine ⟨_,h,fun σ' hag a w ⟨ρ,hs⟩ K' Q hK=>?_⟩;unfold Oper.wp;rw [zn8 σ' a w ρ hs (zao hag),Oper.upon_value,a2];have hg:σ'.gn d=σ.gn d:=zd6 (za3 hag (.gen d) (by simp));have c0:σ'.ig d=σ.ig d:=zjf (za3 hag (.ign d) (by simp));obtain ⟨e1,e2,e3,e4,e5⟩:=mkK_eqs σ' σ d (.grid et e' k' (List.replicate l.toNat [IV.sl []]) none)
      let v:Value:=.slice (some ⟨w.heap.size,0,none⟩) l.toNat c.toNat
      let σ2:=app σ' (zhi σ d (.grid et e' k' (List.replicate l.toNat [IV.sl []]) none))
      let ρ2:Ly:=setK ρ σ2 d v (List.replicate l.toNat (.slice none 0 0)) (.grid et e' k' (List.replicate l.toNat [IV.sl []]) none)
      have b8:fpv v (List.replicate l.toNat (.slice none 0 0))=[w.heap.size]:=by
       unfold fpv;simp only [ybk,v,zbm];congr 1;exact List.filterMap_eq_nil_iff.2 fun x hx=>by rw [ybg hx];rfl
      have c9:∀ b,Owns σ2 ρ2 d b->b=w.heap.size:=fun b hb=>by
       unfold Owns at hb;rw [e1,if_pos rfl] at hb;simp only [ρ2,setK,if_pos] at hb;have hb:b∈fpv v (List.replicate l.toNat (.slice none 0 0)):=hb;rw [b8] at hb;simpa using hb
      have a5:=World.grownBy_alloc w (.cells (madeCells zv.cells (c.toNat*k)) et) none
      obtain ⟨b2,_,_⟩:=hs.step (σ':=σ2) (ρ':=ρ2) (w':=w.alloc (.cells (madeCells zv.cells (c.toNat*k)) et)) (fun o=>o=d) e4
       (fun o hd=>⟨by show σ2.kd o=_;rw [e1,if_neg hd],by show σ2.gn o=_;rw [e2,if_neg hd],fun i=>e5 o i,by simp [ρ2,setK,hd],by simp [ρ2,setK,hd],by show σ2.ig o=_;rw [e3,if_neg (fun e=>hd e.1)];exact (hs.igs o).symm⟩)
       (fun o hd=>by
        subst hd
        refine ⟨⟨by rw [e2,if_pos rfl,hg];omega,fun e=>by rw [e2,if_pos rfl,hg] at e;omega⟩,?_,fun e=>?_⟩
        ·show _<=σ2.ig o
         rw [e3,hs.igs,c0,if_pos ⟨rfl,rfl⟩];omega
        ·have e:σ2.ig o=ρ.ig o:=e
         rw [e3,hs.igs,c0,if_pos ⟨rfl,rfl⟩] at e;omega)
       (fun o=>rfl) ⟨a5.os,a5.tape,a5.output,a5.size,fun b hb _=>a5.block b hb (by simp)⟩ (fun o b hd ho=>by subst hd;rw [c9 b ho];exact .inl (yam _)) (fun o p b hd hp _ _=>hd.trans hp.symm) fun hI hA o hd=>by
        subst hd;rw [e1,if_pos rfl];show zlj _ _ (ρ2 o) (ρ2.inn o) _ _ _ _ _;simp only [ρ2,setK,if_pos];refine ⟨by show (fpv v (List.replicate l.toNat (.slice none 0 0))).Nodup;rw [b8];simp,by simp [innK],(List.replicate l.toNat z).flatten,by simp;omega,?_,a7,fun i u hu=>.inr ⟨?_,[],?_,?_⟩⟩
        ·have:=a6 w;rw [d2] at this;rw [ybv];rw [d2];exact this
        ·have hu:(List.replicate l.toNat (.slice none 0 0))[i]?=some u:=hu;rw [zha,b5];rw [ycc] at hu;split at hu
         ·rename_i b4;injection hu with hu
          subst hu;simp [b4,Nat.mod_one]
         ·cases hu
        ·have hu:(List.replicate l.toNat (Value.slice none 0 0))[i]?=some u:=hu;rw [ycc] at hu ⊢;split at hu
         ·rename_i b4;rw [if_pos b4]
         ·cases hu
        ·have hu:(List.replicate l.toNat (Value.slice none 0 0))[i]?=some u:=hu;rw [ycc] at hu;split at hu
         ·injection hu with hu
          subst hu;exact ⟨[],c7,by simp,by simp,World.ownsRow_nil _ _ _ _,rfl,by simp,by simp⟩
         ·cases hu
      refine hK _ _ ⟨ρ2,?_⟩;rw [zau];refine b2.put (d:=some d) (fun t e=>by injection e with e;subst e;exact zdf hd a2) (.osl _ _ _ rfl ?_ fun _=>?_)
      ·show _<=σ2.gn d;rw [e2,if_pos rfl];exact yam _
      ·simp [ρ2,setK,v]
     ·exact h.elim
    ·exact h.elim
   ·split at h
    ·have h:=h.out;refine ⟨_,h,fun σ' hag a w ⟨ρ,hs⟩ K' Q hK=>?_⟩;unfold Oper.wp;rw [zn8 σ' a w ρ hs hag,Oper.upon_value,a2];have d1:Below w.heap.size w (w.alloc (.cells (madeCells zv.cells (c.toNat*k)) et)):=(Below.refl _ _).alloc (yam _) _;obtain ⟨d5,hI⟩:=hs.world d1;refine hK _ _ ⟨ρ,?_⟩;show SatR B (app σ' [(.tmp d,.av (.im (.sl (List.replicate l.toNat (z.map fun v=>nz1 (.val v))))))]) _ _ _;refine d5.put (d:=some d) (fun t e=>by injection e with e;subst e;exact zdf hd a2) (.im _ _ ?_);refine .sl w.heap.size 0 c.toNat k l.toNat _ (List.replicate l.toNat z).flatten (by rw [ybv]) (fun x hx=>by rw [ybg hx,zkK,a0]) b6 (by omega) ⟨.inr (.inl hs.bel.size),by simp,fun p d3=>?_,fun hz=>?_⟩ ?_ a7 (fun i u hu=>?_) fun i u x hu hx=>?_
     ·have:=(hs.own p _ d3).2;omega
     ·have:=(hs.res _ hz).1.2;omega
     ·rw [zby (k:=k) (fun x hx=>by rw [ybg hx];exact a0),zby (k:=k) (fun x hx=>by rw [ybg hx,zkK,a0])];simp
     ·have:=(a6 w).cells (g:=w.heap.size) rfl i u hu;rw [addr_add,yae] at this;rw [yae];exact this
     ·rw [zha] at hu hx;rw [zkK] at hx;split at hu
      ·rename_i b3;rw [if_pos b3,yat,hu] at hx;injection hx with hx
       subst hx;exact zms (.val u)
      ·cases hu
    ·have h:=h.out;refine ⟨_,h,fun σ' hag a w ⟨ρ,hs⟩ K' Q hK=>?_⟩;unfold Oper.wp;rw [zn8 σ' a w ρ hs (zao hag),Oper.upon_value,a2];refine hK _ _ ⟨setρ ρ d (.slice (some ⟨w.heap.size,0,none⟩) l.toNat c.toNat),?_⟩;have hg:σ'.gn d=σ.gn d:=zd6 (za3 hag (.gen d) (by simp))
     have b2:=hs.new (d:=d) (k:=.row et k (List.replicate l.toNat (z.map fun v=>mkZ own d v))) (cs:=[]) (m σ' w ρ) rfl fun hI _=>by
      refine ⟨(List.replicate l.toNat z).flatten,d6,fun x hx=>by rw [ybg hx,zkK,a0],by rw [ybv];omega,?_,?_,a7,fun i u x hu hx=>?_⟩
      ·simp only [setρ,if_pos,ybv];exact a6 w
      ·rw [zby (k:=k) (fun x hx=>by rw [ybg hx];exact a0),zby (k:=k) (fun x hx=>by rw [ybg hx,zkK,a0])];simp
      ·rw [zha] at hu hx;rw [zkK] at hx;split at hu
       ·rename_i b3;rw [if_pos b3,yat,hu] at hx;injection hx with hx
        subst hx;exact mkZ_rep own d u
       ·cases hu
     have:=zn1 (σ:=σ) (σ':=σ') (k:=.row et k (List.replicate l.toNat (z.map fun v=>mkZ own d v))) (cs:=[]) (v:=.osl d (σ.gn d+1)) hg;simp only [zg6,ybp] at this;show SatR B (app σ' (zez σ d (.row et k (List.replicate l.toNat (z.map fun v=>mkZ own d v)))++[(.tmp d,.av (.osl d (σ.gn d+1)))])) _ _ _;rw [this,<- hg];exact zmi b2 rfl (zdf hd a2)
  ·exact h.elim
 ·exact h.elim
theorem aMakeMap_ok {t:TypeId} {r:Option Operand} (hop:o.op=.makeMap t r) (hd:zdh B.n o=true) (h:aMakeMap o σ K t r):∃ fx,K fx∧Eff P B o fx.rd σ fx.wr:=by
 unfold aMakeMap at h;split at h
 ·rename_i d a0;refine ⟨_,h,fun σ' hag a w ⟨ρ,hs⟩ K' Q hK=>?_⟩;have hg:σ'.gn d=σ.gn d:=zd6 (hag (.gen d) (by simp))
  have run:(execOp a.eval o).run P w=.ok (.value (.map (some w.heap.size))) (w.alloc (.map #[] 0)):=by
   simp [execOp,hop,Instr.makeMap]
  unfold Oper.wp;rw [run,Oper.upon_value,a0]
  have m:zsj σ' w (w.alloc (.map #[] 0)) ρ none (.map (some w.heap.size)) none :=
   ⟨World.grownBy_alloc w _ none,(fun b e=>by cases e),fun b e=>.inr (by simp only [zbm,zkF] at e;omega)⟩
  refine hK _ _ ⟨setρ ρ d (.map (some w.heap.size)),?_⟩;have a2:=hs.new (d:=d) (k:=.map []) (cs:=[]) m rfl fun hI _=>⟨w.heap.size,0,#[],by simp [setρ],heap_alloc_new w _,rfl,zrd.nil 0⟩;have:=zn1 (σ:=σ) (σ':=σ') (k:=.map []) (cs:=[]) (v:=.osl d (σ.gn d+1)) hg;simp only [zg6,ybp] at this;rw [this,<- hg];exact zmi a2 rfl (zdf hd a0)
 ·exact h.elim
theorem zn5 {w:World} {S:Nat->Prop} {ρ:Ly} {γ:Nat->Nat} {v:Value} {x:AV} {u:Value} (e:asVal x=some u) (h:RepA w S ρ γ v x):v=u:=by
 unfold asVal at e;split at e
 ·injection e with e
  subst e;have h:=h.im_inv;cases h;rfl
 ·cases e
theorem zl2 {t k e:TypeId} (h:ztl P t=some (k,e)):P.underlying t=some (.map k e):=by
 unfold ztl at h;split at h
 ·rename_i k' e' hu;simp only [zkF,zkG] at h;rw [hu,h.1,h.2]
 ·cases h
theorem zuq {kt:TypeId} {D:TypeDesc} (h:keyD P kt=some D):P.underlying kt=some D∧((∃ k,D=.int k)∨D=.string∨D=.bool):=by
 unfold keyD at h;split at h
 ·rename_i k hu;injection h with h;subst h;exact ⟨hu,.inl ⟨k,rfl⟩⟩
 ·rename_i hu;injection h with h;subst h;exact ⟨hu,.inr (.inl rfl)⟩
 ·rename_i hu;injection h with h;subst h;exact ⟨hu,.inr (.inr rfl)⟩
 ·cases h
theorem zog {kt:TypeId} {D:TypeDesc} (h:keyD P kt=some D) (em:Bool) (v:Value) (w:World):(Instr.checkKey em 10000 kt v).run P w=.ok () w:=by
 obtain ⟨hu,hD⟩:=zuq h;unfold Instr.checkKey;rw [Sem.run_bind,run_underlying hu];simp only [Result.andThen_ok];rcases hD with ⟨k,rfl⟩ | rfl | rfl<;>rfl
theorem zwk (D:TypeDesc) (k:Value):∀ (es:List MapEntry) (i:Nat),(Instr.findNow D k es i).map (·.map (·.2))=findV D k (es.map fun e=>(e.key,e.val))
 | [],i=>rfl
 | e::es,i=>by
  unfold Instr.findNow;rw [yan];unfold findV;simp only;cases Instr.sameNow D k e.key with
  | none=>rfl
  | some b=>cases b with
   | true=>rfl
   | false=>exact zwk D k es (i+1)
theorem zqj {kt:TypeId} {D:TypeDesc} (h:keyD P kt=some D) {k:Value} {es:List MapEntry} {r:Option (Nat×Value)} (hf:Instr.findNow D k es 0=some r) (w:World):(Instr.findKey kt k es).run P w=.ok r w:=by
 unfold Instr.findKey;rw [Sem.run_bind,run_underlying (zuq h).1];simp only [Result.andThen_ok,hf,Sem.run_pure]
theorem aLookup_ok {t:TypeId} {x i:Operand} {ok:Bool} (hop:o.op=.lookup t x i ok) (hd:zdh B.n o=true) (h:aLookup P o σ K t x i ok):∃ fx,K fx∧Eff P B o fx.rd σ fx.wr:=by
 unfold aLookup at h;split at h
 ·rename_i kt et b g kv a9 hx hi;have a5:=zl2 a9;split at h
  ·rename_i l D z b4 a4 hz;obtain ⟨hg,r,hr,h⟩:=h.out;have h:=h.out
   have a3:∀ σ',(∀ y∈opd x++opd i++[.gen b,.knd b],σ' y=σ y)->∀ a w,Sat B σ' a w->(execOp a.eval o).run P w=.ok (.value (if ok=true then .tuple #[r.getD z,.bool r.isSome] else r.getD z)) w:=fun σ' hag a w ⟨ρ,hs⟩=>by
    obtain ⟨ha,hg',b3,_⟩:=zdx hag;have h1:=za0 hs x;have h2:=za0 hs i;rw [zai (zao ha),hx] at h1;rw [zai (za3 ha)] at h2;have b0:=zn5 hi h2;have ho:=hs.obs b;rw [b3.trans b4] at ho;obtain ⟨q,b5,es,e1,e2,e3,b7⟩:=ho
    have a7:a.eval x=.map (some q):=by
     generalize a.eval x=v at h1;cases h1 with
     | osl _ _ _ _ _ hh=>rw [hh (hg'.trans hg),e1]
    have a0:=zwk D kv es.toList 0;rw [e3,hr] at a0
    obtain ⟨r0,a6,a2⟩:∃ r0,Instr.findNow D kv es.toList 0=some r0∧r0.map (·.2)=r:=by
     cases hc:Instr.findNow D kv es.toList 0 with
     | none=>rw [hc] at a0;cases a0
     | some r0=>rw [hc] at a0;simp only [yaj,zkF] at a0;exact ⟨r0,rfl,a0⟩
    have b2:∀ w,(zeroValue et).run P w=.ok z w:=fun w=>by
     unfold zeroV at hz;split at hz
     ·rename_i it b6;simp [zeroValue,typeInfo,b6,hz]
     ·cases hz
    have a8:=MapKept.run_getObj_map (P:=P) e2;simp only [execOp,hop,a7,b0,Instr.lookup,Sem.run_bind,run_underlying a5,Result.andThen_ok,a8,Sem.run_pure,zog a4,zqj a4 a6];cases r0 with
    | none =>
     simp only [ycw] at a2;subst a2;cases ok<;>simp [b2]
    | some p =>
     simp only [yaj] at a2;subst a2;cases ok<;>simp
   split at h
   ·have h:=h.out;refine ⟨_,h,Eff.pure hd fun σ' hag a w ρ hs=>⟨_,a3 σ' hag a w ⟨ρ,hs⟩,?_⟩⟩;simp only [if_true]
    exact .tup [r.getD z,.bool r.isSome] _ rfl fun j u y hu hy=>by
     match j with
     | 0=>simp at hu hy;rw [<- hu,<- hy];exact zdt _
     | 1=>simp at hu hy;rw [<- hu,<- hy];exact vB_rep _
     | j+2=>simp at hu
   ·refine ⟨_,h,Eff.pure hd fun σ' hag a w ρ hs=>⟨_,a3 σ' hag a w ⟨ρ,hs⟩,?_⟩⟩;simp only [ydl,if_false];exact zdt _
  ·exact h.elim
 ·exact h.elim
theorem setV_eq (D:TypeDesc) (hD:(∃ k,D=.int k)∨D=.string∨D=.bool) (k v:Value):∀ (es:List MapEntry) (i:Nat) (l:List (Value×Value)),setV D k v (es.map fun e=>(e.key,e.val))=some l ->
  (Instr.findNow D k es i=some none∧l=(es.map fun e=>(e.key,e.val))++[(k,v)])∨∃ j e,Instr.findNow D k es i=some (some (i+j,e.val))∧es[j]?=some e∧Instr.sameBits 10000 e.key k=true∧l=(es.set j { e with key:=k,val:=v }).map fun e=>(e.key,e.val)
 | [],i,l,h=>by
  simp only [ycu,setV,zkF] at h;exact .inl ⟨rfl,by rw [<- h];rfl⟩
 | e::es,i,l,h=>by
  rw [yan] at h;unfold setV at h;unfold Instr.findNow;simp only at h;cases hs:Instr.sameNow D k e.key with
  | none=>rw [hs] at h;cases h
  | some b =>
   rw [hs] at h;cases b with
   | true =>
    simp only [zkF] at h;refine .inr ⟨0,e,rfl,rfl,?_,by rw [<- h];rfl⟩;unfold Instr.sameNow at hs;split at hs
    ·rename_i k1 a k2 b hk;split at hs
     ·rename_i he;simp only [zkF] at hs;rw [hk];have hab:a=b:=by simpa using hs
      subst he hab;simp [Instr.sameBits]
     ·cases hs
    ·rename_i a b hk;simp only [zkF] at hs;rw [hk,ba_eq hs];exact ba_rfl _
    ·rename_i a b hk;simp only [zkF] at hs;have hab:a=b:=by simpa using hs
     rw [hk,hab];simp [Instr.sameBits]
    ·cases hs
   | false =>
    cases hr:setV D k v (es.map fun e=>(e.key,e.val)) with
    | none=>simp only [hr] at h;cases h
    | some l' =>
     simp only [hr,yaj,zkF] at h;rcases setV_eq D hD k v es (i+1) l' hr with ⟨h1,h2⟩ | ⟨j,e',h1,h2,h3,h4⟩
     ·exact .inl ⟨h1,by rw [<- h,h2];rfl⟩
     ·exact .inr ⟨j+1,e',by rw [h1,ybb,yb9 1 j],by simpa using h2,h3,by rw [<- h,h4];rfl⟩
theorem aMapUpdate_ok {t:TypeId} {x i y:Operand} (hop:o.op=.mapUpdate t x i y) (hd:zdh B.n o=true) (h:zrr P o σ K t x i y):∃ fx,K fx∧Eff P B o fx.rd σ fx.wr:=by
 unfold zrr at h;split at h
 ·rename_i kt et b g kv v c0 hx hi hy;have a5:=zl2 c0;split at h
  ·rename_i l D a8 a4;obtain ⟨hg,l',b6,h⟩:=h.out;refine ⟨_,h,fun σ' hag a w ⟨ρ,hs⟩ K' Q hK=>?_⟩;obtain ⟨ha,hg',a7,_⟩:=zdx hag;have h1:=za0 hs x;have h2:=za0 hs i;have h3:=za0 hs y;rw [zai (zao (zao ha)),hx] at h1;rw [zai (za3 (zao ha))] at h2;rw [zai (za3 ha)] at h3;have b3:=zn5 hi h2;have hv:=zn5 hy h3;have ho:=hs.obs b;rw [a7.trans a8] at ho;obtain ⟨q,a2,es,e1,e2,e3,b7⟩:=ho
   have a9:a.eval x=.map (some q):=by
    generalize a.eval x=u at h1;cases h1 with
    | osl _ _ _ _ _ hh=>rw [hh (hg'.trans hg),e1]
   rw [<- e3] at b6;have b0:=MapKept.run_getObj_map (P:=P) e2;have a6:live σ' b:=by unfold live;rw [a7.trans a8];exact fun z=>by cases z
   have c7:zbm (ρ b)=some q:=by rw [e1];rfl
   have b5:∀ (a3:Array MapEntry) (a0:Nat),(a3.toList.map fun e=>(e.key,e.val))=l'->zrd a3 a0->(execOp a.eval o).run P w=.ok .skip (setBlock w q (.map a3 a0))->o.wp P a w K' Q:=fun a3 a0 c6 b8 b2=>by
    unfold Oper.wp;rw [b2,Oper.upon_skip];refine hK _ _ ⟨ρ,?_⟩
    have b9:=hs.turn (b:=b) (q:=q) (w':=setBlock w q (.map a3 a0)) (k':=.map l') a6 c7 ⟨rfl,rfl,rfl,by simp [setBlock],fun i _ hi=>heap_setBlock_other e2 _ (fun e=>hi (by rw [e]))⟩ (fun c hc=>by unfold Owns;rw [a7.trans a8];exact hc) fun hI =>
     ⟨q,a0,a3,e1,heap_setBlock_same e2 _,c6,b8⟩
    rw [zb2];exact b9.put (zle hd) (zdt _)
   rcases setV_eq D (zuq a4).2 kv v es.toList 0 l' b6 with ⟨f1,f2⟩ | ⟨j,e,f1,f2,f3,f4⟩
   ·refine b5 (es.push { key:=kv,val:=v,born:=a2 }) (a2+1) (by rw [f2];simp) (b7.push _ _) ?_;simp only [execOp,hop,a9,b3,hv,Instr.mapUpdate,Sem.run_bind,run_underlying a5,Result.andThen_ok,b0,Sem.run_pure,zog a4,zqj a4 f1,MapKept.run_setObj_map _ e2];rfl
   ·have hj:es[j]?=some e:=by rw [<- yao];exact f2
    have b4:j<es.size:=(ybm.1 hj).1;refine b5 (es.modify j fun e=>{ e with key:=kv,val:=v }) a2 ?_ (b7.modify _ _ fun _=>rfl) ?_
    ·rw [f4];congr 1;apply yb7;intro n;rw [yao,ycv,ydd];by_cases hn:j=n
     ·subst hn;rw [if_pos rfl,if_pos rfl,if_pos (by simpa using b4),hj];rfl
     ·rw [if_neg hn,if_neg hn,yao]
    ·rw [yae] at f1;simp only [execOp,hop,a9,b3,hv,Instr.mapUpdate,Sem.run_bind,run_underlying a5,Result.andThen_ok,b0,Sem.run_pure,zog a4,zqj a4 f1,MapKept.run_setObj_map _ e2,hj,Instr.keyThatStays,yaj,yba,f3,if_true];rfl
  ·exact h.elim
 ·exact h.elim
theorem delV_eq (D:TypeDesc) (k:Value):∀ (es:List MapEntry) (i:Nat) (l:List (Value×Value)),delV D k (es.map fun e=>(e.key,e.val))=some l ->
  (Instr.findNow D k es i=some none∧l=es.map fun e=>(e.key,e.val))∨∃ j v,Instr.findNow D k es i=some (some (i+j,v))∧j<es.length∧l=(es.eraseIdx j).map fun e=>(e.key,e.val)
 | [],i,l,h=>by
  simp only [ycu,delV,zkF] at h;exact .inl ⟨rfl,by rw [<- h];rfl⟩
 | e::es,i,l,h=>by
  rw [yan] at h;unfold delV at h;unfold Instr.findNow;simp only at h;cases hs:Instr.sameNow D k e.key with
  | none=>rw [hs] at h;cases h
  | some b =>
   rw [hs] at h;cases b with
   | true =>
    simp only [zkF] at h;exact .inr ⟨0,_,rfl,by simp,by rw [<- h];rfl⟩
   | false =>
    cases hr:delV D k (es.map fun e=>(e.key,e.val)) with
    | none=>simp only [hr] at h;cases h
    | some l' =>
     simp only [hr,yaj,zkF] at h;rcases delV_eq D k es (i+1) l' hr with ⟨h1,h2⟩ | ⟨j,v,h1,h2,h3⟩
     ·exact .inl ⟨h1,by rw [<- h,h2];rfl⟩
     ·exact .inr ⟨j+1,v,by rw [h1,ybb,yb9 1 j],by simpa using h2,by rw [<- h,h3];rfl⟩
theorem aDelete_ok {c:Call} {t t':TypeId} {x i:Operand} (hop:o.op=.call c) (hc:c.callee=.builtin .delete) (ha:c.args.toList=[x,i]) (ht:c.argTypes.toList=[t,t']) (hd:zdh B.n o=true) (h:aDelete P o σ K t x i):∃ fx,K fx∧Eff P B o fx.rd σ fx.wr:=by
 have a3:c.args=#[x,i]:=by rw [<- ybq (xs:=c.args),ha]
 have b6:c.argTypes=#[t,t']:=by rw [<- ybq (xs:=c.argTypes),ht]
 unfold aDelete at h;split at h
 ·rename_i kt et b g kv c6 hx hi;have a6:=zl2 c6;split at h
  ·rename_i l D a9 a5;obtain ⟨hg,l',b8,h⟩:=h.out;refine ⟨_,h,fun σ' hag a w ⟨ρ,hs⟩ K' Q hK=>?_⟩;obtain ⟨ha,hg',a8,_⟩:=zdx hag;have h1:=za0 hs x;have h2:=za0 hs i;rw [zai (zao ha),hx] at h1;rw [zai (za3 ha)] at h2;have b5:=zn5 hi h2;have ho:=hs.obs b;rw [a8.trans a9] at ho;obtain ⟨q,a0,es,e1,e2,e3,b0⟩:=ho
   have b2:a.eval x=.map (some q):=by
    generalize a.eval x=u at h1;cases h1 with
    | osl _ _ _ _ _ hh=>rw [hh (hg'.trans hg),e1]
   rw [<- e3] at b8;have b3:=MapKept.run_getObj_map (P:=P) e2;have a7:live σ' b:=by unfold live;rw [a8.trans a9];exact fun z=>by cases z
   have c8:zbm (ρ b)=some q:=by rw [e1];rfl
   have b7:∀ (a2:Array MapEntry),(a2.toList.map fun e=>(e.key,e.val))=l'->zrd a2 a0->(execOp a.eval o).run P w=.ok (.value (.tuple #[])) (setBlock w q (.map a2 a0))->o.wp P a w K' Q:=fun a2 c7 b9 b4=>by
    unfold Oper.wp;rw [b4,Oper.upon_value];refine hK _ _ ⟨ρ,?_⟩
    have c0:=hs.turn (b:=b) (q:=q) (w':=setBlock w q (.map a2 a0)) (k':=.map l') a7 c8 ⟨rfl,rfl,rfl,by simp [setBlock],fun i _ hi=>heap_setBlock_other e2 _ (fun e=>hi (by rw [e]))⟩ (fun c hc=>by unfold Owns;rw [a8.trans a9];exact hc) fun hI =>
     ⟨q,a0,a2,e1,heap_setBlock_same e2 _,c7,b9⟩
    rw [zb2];exact c0.put (zle hd) (.im _ _ (.any _))
   rcases delV_eq D kv es.toList 0 l' b8 with ⟨f1,f2⟩ | ⟨j,v,f1,f2,f3⟩
   ·refine b7 es f2.symm b0 ?_;simp only [execOp,hop,resolve,hc,a3,b6,invoke,builtin,ydg,yan,ycu,Builtin.delete_,b2,b5,Sem.run_bind,Sem.run_pure,run_underlying a6,Result.andThen_ok,b3,zog a5,zqj a5 f1,MapKept.run_setObj_map _ e2,yds,yc5,ydo];rfl
   ·have hj:j<es.size:=by simpa using f2
    have a4:(es.eraseIdxIfInBounds j).toList=es.toList.eraseIdx j:=by
     unfold Array.eraseIdxIfInBounds;rw [dif_pos hj];simp
    refine b7 (es.eraseIdxIfInBounds j) (by rw [a4,f3]) ⟨fun y hy=>b0.1 y (by rw [a4] at hy;exact (List.eraseIdx_sublist _ _).subset hy),by rw [a4];exact b0.2.sublist ((List.eraseIdx_sublist _ _).map _)⟩ ?_;rw [yae] at f1;simp only [execOp,hop,resolve,hc,a3,b6,invoke,builtin,ydg,yan,ycu,Builtin.delete_,b2,b5,Sem.run_bind,Sem.run_pure,run_underlying a6,Result.andThen_ok,b3,zog a5,zqj a5 f1,MapKept.run_setObj_map _ e2,yds,yc5,ydo];rfl
  ·exact h.elim
 ·exact h.elim
end
end
section
section
variable {P:Program} {B:Base} {o:Oper} {σ:St} {K:Fx->Prop}
theorem znh {a:Act} {w:World} {ρ:Ly} (hs:SatR B σ a w ρ) {y:Operand} {n:Int} {k:IntKind} (hy:Sym.asInt (evA σ y)=some (k,n)) {m:Nat} {c:BoundsCode} (h0:0<=n) (hm:n<=m):(Instr.sliceBound (a.eval y) m c).run P w=.ok n.toNat w:=by
 have h3:0<=n∧n<=m:=⟨h0,hm⟩;simp only [zcy hy (za0 hs y),Instr.sliceBound,asIntOf,Sem.run_bind,Sem.run_pure,Result.andThen_ok,if_pos h3]
theorem zqy {a:Act} {w:World} {ρ:Ly} (hs:SatR B σ a w ρ) {b k:Nat} {t:TypeId} {es:List (List IV)} (hk:σ.kd b=.row t k es) (hn:0<es.length) :
  ∃ (q cap:Nat) (cur:Array Value) (us:List Value),ρ b=.slice (some ⟨q,0,none⟩) es.length cap∧w.heap[q]?=some (.cells cur t (0,0))∧es.length<=cap∧cap<=maxLen∧cur.size=cap*k∧cur.toList.take (es.length*k)=us∧0<k∧(∀ x∈es,x.length=k)∧es.length<=17592186044416∧us.length=es.flatten.length ∧
   (∀ u∈us,u.oneCell'=true)∧∀ (i:Nat) u x,us[i]?=some u->es.flatten[i]?=some x->RepI w (Imm B σ ρ w) u x:=by
 have ho:=hs.obs b;rw [hk] at ho;obtain ⟨us,h1,h2,h3,h4,h5,h6,h7⟩:=ho;rcases h4.2 with ⟨_,h0⟩ | ⟨q,cap,cur,e1,_,e3,e4,e5,e6,e7⟩
 ·omega
 ·exact ⟨q,cap,cur,us,e1,e3,e4,e5,e6,e7,h1,h2,h3,h5,h6,h7⟩
theorem aSliceV_ok {t:TypeId} {x lo:Operand} {b g:Nat} (hop:o.op=.slice t x (some lo) none none) (hx:evA σ x=.osl b g) (hd:zdh B.n o=true) (h:aSliceV P o σ K t x b g lo):∃ fx,K fx∧Eff P B o fx.rd σ fx.wr:=by
 unfold aSliceV at h;split at h
 ·rename_i et kk l b2 k es a6 b0 a9;have hu:=zeg a6;split at h
  ·rename_i k' a7;obtain ⟨a0,h'⟩:=h.ok;clear h;have a0:=yag a0;subst a0;obtain ⟨⟨hg,h0,hl,hn⟩,h⟩:=h'.out;refine ⟨_,h,Eff.pure hd fun σ' hag a w ρ hs=>?_⟩;obtain ⟨a5,hg',a8,_⟩:=zdx hag;have h1:=za0 hs x;rw [zai (zao a5),hx] at h1;have a4:Sym.asInt (evA σ' lo)=some (kk,l):=by rw [zai (za3 a5)];exact b0
   obtain ⟨q,a3,cur,us,e1,e2,e3,_⟩:=zqy hs (a8.trans a9) hn;have hb:=fun c=>znh (P:=P) (w:=w) hs a4 (m:=es.length) (c:=c) h0 (by omega);have hz:=zie a7 w;generalize hv:a.eval x=v at h1;cases h1 with
   | osl _ _ _ a2 hgg hh =>
    rw [hh (hg'.trans hg),e1] at hv;refine ⟨.slice (if a3=l.toNat then some ⟨q,0,none⟩ else some ⟨q,l.toNat*k,none⟩) (es.length-l.toNat) (a3-l.toNat),?_,.osv _ b g l.toNat k (by rfl) hgg fun _=>⟨q,_,a3,e1,hl,rfl⟩⟩;simp only [execOp,hop,hv,Instr.sliceAt,Instr.slice,Sem.run_bind,Sem.run_pure,Result.andThen_ok,run_underlying hu,ycw,yaj,hz];unfold Instr.sliceBounds;simp [hb,addr_add,hz]
  ·exact h.elim
 ·exact h.elim
theorem aSlice3_ok {t:TypeId} {x:Operand} {lo hi:Option Operand} {mx:Operand} (hop:o.op=.slice t x lo hi (some mx)) (hd:zdh B.n o=true) (h:aSlice3 P o σ K t x lo hi mx):∃ fx,K fx∧Eff P B o fx.rd σ fx.wr:=by
 unfold aSlice3 at h;split at h
 ·rename_i hi et b0;have hu:=zeg b0;split at h
  ·rename_i k es k1 h9 k2 hh hk hx b3 a8;obtain ⟨⟨h0,a3,rfl,a7⟩,h⟩:=h.out;have h:=h.out;refine ⟨_,h,Eff.pure hd fun σ' hag a w ρ hs=>?_⟩;have h1:=za0 hs x;rw [zai (zao (zao hag))] at h1;have a2:Sym.asInt (evA σ' hi)=some (k1,hh):=by rw [zai (za3 (zao hag))];exact b3
   have a4:Sym.asInt (evA σ' mx)=some (k2,hh):=by rw [zai (za3 hag)];exact a8
   have hz:=zie hk w
   have run:∀ A n cp,a.eval x=.slice A n cp->n=es.length->n<=cp->(execOp a.eval o).run P w=.ok (.value (.slice (if hh.toNat=0 then A else A.map (·.add (0*k))) (hh.toNat-0) (hh.toNat-0))) w:=fun A n cp hv hn b4=>by
    have b1:=fun c=>znh (P:=P) (w:=w) hs a4 (m:=cp) (c:=c) h0 (by omega);have b2:=fun c=>znh (P:=P) (w:=w) hs a2 (m:=hh.toNat) (c:=c) h0 (by omega);simp only [execOp,hop,hv,Instr.sliceAt,Instr.slice,Sem.run_bind,Sem.run_pure,Result.andThen_ok,run_underlying hu,ycw,yaj,hz];unfold Instr.sliceBounds;simp [b1,b2,hz]
   have emp:∀ A,es=[]->RepA w (Imm B σ' ρ w) ρ σ'.gn (.slice (if hh.toNat=0 then A else A.map (·.add (0*k))) (hh.toNat-0) (hh.toNat-0)) (.full (es.take hh.toNat)):=fun A e=>by
    have e0:hh.toNat=0:=by rw [e] at a3;simp at a3;omega
    rw [e0,e,if_pos rfl,List.take_nil];exact .full _ _ _ (.emp _ _)
   cases hxx:evA σ x with
   | im y =>
    rw [hxx] at h1 hx;have hx:nz y=.sl es:=hx;have h1:RepI w (Imm B σ' ρ w) (a.eval x) (.sl es):=hx ▸ nz_rep h1.im_inv;generalize hv:a.eval x=v at h1;cases h1 with
    | emp A c =>
     exact ⟨_,run _ _ _ hv rfl (yas _),emp _ rfl⟩
    | sl b q c k' n _ us hn hkk hc hs' hS hl hone hu' hr =>
     refine ⟨_,run _ _ _ hv hn.symm hc,?_⟩;rcases yb4 hh.toNat with e0 | e0
     ·rw [e0,if_pos rfl,List.take_zero];exact .full _ _ _ (.emp _ _)
     ·rw [if_neg (by omega)];simp only [yaj,ydv,addr_add,ybl,ydk];have a5:(es.take hh.toNat).length=hh.toNat:=by rw [yak];omega
      have a6:(es.take hh.toNat).flatten=es.flatten.take (hh.toNat*k):=zl5 a7;refine .full _ _ _ (.sl b q _ k _ _ (us.take (hh.toNat*k)) a5 (fun e he=>a7 e (yaz he)) (yam _) (by omega) hS (by rw [a6,yak,yak,hl]) (fun u a0=>hone u (yaz a0)) (fun i u a0=>?_) fun i u y a0 hy=>?_)
      ·rw [yax] at a0;split at a0
       ·exact hu' i u a0
       ·cases a0
      ·rw [a6,yax] at hy;rw [yax] at a0;split at a0
       ·rename_i a9;rw [if_pos a9] at hy;exact hr i u y a0 hy
       ·cases a0
   | _=>rw [hxx] at hx;cases hx
  ·exact h.elim
 ·exact h.elim
theorem aLenV_ok {c:Call} {t:TypeId} {ts:List TypeId} {x:Operand} {b g k m:Nat} (hop:o.op=.call c) (hc:c.callee=.builtin .len) (ha:c.args.toList=[x]) (ht:c.argTypes.toList=t::ts) {e:TypeId} (he:zhs P t=some e) (hx:evA σ x=.osv b g k m) (hd:zdh B.n o=true) (h:aLenV o σ K x b g k):∃ fx,K fx∧Eff P B o fx.rd σ fx.wr:=by
 have a4:c.argTypes[0]?=some t:=by rw [<- yao,ht];rfl
 have a6:∀ a:Act,(c.args.map a.eval)[0]?=some (a.eval x):=fun a=>by rw [<- yao,ybx,ha];rfl
 have hu:=zeg he
 have run:∀ (a:Act) w A n cp,a.eval x=.slice A n cp->(execOp a.eval o).run P w=.ok (.value (.int .i64 n)) w:=fun a w A n cp hv=>by
  simp only [execOp,hop,resolve,hc,invoke,builtin,Builtin.len_,a4,a6,Sem.run_bind,Sem.run_pure,Result.andThen_ok,run_underlying hu,hv,goInt]
 unfold aLenV at h;split at h
 ·rename_i t' kk es a0;obtain ⟨hg,h⟩:=h.out;have h:=h.out;refine ⟨_,h,Eff.pure hd fun σ' hag a w ρ hs=>?_⟩;obtain ⟨a3,hg',a5,_⟩:=zdx hag;have h1:=za0 hs x;rw [zai a3,hx] at h1;obtain ⟨A,cp,hρ⟩:=zv3 hs (a5.trans a0);generalize hv:a.eval x=v at h1;cases h1 with
  | osv _ _ _ _ _ a2 hgg hh =>
   obtain ⟨q,n,c',e1,e2,e3⟩:=hh (hg'.trans hg);rw [hρ] at e1;injection e1 with _ e1 _
   subst e1;rw [e3] at hv;exact ⟨_,run a w _ _ _ hv,zdt _⟩
 ·exact h.elim
theorem aIndexV_ok {t:TypeId} {x i:Operand} {b g k m:Nat} (hop:o.op=.indexAddr t x i) (hx:evA σ x=.osv b g k m) (hd:zdh B.n o=true) (h:aIndexV P o σ K t x i b g k m):∃ fx,K fx∧Eff P B o fx.rd σ fx.wr:=by
 unfold aIndexV at h;split at h
 ·rename_i kk n et t' k' es hi a7 a6;have hu:=zeg a7;split at h
  ·rename_i m' hm;obtain ⟨a0,h'⟩:=h.ok;clear h;have a0:=yag a0;subst a0;obtain ⟨⟨h0,hg,a8⟩,h⟩:=h'.out;have h:=h.out;refine ⟨_,h,Eff.pure hd fun σ' hag a w ρ hs=>?_⟩;obtain ⟨a3,hg',a4,_⟩:=zdx hag;have h1:=za0 hs x;have h2:=za0 hs i;rw [zai (zao a3),hx] at h1;rw [zai (za3 a3)] at h2;have hn:=zcy hi h2;obtain ⟨q,a5,cur,us,e1,e2,e3,_⟩:=zqy hs (a4.trans a6) (by omega);generalize hv:a.eval x=v at h1;cases h1 with
   | osv _ _ _ _ _ a2 hgg hh =>
    obtain ⟨q',n',c',f1,f2,f3⟩:=hh (hg'.trans hg);have a9:=f1;rw [e1] at f1;injection f1 with f1 f4 f5
    injection f1 with f1
    injection f1 with f1
    subst f1 f4 f5;rw [f3,if_neg (by omega)] at hv;have hz:=zie hm w;have h3:0<=n∧n<(es.length-k:Nat):=⟨h0,by omega⟩;refine ⟨.pointer (some ⟨q,(k+n.toNat)*m,none⟩),?_,.elt _ b g m (k+n.toNat) 0 rfl hgg fun _=>⟨q,0,_,a5,e1,by rw [ybl,yae]⟩⟩;simp only [execOp,hop,hv,hn,Instr.indexAt,asIntOf,Sem.run_bind,Sem.run_pure,Result.andThen_ok,run_underlying hu,if_pos h3,hz,addr_add];rw [Nat.add_mul]
  ·exact h.elim
 ·exact h.elim
theorem aSliceT_ok {t:TypeId} {x hi:Operand} {b g:Nat} (hop:o.op=.slice t x none (some hi) none) (hx:evA σ x=.osl b g) (hd:zdh B.n o=true) (h:aSliceT P o σ K t x b g hi):∃ fx,K fx∧Eff P B o fx.rd σ fx.wr:=by
 unfold aSliceT at h;split at h
 ·rename_i et kk l a0 k es d b9 c6 b3 a4;have hu:=zeg b9;split at h
  ·rename_i k' c0;obtain ⟨a9,h'⟩:=h.ok;clear h;have a9:=yag a9;subst a9;obtain ⟨⟨hg,h0,hl,hn⟩,h⟩:=h'.out;have h:=h.out;refine ⟨_,h,fun σ' hag a w ⟨ρ,hs⟩ K' Q hK=>?_⟩;obtain ⟨b4,hg',b2,c9⟩:=zdx hag;have h1:=za0 hs x;rw [zai (zao b4),hx] at h1;have b0:Sym.asInt (evA σ' hi)=some (kk,l):=by rw [zai (za3 b4)];exact c6
   obtain ⟨q,cap,cur,us,e1,e2,e3,e4,e5,e6,e7,e8,e9,a2,a6,a7⟩:=zqy hs (b2.trans b3) hn;have hb:=fun c=>znh (P:=P) (w:=w) hs b0 (m:=cap) (c:=c) h0 (by omega);have hz:=zie c0 w
   have hv:a.eval x=.slice (some ⟨q,0,none⟩) es.length cap:=by
    generalize a.eval x=v at h1;cases h1 with
    | osl _ _ _ a8 hgg hh=>rw [hh (hg'.trans hg),e1]
   have run:(execOp a.eval o).run P w=.ok (.value (.slice (some ⟨q,0,none⟩) l.toNat cap)) w:=by
    simp only [execOp,hop,hv,Instr.sliceAt,Instr.slice,Sem.run_bind,Sem.run_pure,Result.andThen_ok,run_underlying hu,ycw,yaj,hz];unfold Instr.sliceBounds;have:¬ cap=0:=by omega
    simp [hb,addr_add,hz,this]
   unfold Oper.wp;rw [run,Oper.upon_value,a4];refine hK _ _ ⟨setρ ρ b (.slice (some ⟨q,0,none⟩) l.toNat cap),?_⟩;have a3:Owns σ' ρ b q:=.root (zld (b2.trans b3)) (by rw [e1];rfl);have m:zsj σ' w w ρ (some b) (.slice (some ⟨q,0,none⟩) l.toNat cap) (some q):=⟨World.grownBy.refl _ _,fun c hc=>by injection hc with hc;subst hc;exact ⟨b,rfl,a3⟩,fun c hc=>.inl (by injection hc with hc;rw [<- hc])⟩;have a5:(es.take l.toNat).length=l.toNat:=by rw [yak];omega
   have b6:(es.take l.toNat).flatten=es.flatten.take (l.toNat*k):=zl5 e8;have c8:=zby e8;have b5:l.toNat*k<=es.length*k:=ybd _ hl
   have b7:=hs.new (d:=b) (k:=.row a0 k (es.take l.toNat)) (cs:=[]) m rfl fun hI _=>by
    refine ⟨us.take (l.toNat*k),e7,fun y hy=>e8 y (yaz hy),by rw [a5];omega,?_,by rw [b6,yak,yak,a2],fun u hu=>a6 u (yaz hu),fun i u y hu hy=>?_⟩
    ·rw [a5];refine ⟨by rw [yak];omega,.inr ⟨q,cap,cur,by simp [setρ],yas _,e2,by omega,e4,e5,?_⟩⟩;rw [<- e6,ydn,ycl b5]
    ·rw [b6,yax] at hy;rw [yax] at hu;split at hu
     ·rename_i b8;rw [if_pos b8] at hy;exact hI _ _ (a7 i u y hu hy)
     ·cases hu
   have c7:app σ' ((.knd b,.kd .dead)::(zez σ b (.row a0 k (es.take l.toNat))++[(.tmp d,.av (.osl b (σ.gn b+1)))]))=app (zf4 σ' (some b) b (.row a0 k (es.take l.toNat)) []) [(.tmp d,.av (.osl b (σ'.gn b+1)))]:=by
    rw [zb2,zau];unfold zf4 zez;rw [hg'];rfl
   show SatR B (app σ' ((.knd b,.kd .dead)::(zez σ b (.row a0 k (es.take l.toNat))++[(.tmp d,.av (.osl b (σ.gn b+1)))]))) _ _ _;rw [c7];exact zi2 b7 rfl (zdf hd a4)
  ·exact h.elim
 ·exact h.elim
theorem aSliceQ_ok {t:TypeId} {x lo:Operand} {b g:Nat} (hop:o.op=.slice t x (some lo) none none) (hx:evA σ x=.osl b g) (hd:zdh B.n o=true) (h:aSliceQ P o σ K t x b g lo):∃ fx,K fx∧Eff P B o fx.rd σ fx.wr:=by
 unfold aSliceQ at h;split at h
 ·rename_i et kk l a2 k es d d1 b9 b4 a3;have hu:=zeg d1;split at h
  ·rename_i k' b8;obtain ⟨a4,h'⟩:=h.ok;clear h;have a4:=yag a4;subst a4;obtain ⟨⟨hg,h0,hl⟩,h⟩:=h'.out;have h:=h.out;refine ⟨_,h,fun σ' hag a w ⟨ρ,hs⟩ K' Q hK=>?_⟩;obtain ⟨a5,hg',b3,d6⟩:=zdx hag;have h1:=za0 hs x;rw [zai (zao a5),hx] at h1;have b2:Sym.asInt (evA σ' lo)=some (kk,l):=by rw [zai (za3 a5)];exact b9
   have ho:=hs.obs b;rw [b3.trans b4] at ho;have hQ:zmu w (Imm B σ' ρ w) (ρ b) a2 k es:=ho;obtain ⟨us,k0,hk,d3,b0,c6,d2,hv⟩:=hQ
   have a6:a.eval x=ρ b:=by
    generalize a.eval x=v at h1;cases h1 with
    | osl _ _ _ _ _ hh=>exact hh (hg'.trans hg)
   have hb:=fun c=>znh (P:=P) (w:=w) hs b2 (m:=es.length) (c:=c) h0 (by omega);have hz:=zie b8 w
   have key:∃ v',(execOp a.eval o).run P w=.ok (.value v') w∧(∀ q,zbm v'=some q->zbm (ρ b)=some q)∧v'.oneCell'=true∧∀ S',(∀ u x,RepI w (Imm B σ' ρ w) u x->RepI w S' u x)->zmu w S' v' a2 k (es.drop l.toNat):=by
    have a7:(es.drop l.toNat).flatten=es.flatten.drop (l.toNat*k):=zq2 hk;have d4:l.toNat*k<=es.length*k:=ybd _ hl;have b6:=zby hk
    have mk:∀ v',((v'=.slice none 0 0∧es.drop l.toNat=[])∨∃ (q off a0:Nat) (cur:Array Value),v'=.slice (some ⟨q,off,none⟩) (es.drop l.toNat).length a0∧w.heap[q]?=some (.cells cur a2 (0,0))∧(es.drop l.toNat).length<=a0∧a0<=maxLen∧off+a0*k<=cur.size∧∀ (j:Nat) u,(us.drop (l.toNat*k))[j]?=some u->cur[off+j]?=some u)->∀ S',(∀ u x,RepI w (Imm B σ' ρ w) u x->RepI w S' u x)->zmu w S' v' a2 k (es.drop l.toNat):=fun v' c8 S' hI=>by
     refine ⟨us.drop (l.toNat*k),k0,fun x hx=>hk x (ya1 hx),by rw [ya0];omega,by rw [a7,ya0,ya0,b0],fun u hu=>c6 u (ya1 hu),fun i u x hu hx=>?_,c8⟩;rw [a7,ya6] at hx;rw [ya6] at hu;exact hI _ _ (d2 _ u x hu hx)
    rcases hv with ⟨e1,e2⟩ | ⟨q,off,a0,cur,e1,e2,e3,e4,e5,e6⟩
    ·have c9:l.toNat=0:=by rw [e2] at hl;simpa using hl
     refine ⟨.slice none 0 0,?_,(fun q (hq:none=some q)=>nomatch hq),rfl,mk _ (.inl ⟨rfl,by rw [e2];simp⟩)⟩;have c7:es.length=0:=by rw [e2];rfl
     rw [c7] at hb;simp only [execOp,hop,a6,e1,Instr.sliceAt,Instr.slice,Sem.run_bind,Sem.run_pure,Result.andThen_ok,run_underlying hu,ycw,yaj,hz];unfold Instr.sliceBounds;simp [hb,hz,c9]
    ·refine ⟨.slice (if a0=l.toNat then some ⟨q,off,none⟩ else some ⟨q,off+l.toNat*k,none⟩) (es.length-l.toNat) (a0-l.toNat),?_,fun p hp=>?_,by rfl,mk _ (.inr ?_)⟩
     ·simp only [execOp,hop,a6,e1,Instr.sliceAt,Instr.slice,Sem.run_bind,Sem.run_pure,Result.andThen_ok,run_underlying hu,ycw,yaj,hz];unfold Instr.sliceBounds;simp [hb,addr_add,hz]
     ·rw [e1];split at hp<;>exact hp
     ·by_cases hc:a0=l.toNat
      ·rw [if_pos hc];refine ⟨q,off,a0-l.toNat,cur,by rw [ya0],e2,by rw [ya0];omega,by omega,by rw [hc,ycf,ydv];omega,fun j u hu=>?_⟩
       have:(us.drop (l.toNat*k)).length=0:=by
        have:es.length=l.toNat:=by omega
        rw [ya0,b0,b6,this];omega
       rw [yav this] at hu;cases hu
      ·rw [if_neg hc];have d5:l.toNat*k+(a0-l.toNat)*k=a0*k:=by rw [<- Nat.add_mul];congr 1;omega
       refine ⟨q,off+l.toNat*k,a0-l.toNat,cur,by rw [ya0],e2,by rw [ya0];omega,by omega,by omega,fun j u hu=>?_⟩;rw [ya6] at hu;rw [ybb];exact e6 _ u hu
   obtain ⟨v',a8,a9,b5,d0⟩:=key;unfold Oper.wp;rw [a8,Oper.upon_value,a3];refine hK _ _ ⟨setρ ρ b v',?_⟩;have b7:=hs.qued (w':=w) (used:=some b) (row:=zbm (ρ b)) (d:=b) (v':=v') (e:=a2) (k:=k) (es:=es.drop l.toNat) (fun q hq=>⟨b,rfl,.root (live_que (b3.trans b4)) hq⟩) (World.grownBy.refl _ _) (fun q hq=>.inl (a9 q hq)) d0
   have c0:app σ' ((.knd b,.kd .dead)::(zez σ b (.que a2 k (es.drop l.toNat))++[(.tmp d,.av (.osl b (σ.gn b+1)))]))=app (zf4 σ' (some b) b (.que a2 k (es.drop l.toNat)) []) [(.tmp d,.av (.osl b (σ'.gn b+1)))]:=by
    rw [zb2,zau];unfold zf4 zez;rw [hg'];rfl
   show SatR B (app σ' ((.knd b,.kd .dead)::(zez σ b (.que a2 k (es.drop l.toNat))++[(.tmp d,.av (.osl b (σ.gn b+1)))]))) _ _ _;rw [c0];exact zi2 b7 b5 (zdf hd a3)
  ·exact h.elim
 ·exact h.elim
theorem aClear_ok {c:Call} {t:TypeId} {ts:List TypeId} {x:Operand} (hop:o.op=.call c) (hc:c.callee=.builtin .clear) (ha:c.args.toList=[x]) (ht:c.argTypes.toList=t::ts) (hd:zdh B.n o=true) (h:aClear P o σ K t x):∃ fx,K fx∧Eff P B o fx.rd σ fx.wr:=by
 have b9:c.argTypes[0]?=some t:=by rw [<- yao,ht];rfl
 have b5:∀ a:Act,(c.args.map a.eval)[0]?=some (a.eval x):=fun a=>by rw [<- yao,ybx,ha];rfl
 unfold aClear at h;split at h
 ·rename_i et b g k m d1 hx;have hu:=zeg d1;split at h
  ·rename_i b0 k' es m' z c9 d9 hz;obtain ⟨b3,h'⟩:=h.ok;clear h;simp only [yar] at b3;obtain ⟨⟨⟨⟨c1,c2⟩,c3⟩,c4⟩,c5⟩:=b3;have c1:=yag c1;have c2:=yag c2;have c4:=yag c4;subst c1 c2;have c3:=ze7 c3;obtain ⟨⟨hg,d7⟩,h⟩:=h'.out;have h:=h.out;refine ⟨_,h,fun σ' hag a w ⟨ρ,hs⟩ K' Q hK=>?_⟩;obtain ⟨d2,hg',d5,_⟩:=zdx hag;have h1:=za0 hs x;rw [zai d2,hx] at h1;have a3:=d5.trans c9;by_cases hn:k=es.length
   ·-- nothing to clear
    have e0:es.take k++List.replicate (es.length-k) (z.map fun v=>nz1 (.val v))=es:=by rw [hn];simp
    obtain ⟨A,cp,hρ⟩:=zv3 hs a3
    have run:(execOp a.eval o).run P w=.ok (.value (.tuple #[])) w:=by
     generalize hv:a.eval x=v at h1;cases h1 with
     | osv _ _ _ _ _ a6 hgg hh =>
      obtain ⟨q,n,c',f1,f2,f3⟩:=hh (hg'.trans hg);rw [hρ] at f1;injection f1 with _ f1 _
      subst f1;have:es.length-k=0:=by omega
      rw [f3,this] at hv;generalize (if c'=k then some (⟨q,0,none⟩:Addr) else some ⟨q,k*k',none⟩)=AA at hv;simp only [execOp,hop,resolve,hc,invoke,builtin,Builtin.clear_,b9,b5,Sem.run_bind,Sem.run_pure,Result.andThen_ok,run_underlying hu,hv];cases AA<;>simp
    unfold Oper.wp;rw [run,Oper.upon_value];refine hK _ _ ⟨ρ,?_⟩;rw [e0]
    have b4:SatR B (upd σ' (.knd b) (.kd (.row b0 k' es))) a w ρ:=(hs.step (fun _=>False) (fun t=>ziz σ' b t _) (fun o _=>⟨by
      rw [zfm]
      by_cases e:o=b
      ·rw [if_pos e,e,a3]
      ·rw [if_neg e],zgi σ' b o _,fun i=>zj3 σ' b o i _,rfl,rfl,rfl⟩) (fun _ h=>h.elim) (fun o=>by rw [zj2];exact hs.igs o) (Belo.refl _ _ _) (fun _ _ h=>h.elim) (fun _ _ _ h=>h.elim) (fun _ _ _ h=>h.elim)).1
    rw [zb2];exact b4.put (fun t e=>zle hd t e) (.im _ _ (.any _))
   ·obtain ⟨q,c6,cur,us,e1,e2,e3,e4,e5,e6,e7,e8,e9,a2,a7,a8⟩:=zqy hs a3 (by omega)
    obtain ⟨zv,d4,c0⟩:∃ zv:Value,(∀ w,(zeroValue et).run P w=.ok zv w)∧zv.cells.toList=z:=by
     unfold zeroOf at hz;split at hz
     ·rename_i i hi;cases hz0:i.zero with
      | none=>rw [hz0] at hz;cases hz
      | some zz =>
       rw [hz0] at hz;simp only [yaj,zkF] at hz;exact ⟨zz,fun w=>by simp [zeroValue,typeInfo,hi,hz0],hz⟩
     ·cases hz
    have d8:zv.cells.size=k':=by rw [<- c4,<- c0];simp
    have c7:(Builtin.zeroCells zv.cells (es.length-k)).toList=(List.replicate (es.length-k) z).flatten:=by
     have:=made_take zv.cells (es.length-k) (es.length-k) (yam _) (by omega);rw [ybh (by simp [madeCells])] at this;rw [<- c0];exact this
    have a0:((List.replicate (es.length-k) z).flatten).length=(es.length-k)*k':=by
     rw [zby (k:=k') (fun x hx=>by rw [ybg hx];exact c4),ybv]
    have a9:∀ u∈(List.replicate (es.length-k) z).flatten,u.oneCell'=true:=fun u hu=>by
     obtain ⟨y,hy,hu⟩:=yc0.1 hu;rw [ybg hy] at hu;exact ybf.1 c5 u hu
    have b7:k*k'+(es.length-k)*k'=es.length*k':=by rw [<- Nat.add_mul];congr 1;omega
    have d3:es.length*k'<=c6*k':=ybd _ e3;have a5:=run_storeCells_at (P:=P) q (k*k') b0 ((List.replicate (es.length-k) z).flatten) 0 cur w e2 (by omega) a9;simp only [ybl] at a5
    have run:(execOp a.eval o).run P w=.ok (.value (.tuple #[])) (w.setRow q (splice cur.toList (k*k') ((List.replicate (es.length-k) z).flatten)).toArray):=by
     generalize hv:a.eval x=v at h1;cases h1 with
     | osv _ _ _ _ _ a6 hgg hh =>
      obtain ⟨q',n',c',f1,f2,f3⟩:=hh (hg'.trans hg);rw [e1] at f1;injection f1 with f1 f4 f5
      injection f1 with f1
      injection f1 with f1
      subst f1 f4 f5;obtain ⟨p,hp⟩:∃ p,es.length-k=p+1:=⟨es.length-k-1,by omega⟩;rw [f3,if_neg (by omega)] at hv;rw [hp] at hv a5 c7 ⊢;simp only [execOp,hop,resolve,hc,invoke,builtin,Builtin.clear_,b9,b5,Sem.run_bind,Sem.run_pure,Result.andThen_ok,run_underlying hu,hv,d4,c7,a5];rfl
    unfold Oper.wp;rw [run,Oper.upon_value];refine hK _ _ ⟨ρ,?_⟩;have b8:us.length=es.length*k':=by rw [a2,zby e8]
    have c8:(es.take k).length=k:=by rw [yak];omega
    have b2:(es.take k++List.replicate (es.length-k) (z.map fun v=>nz1 (.val v))).flatten=es.flatten.take (k*k')++(List.replicate (es.length-k) (z.map fun v=>nz1 (.val v))).flatten:=by
     rw [ybt,zl5 e8]
    have d6:((List.replicate (es.length-k) (z.map fun v=>nz1 (.val v))).flatten).length=(es.length-k)*k':=by
     rw [zby (k:=k') (fun x hx=>by rw [ybg hx];simpa using c4),ybv]
    have b4:=hs.turn (w':=w.setRow q (splice cur.toList (k*k') ((List.replicate (es.length-k) z).flatten)).toArray) (k':=.row b0 k' (es.take k++List.replicate (es.length-k) (z.map fun v=>nz1 (.val v)))) (zld a3) (q:=q) (by rw [e1];rfl)
     ⟨rfl,rfl,rfl,by simp,fun k _ hk=>setRow_other w q k _ (fun e=>hk (by rw [e]))⟩ (fun c hc=>by unfold Owns;rw [a3];exact hc) fun hI=>by
      refine ⟨us.take (k*k')++(List.replicate (es.length-k) z).flatten,e7,fun y hy=>?_,by rw [zkJ,c8,ybv];omega,?_,?_,fun u hu=>?_,fun n u y hu hy=>?_⟩
      ·rcases yal.1 hy with hy | hy
       ·exact e8 y (yaz hy)
       ·rw [ybg hy];simpa using c4
      ·have d0:(es.take k++List.replicate (es.length-k) (z.map fun v=>nz1 (.val v))).length=es.length:=by rw [zkJ,c8,ybv];omega
       rw [d0];refine ⟨by rw [zkJ,yak,a0,b8];omega,.inr ⟨q,c6,_,e1,yas _,setRow_heap w q cur _ b0 _ e2,e3,e4,?_,?_⟩⟩
       ·rw [yby,zd7 _ _ _ (by rw [a0];simp;omega)];simpa using e5
       ·rw [yc4,zmz _ _ _ _ (by rw [a0];omega) (by simp;omega),e6];unfold splice;rw [a0,b7,yct (by omega),ybp]
      ·rw [b2,zkJ,zkJ,yak,yak,a0,d6,a2]
      ·rcases yal.1 hu with hu | hu
       ·exact a7 u (yaz hu)
       ·exact a9 u hu
      ·rw [b2,yaq,yak,<- a2,ycl (by omega)] at hy;rw [yaq,yak,ycl (by omega)] at hu;split at hu
       ·rename_i a4;rw [if_pos a4,yax,if_pos a4] at hy;rw [yax,if_pos a4] at hu;exact hI _ _ (a8 n u y hu hy)
       ·rename_i a4;rw [if_neg a4,zha] at hy;rw [zha] at hu;split at hu
        ·rename_i b6;rw [zkK,if_pos b6,yat,hu] at hy;simp only [yaj,zkF] at hy;rw [<- hy];exact zms (.val _)
        ·cases hu
    rw [zb2];exact b4.put (fun t e=>zle hd t e) (.im _ _ (.any _))
  ·exact h.elim
 ·exact h.elim
theorem zmb (w:World) (dT sT ty elem:TypeId) (g o dLen dCap:Nat) (a:Addr) (sLen sCap:Nat) (cur:Array Value) (t:TypeId) (cs:List Value) (k:Nat)
  (hu:P.underlying dT=some (.slice elem)) (hs:(P.info? elem).map (·.size)=some k)
  (hg:w.heap[g]?=some (.cells cur t (0,0))) (hn:cs.length=Nat.min sLen dLen*k)
  (hsrc:∀ j v,cs[j]?=some v->w.cell? (a.add j)=some v) (hfit:o+cs.length<=cur.size) (h1:∀ v∈cs,v.oneCell'=true) :
  (Builtin.copy_ #[dT,sT] ty #[.slice (some ⟨g,o,none⟩) dLen dCap,.slice (some a) sLen sCap]).run P w =
   .ok (goInt (Nat.min sLen dLen)) (w.setRow g (cur.toList.take o++cs++cur.toList.drop (o+cs.length)).toArray):=by
 have hl:=run_loadCells_list (P:=P) w a cs hsrc;have a0:=run_storeCells_at P g o t cs 0 cur w hg (by simpa using hfit) h1;cases hq:P.info? elem with
 | none=>simp [hq] at hs
 | some i =>
  have hi:i.size=k:=by simpa [hq] using hs
  rw [hn] at hl;simp [Builtin.copy_,run_underlying hu,Builtin.lenOf,Builtin.firstCells,sizeOf,typeInfo,hq,hi,hl,a0]
theorem aCopy_ok {c:Call} {t t':TypeId} {x y:Operand} (hop:o.op=.call c) (hc:c.callee=.builtin .copy) (ha:c.args.toList=[x,y]) (ht:c.argTypes.toList=[t,t']) (hd:zdh B.n o=true) (h:aCopy P o σ K t x y):∃ fx,K fx∧Eff P B o fx.rd σ fx.wr:=by
 have a4:c.args=#[x,y]:=by rw [<- ybq (xs:=c.args),ha]
 have c8:c.argTypes=#[t,t']:=by rw [<- ybq (xs:=c.argTypes),ht]
 unfold aCopy at h;split at h
 ·rename_i et b g d4 hx;have hu:=zeg d4;split at h
  ·rename_i b0 k es m ss d2 hm hy;obtain ⟨b2,h'⟩:=h.ok;clear h;have c1:=yag b2;subst c1;obtain ⟨⟨hg,hn,c6,a9⟩,h⟩:=h'.out;have h:=h.out;refine ⟨_,h,fun σ' hag a w ⟨ρ,hs⟩ K' Q hK=>?_⟩;obtain ⟨b3,hg',d1,_⟩:=zdx hag;have h1:=za0 hs x;have h2:=za0 hs y;rw [zai (zao b3),hx] at h1;rw [zai (za3 b3)] at h2;have a0:=d1.trans d2;obtain ⟨q,cap,cur,us,e1,e2,e3,e4,e5,e6,e7,e8,e9,a2,a6,a7⟩:=zqy hs a0 hn
   have hv:a.eval x=.slice (some ⟨q,0,none⟩) es.length cap:=by
    generalize a.eval x=v at h1;cases h1 with
    | osl _ _ _ a8 hgg hh=>rw [hh (hg'.trans hg),e1]
   obtain ⟨sb,so,sc,su,f1,f2,f3,f4,f5⟩:∃ (sb so sc:Nat) (su:List Value),a.eval y=.slice (some ⟨sb,so,none⟩) ss.length sc∧su.length=ss.flatten.length∧(∀ u∈su,u.oneCell'=true)∧(∀ (i:Nat) u,su[i]?=some u->w.cell? ⟨sb,so+i,none⟩=some u)∧∀ (i:Nat) u z,su[i]?=some u->ss.flatten[i]?=some z->RepI w (Imm B σ' ρ w) u z:=by
    cases hyy:evA σ y with
    | im z =>
     rw [hyy] at h2 hy;have hy:nz z=.sl ss:=hy;have h2:RepI w (Imm B σ' ρ w) (a.eval y) (.sl ss):=hy ▸ nz_rep h2.im_inv;generalize a.eval y=v at h2;cases h2 with
     | emp A c =>
      cases c6
     | sl b q c k' n' _ us hn hkk hc hs' hS hl hone hu' hr =>
      subst hn;exact ⟨_,_,_,us,rfl,hl,hone,hu',hr⟩
    | _=>rw [hyy] at hy;cases hy
   have a5:su.length=ss.length*k:=by rw [f2,zby a9]
   have c7:us.length=es.length*k:=by rw [a2,zby e8]
   have d3:Nat.min ss.length es.length=min ss.length es.length:=rfl
   have b8:(su.take (es.length*k)).length=Nat.min ss.length es.length*k:=by
    rw [yak,a5,d3,Nat.min_comm (es.length*k)];rcases Nat.le_total ss.length es.length with hh | hh
    ·rw [ycl hh,ycl (ybd _ hh)]
    ·rw [yd7 hh,yd7 (ybd _ hh)]
   have d5:Nat.min ss.length es.length*k<=es.length*k:=ybd _ (Nat.min_le_right _ _);have d6:es.length*k<=cap*k:=ybd _ e3
   have b4:=zmb (P:=P) w t t' o.type et q 0 es.length cap ⟨sb,so,none⟩ ss.length sc cur b0 (su.take (es.length*k)) k hu hm e2 b8 (fun j v hj=>by
    rw [yax] at hj
    split at hj
    ·rw [Addr.add_lit];exact f4 j v hj
    ·cases hj) (by rw [b8];omega) (fun v hv=>f3 v (yaz hv))
   have run:(execOp a.eval o).run P w=.ok (.value (goInt (Nat.min ss.length es.length))) (w.setRow q (cur.toList.take 0++su.take (es.length*k)++cur.toList.drop (0+(su.take (es.length*k)).length)).toArray):=by
    simp only [execOp,hop,resolve,hc,invoke,builtin,Sem.run_bind,Sem.run_pure,Result.andThen_ok,a4,c8,ydg,yan,ycu,hv,f1,b4]
   unfold Oper.wp;rw [run,Oper.upon_value];refine hK _ _ ⟨ρ,?_⟩;rw [List.take_zero,ycb,yae];have b5:(su.take (es.length*k)).length<=es.length*k:=by rw [yak];exact Nat.min_le_left _ _
   have b7:(su.take (es.length*k)).length=min (es.length*k) (ss.length*k):=by rw [yak,a5]
   have b6:(ss.take es.length++es.drop ss.length).flatten=(ss.flatten.take (es.length*k))++es.flatten.drop (ss.length*k):=by
    rw [ybt,zl5 a9,zq2 e8]
   have c0:=hs.turn (w':=w.setRow q (su.take (es.length*k)++cur.toList.drop (su.take (es.length*k)).length).toArray) (k':=.row b0 k (ss.take es.length++es.drop ss.length)) (zld a0) (q:=q) (by rw [e1];rfl)
    ⟨rfl,rfl,rfl,by simp,fun k _ hk=>setRow_other w q k _ (fun e=>hk (by rw [e]))⟩ (fun c hc=>by unfold Owns;rw [a0];exact hc) fun hI=>by
     have b9:(ss.take es.length++es.drop ss.length).length=es.length:=by rw [zkJ,yak,ya0];omega
     refine ⟨su.take (es.length*k)++us.drop (ss.length*k),e7,fun y hy=>?_,by rw [b9];exact e9,?_,?_,fun u hu=>?_,fun n u y hu hy=>?_⟩
     ·rcases yal.1 hy with hy | hy
      ·exact a9 y (yaz hy)
      ·exact e8 y (ya1 hy)
     ·rw [b9];refine ⟨by rw [zkJ,yak,ya0,a5,c7];omega,.inr ⟨q,cap,_,e1,yas _,setRow_heap w q cur _ b0 _ e2,e3,e4,?_,?_⟩⟩
      ·have d0:cur.toList.length=cap*k:=by rw [ybw,e5]
       rw [yby,zkJ,ya0,d0];omega
      ·rw [yc4,ydf,ybh b5,List.take_drop,show (su.take (es.length*k)).length+(es.length*k-(su.take (es.length*k)).length)=es.length*k by omega,e6];congr 1;rcases Nat.le_total (ss.length*k) (es.length*k) with hh | hh
       ·rw [b7,yd7 hh]
       ·rw [b7,ycl hh,yct (by omega),yct (by omega)]
     ·rw [b6,zkJ,zkJ,yak,yak,ya0,ya0,f2,a2]
     ·rcases yal.1 hu with hu | hu
      ·exact f3 u (yaz hu)
      ·exact a6 u (ya1 hu)
     ·rw [b6,yaq,yak,<- f2] at hy;rw [yaq,yak] at hu;split at hu
      ·rename_i a3;rw [if_pos a3,yax] at hy;rw [yax] at hu;split at hu
       ·rename_i c9;rw [if_pos c9] at hy;exact hI _ _ (f5 n u y hu hy)
       ·cases hu
      ·rename_i a3;rw [if_neg a3,ya6] at hy;rw [ya6] at hu;exact hI _ _ (a7 _ u y hu hy)
   rw [zb2];exact c0.put (fun t e=>zle hd t e) (.im _ _ (.any _))
  ·exact h.elim
 ·exact h.elim
end
end
section
section
variable {P:Program} {B:Base} {o:Oper} {σ:St} {K:Fx->Prop}
theorem zp7 {v:Value} {inn:List Value} (h:(fpv v inn).Nodup) {i q:Nat} {u:Value} (hu:inn[i]?=some u) (hq:zbm u=some q):zbm v≠some q∧∀ j u',j≠i->inn[j]?=some u'->zbm u'≠some q:=by
 unfold fpv List.Nodup at h;rw [yea] at h;rw [ybi] at h;obtain ⟨h1,h2⟩:=h;obtain ⟨hi,rfl⟩:=zkI.1 hu;refine ⟨fun e=>h1 _ (yb5 hi) q e q hq rfl,fun j u' hj a3 e=>?_⟩;obtain ⟨a0,rfl⟩:=zkI.1 a3;have h3:=yca.1 h2;rcases ya8 j i with a2 | a4
 ·exact h3 j i a0 hi a2 q e q hq rfl
 ·exact h3 i j hi a0 (by omega) q hq q e rfl
theorem zhv {a:Act} {w:World} {ρ:Ly} (hs:SatR B σ a w ρ) {b k:Nat} {e e':TypeId} {gs:List (List IV)} (hk:σ.kd b=.grid e e' k gs none) :
  ∃ us:List Value,(fpv (ρ b) (ρ.inn b)).Nodup∧(ρ.inn b).length=gs.length∧gs.length<=17592186044416∧w.ownsRow 0 e 1 (ρ b) gs.length us∧(∀ u∈us,u.oneCell'=true)∧us.length=gs.length ∧
   ∀ (i:Nat) u,(ρ.inn b)[i]?=some u->us[i]?=some u∧∃ es,gs[i]?=some [.sl es]∧zjs w (Imm B σ ρ w) u e' k es:=by
 have ho:=hs.obs b;rw [hk] at ho;obtain ⟨h0,h1,us,h2,h3,h4,h5⟩:=ho;refine ⟨us,h0,h1,h2,h3,h4,by rw [h3.1,ycj],fun i u hu=>?_⟩;rcases h5 i u hu with ⟨h6,_⟩ | h6
 ·cases h6
 ·exact h6
theorem zv6 {a:Act} {w:World} {ρ:Ly} (hs:SatR B σ a w ρ) {b k:Nat} {e e':TypeId} {gs:List (List IV)} {hole:Option Nat} (hk:σ.kd b=.grid e e' k gs hole) :
  ∃ us:List Value,(fpv (ρ b) (ρ.inn b)).Nodup∧(ρ.inn b).length=gs.length∧gs.length<=17592186044416∧w.ownsRow 0 e 1 (ρ b) gs.length us∧(∀ u∈us,u.oneCell'=true)∧us.length=gs.length ∧
   ∀ (i:Nat) u,(ρ.inn b)[i]?=some u->(hole=some i∧u=undef)∨(us[i]?=some u∧∃ es,gs[i]?=some [.sl es]∧zjs w (Imm B σ ρ w) u e' k es):=by
 have ho:=hs.obs b;rw [hk] at ho;obtain ⟨h0,h1,us,h2,h3,h4,h5⟩:=ho;exact ⟨us,h0,h1,h2,h3,h4,by rw [h3.1,ycj],h5⟩
theorem inn_at {ρ:Ly} {b n i:Nat} (h:(ρ.inn b).length=n) (hi:i<n):∃ u,(ρ.inn b)[i]?=some u:=⟨_,zkM (by omega)⟩
theorem zjs.form {w:World} {S:Nat->Prop} {v:Value} {e:TypeId} {k:Nat} {es:List (List IV)} (h:zjs w S v e k es) (hn:0<es.length) :
  ∃ (q cap:Nat) (cur:Array Value) (us:List Value),v=.slice (some ⟨q,0,none⟩) es.length cap∧w.heap[q]?=some (.cells cur e (0,0))∧es.length<=cap∧cap<=maxLen∧cur.size=cap*k∧cur.toList.take (es.length*k)=us∧0<k∧(∀ x∈es,x.length=k)∧es.length<=17592186044416∧us.length=es.flatten.length ∧
   (∀ u∈us,u.oneCell'=true)∧(∀ (i:Nat) u x,us[i]?=some u->es.flatten[i]?=some x->RepI w S u x)∧w.ownsRow 0 e k v es.length us:=by
 obtain ⟨us,h1,h2,h3,h4,h5,h6,h7⟩:=h;rcases h4.2 with ⟨_,h0⟩ | ⟨q,cap,cur,e1,_,e3,e4,e5,e6,e7⟩
 ·omega
 ·exact ⟨q,cap,cur,us,e1,e3,e4,e5,e6,e7,h1,h2,h3,h5,h6,h7,h4⟩
theorem zs6 {w:World} {e:TypeId} {k n q cap:Nat} {v:Value} {us:List Value} (h:w.ownsRow 0 e k v n us) (hv:v=.slice (some ⟨q,0,none⟩) n cap) {p:Nat} {u:Value} (hu:us[p]?=some u):w.cell? ⟨q,p,none⟩=some u:=by
 have:=h.cells (g:=q) (by rw [hv];rfl) p u hu
 rwa [addr_add,yae] at this
theorem aIndexG_ok {t:TypeId} {x i:Operand} {b g:Nat} (hop:o.op=.indexAddr t x i) (hx:evA σ x=.osl b g) (hd:zdh B.n o=true) (h:aIndexG P o σ K t x i b g):∃ fx,K fx∧Eff P B o fx.rd σ fx.wr:=by
 unfold aIndexG at h;split at h
 ·rename_i kk n et e e' k' gs hole hi a6 a8;have hu:=zeg a6;split at h
  ·rename_i m hm;obtain ⟨a3,h'⟩:=h.ok;clear h;have a3:=yag a3;subst a3;obtain ⟨⟨h0,hg,b0⟩,h⟩:=h'.out;refine ⟨_,h,Eff.pure hd fun σ' hag a w ρ hs=>?_⟩;obtain ⟨a4,hg',a7,_⟩:=zdx hag;have h1:=za0 hs x;have h2:=za0 hs i;rw [zai (zao a4),hx] at h1;rw [zai (za3 a4)] at h2;have hn:=zcy hi h2;obtain ⟨us,_,_,_,a5,_⟩:=zv6 hs (a7.trans a8);obtain ⟨q,a9,a0⟩:=World.ownsRow.form a5 (by omega);generalize hv:a.eval x=v at h1;cases h1 with
   | osl _ _ _ a2 hgg hh =>
    rw [hh (hg'.trans hg),a0.1] at hv;have hz:=zie hm w;have h3:0<=n∧n<gs.length:=⟨h0,by omega⟩;refine ⟨.pointer (some ⟨q,n.toNat*1,none⟩),?_,.elt _ b g 1 n.toNat 0 rfl hgg fun _=>⟨q,0,_,a9,a0.1,by rw [ybl,yae]⟩⟩;simp only [execOp,hop,hv,hn,Instr.indexAt,asIntOf,Sem.run_bind,Sem.run_pure,Result.andThen_ok,run_underlying hu,if_pos h3,hz,addr_add,yae]
  ·exact h.elim
 ·exact h.elim
theorem zs2 {σ':St} {l:List Loc} {b:Nat} (h:∀ x∈l++[.ign b,.knd b],σ' x=σ x):(∀ x∈l,σ' x=σ x)∧σ'.ig b=σ.ig b∧σ'.kd b=σ.kd b :=
 ⟨zao h,zjf (za3 h _ (by simp)),zpf (za3 h _ (by simp))⟩
theorem aIndexS_ok {t:TypeId} {x i:Operand} {b g j:Nat} (hop:o.op=.indexAddr t x i) (hx:evA σ x=.sub b g j) (hd:zdh B.n o=true) (h:aIndexS P o σ K t x i b g j):∃ fx,K fx∧Eff P B o fx.rd σ fx.wr:=by
 unfold aIndexS at h;split at h
 ·rename_i kk n et e e' k gs hi b4 b2;have hu:=zeg b4;split at h
  ·rename_i m hm;obtain ⟨a4,h'⟩:=h.ok;clear h;have a4:=yag a4;subst a4;obtain ⟨es,⟨h0,hg,a8,b5⟩,h⟩:=h';refine ⟨_,h,Eff.pure hd fun σ' hag a w ρ hs=>?_⟩;obtain ⟨a5,hg',a7⟩:=zs2 hag;have h1:=za0 hs x;have h2:=za0 hs i;rw [zai (zao a5),hx] at h1;rw [zai (za3 a5)] at h2;have hn:=zcy hi h2;obtain ⟨us,_,_,_,_,_,_,b3⟩:=zhv hs (a7.trans b2);generalize hv:a.eval x=v at h1;cases h1 with
   | sub _ _ _ _ a2 hgg hh =>
    have b0:ρ.ig b=g:=by rw [hs.igs,hg',hg]
    have a3:=hh b0;obtain ⟨_,b6,a0,a6⟩:=b3 j v a3;rw [a8] at a0;injection a0 with a0
    injection a0 with a0
    injection a0 with a0
    subst a0;obtain ⟨q,a9,cur,b7,e1,_⟩:=a6.form (by omega);have hz:=zie hm w;have h3:0<=n∧n<es.length:=⟨h0,by omega⟩;refine ⟨.pointer (some ⟨q,n.toNat*m,none⟩),?_,.elt2 _ b g j m n.toNat 0 rfl hgg fun _=>⟨q,_,a9,by rw [a3,e1],by rw [ybl]⟩⟩;rw [e1] at hv;simp only [execOp,hop,hv,hn,Instr.indexAt,asIntOf,Sem.run_bind,Sem.run_pure,Result.andThen_ok,run_underlying hu,if_pos h3,hz,addr_add,yae]
  ·exact h.elim
 ·exact h.elim
theorem aLoadG_ok {t:TypeId} {p:Operand} {b g k i j:Nat} (hop:o.op=.load t p) (hp:evA σ p=.elt b g k i j) (hd:zdh B.n o=true) (h:aLoadG P o σ K t p b g k i j):∃ fx,K fx∧Eff P B o fx.rd σ fx.wr:=by
 have run:∀ (a:Act) w v,(Instr.loadAt t (a.eval p)).run P w=.ok v w->(execOp a.eval o).run P w=.ok (.value v) w:=fun a w v hv=>by simp [execOp,hop,hv]
 unfold aLoadG at h;split at h
 ·rename_i e e' k' gs a5 b5;obtain ⟨a0,h'⟩:=h.ok;clear h;rw [yar] at a0;have b9:=yag a0.1;have b3:=yag a0.2;subst b9 b3;obtain ⟨⟨hg,b0⟩,h⟩:=h'.out;refine ⟨_,h,Eff.pure hd fun σ' hag a w ρ hs=>?_⟩;have a6:∀ x∈opd p++(.gen b::.knd b::[.ign b]),σ' x=σ x:=fun x hx=>hag x (by simpa using hx);obtain ⟨a9,hg',b2,b7⟩:=zdx a6;have b4:σ'.ig b=σ.ig b:=zjf (b7 (.ign b) (by simp));have h1:=za0 hs p;rw [zai a9,hp] at h1;obtain ⟨us,_,b8,_,a4,a7,_,b6⟩:=zhv hs (b2.trans b5);obtain ⟨u,hu⟩:=inn_at b8 b0;obtain ⟨a8,_⟩:=b6 i u hu;generalize hv:a.eval p=v at h1;cases h1 with
  | elt _ _ _ _ _ _ a2 hgg hh =>
   obtain ⟨q,z,n,c,e1,e2⟩:=hh (hg'.trans hg);obtain ⟨q',c0,a3⟩:=World.ownsRow.form a4 (by omega);rw [a3.1] at e1;injection e1 with e1 _ _
   injection e1 with e1
   injection e1 with e1 e3
   subst e1 e3;rw [e2,ycj,ybl,yae] at hv;refine ⟨u,run a w u (by rw [hv];exact zop a5 (zs6 a4 a3.1 a8)),.sub _ b _ i (a7 u (zkH a8)) ?_ fun _=>hu⟩;rw [hs.igs,b4];exact yam _
 ·exact h.elim
theorem aLoadS_ok {t:TypeId} {p:Operand} {b g i k j c:Nat} (hop:o.op=.load t p) (hp:evA σ p=.elt2 b g i k j c) (hd:zdh B.n o=true) (h:aLoadS P o σ K t p b g i k j c):∃ fx,K fx∧Eff P B o fx.rd σ fx.wr:=by
 have run:∀ (a:Act) w v,(Instr.loadAt t (a.eval p)).run P w=.ok v w->(execOp a.eval o).run P w=.ok (.value v) w:=fun a w v hv=>by simp [execOp,hop,hv]
 unfold aLoadS at h;split at h
 ·rename_i e e' k' gs a3 b2;obtain ⟨a5,h'⟩:=h.ok;clear h;have c0:=yag a5;subst c0;obtain ⟨es,el,x,⟨hg,b9,he,hx⟩,h⟩:=h';refine ⟨_,h,Eff.pure hd fun σ' hag a w ρ hs=>?_⟩;obtain ⟨b3,hg',b7⟩:=zs2 hag;have h1:=za0 hs p;rw [zai b3,hp] at h1;obtain ⟨us,_,_,_,_,_,_,b5⟩:=zhv hs (b7.trans b2);generalize hv:a.eval p=v at h1;cases h1 with
  | elt2 _ _ _ _ _ _ _ a2 hgg hh =>
   have b0:ρ.ig b=g:=by rw [hs.igs,hg',hg]
   obtain ⟨q,n,cp,a4,e2⟩:=hh b0;obtain ⟨_,c8,a0,a8⟩:=b5 i _ a4;rw [b9] at a0;injection a0 with a0
   injection a0 with a0
   injection a0 with a0
   subst a0;have c7:=(zkI.1 he).1;obtain ⟨q',d1,cur,b8,e1,_,_,_,_,_,c9,a6,_,b6,d0,c6,a7⟩:=a8.form (by omega);have a9:=e1;injection e1 with e1 _ _
   injection e1 with e1
   injection e1 with e1
   subst e1;have b4:c<k':=by rw [<- a6 el (zkH he)];exact (zkI.1 hx).1
   have hf:=flat_get a6 he b4;rw [hx] at hf;obtain ⟨u,hu⟩:∃ u,b8[j*k'+c]?=some u:=⟨_,zkM (by rw [b6];exact (zkI.1 hf).1)⟩;exact ⟨u,run a w u (by rw [hv,e2];exact zop a3 (zs6 a7 a9 hu)),.im _ _ (c6 _ u x hu hf)⟩
 ·exact h.elim
theorem aLenG_ok {c:Call} {t:TypeId} {ts:List TypeId} {x:Operand} {b g:Nat} (hop:o.op=.call c) (hc:c.callee=.builtin .len) (ha:c.args.toList=[x]) (ht:c.argTypes.toList=t::ts) {e:TypeId} (he:zhs P t=some e) (hx:evA σ x=.osl b g) (hd:zdh B.n o=true) (h:aLenG o σ K x b g):∃ fx,K fx∧Eff P B o fx.rd σ fx.wr:=by
 have a3:c.argTypes[0]?=some t:=by rw [<- yao,ht];rfl
 have a7:∀ a:Act,(c.args.map a.eval)[0]?=some (a.eval x):=fun a=>by rw [<- yao,ybx,ha];rfl
 have hu:=zeg he
 have run:∀ (a:Act) w A n cp,a.eval x=.slice A n cp->(execOp a.eval o).run P w=.ok (.value (.int .i64 n)) w:=fun a w A n cp hv=>by
  simp only [execOp,hop,resolve,hc,invoke,builtin,Builtin.len_,a3,a7,Sem.run_bind,Sem.run_pure,Result.andThen_ok,run_underlying hu,hv,goInt]
 unfold aLenG at h;split at h
 ·rename_i e1 e2 k gs a5;obtain ⟨hg,h⟩:=h.out;have h:=h.out;refine ⟨_,h,Eff.pure hd fun σ' hag a w ρ hs=>?_⟩;obtain ⟨a6,hg',a4,_⟩:=zdx hag;have h1:=za0 hs x;rw [zai a6,hx] at h1;obtain ⟨us,_,_,_,a0,_⟩:=zhv hs (a4.trans a5)
  obtain ⟨A,cp,hρ⟩:∃ A c,ρ b=.slice A gs.length c:=by
   rcases a0.2 with ⟨e,h0⟩ | ⟨g,a8,cur,e,_⟩
   ·exact ⟨none,0,by rw [e,h0]⟩
   ·exact ⟨_,a8,e⟩
  generalize hv:a.eval x=v at h1;cases h1 with
  | osl _ _ _ a2 hgg hh =>
   rw [hh (hg'.trans hg),hρ] at hv;exact ⟨_,run a w _ _ _ hv,zdt _⟩
 ·exact h.elim
theorem aLenS_ok {c:Call} {t:TypeId} {ts:List TypeId} {x:Operand} {b g i:Nat} (hop:o.op=.call c) (hc:c.callee=.builtin .len) (ha:c.args.toList=[x]) (ht:c.argTypes.toList=t::ts) {e:TypeId} (he:zhs P t=some e) (hx:evA σ x=.sub b g i) (hd:zdh B.n o=true) (h:aLenS o σ K x b g i):∃ fx,K fx∧Eff P B o fx.rd σ fx.wr:=by
 have a9:c.argTypes[0]?=some t:=by rw [<- yao,ht];rfl
 have b3:∀ a:Act,(c.args.map a.eval)[0]?=some (a.eval x):=fun a=>by rw [<- yao,ybx,ha];rfl
 have hu:=zeg he
 have run:∀ (a:Act) w A n cp,a.eval x=.slice A n cp->(execOp a.eval o).run P w=.ok (.value (.int .i64 n)) w:=fun a w A n cp hv=>by
  simp only [execOp,hop,resolve,hc,invoke,builtin,Builtin.len_,a9,b3,Sem.run_bind,Sem.run_pure,Result.andThen_ok,run_underlying hu,hv,goInt]
 unfold aLenS at h;split at h
 ·rename_i e1 e2 k gs a6;obtain ⟨es,⟨hg,b2⟩,h⟩:=h;have h:=h.out;refine ⟨_,h,Eff.pure hd fun σ' hag a w ρ hs=>?_⟩;obtain ⟨a7,hg',b0⟩:=zs2 hag;have h1:=za0 hs x;rw [zai a7,hx] at h1;obtain ⟨us,_,_,_,_,_,_,a8⟩:=zhv hs (b0.trans a6);generalize hv:a.eval x=v at h1;cases h1 with
  | sub _ _ _ _ a2 hgg hh =>
   have a5:ρ.ig b=g:=by rw [hs.igs,hg',hg]
   obtain ⟨_,b5,a0,a4⟩:=a8 i v (hh a5);rw [b2] at a0;injection a0 with a0
   injection a0 with a0
   injection a0 with a0
   subst a0;obtain ⟨b6,_,_,_,a3,_⟩:=a4
   obtain ⟨A,cp,hρ⟩:∃ A c,v=.slice A es.length c:=by
    rcases a3.2 with ⟨e,h0⟩ | ⟨g,b4,cur,e,_⟩
    ·exact ⟨none,0,by rw [e,h0]⟩
    ·exact ⟨_,b4,e⟩
   rw [hρ] at hv;exact ⟨_,run a w _ _ _ hv,zdt _⟩
 ·exact h.elim
theorem SatR.turnA {a:Act} {w w':World} {ρ:Ly} (h:SatR B σ a w ρ) {b q:Nat} {k':Kd} (hq:Owns σ ρ b q) (hg:w.grownBy w' (some q)) (hk':∀ c,c∈fpk (ρ b) (ρ.inn b) k'->Owns σ ρ b c)
  (hob:(∀ v x,RepI w (Imm B σ ρ w) v x->RepI w' (Imm B (upd σ (.knd b) (.kd k')) ρ w') v x)->zne B (upd σ (.knd b) (.kd k')) ρ w' b k'):SatR B (upd σ (.knd b) (.kd k')) a w' ρ:=by
 refine (h.step (fun o=>o=b) (fun t=>ziz σ b t _) (fun o hd=>⟨by rw [zfm,if_neg hd],zgi σ b o _,fun i=>zj3 σ b o i _,rfl,rfl,rfl⟩) (fun o _=>⟨⟨by rw [zgi];exact yam _,fun _=>rfl⟩,yam _,fun _=>rfl⟩)
  (fun o=>by rw [zj2];exact h.igs o) ⟨hg.os,hg.tape,hg.output,hg.size,fun c hc hn=>hg.block c hc fun e=>?_⟩ (fun o c hd ho=>?_) (fun o p c hd hp _ _=>hd.trans hp.symm) fun hI hA o hd=>?_).1
 ·injection e with e
  subst e;exact hn ⟨b,rfl,hq⟩
 ·subst hd;unfold Owns at ho;rw [zfm,if_pos rfl] at ho;exact .inr ⟨o,rfl,hk' c ho⟩
 ·subst hd;rw [zfm,if_pos rfl];exact hob hI
theorem aStoreS_ok {t:TypeId} {p x:Operand} {b g i k j c:Nat} (hop:o.op=.store t p x) (hp:evA σ p=.elt2 b g i k j c) (hd:zdh B.n o=true) (h:aStoreS P o σ K t p x b g i k j c):∃ fx,K fx∧Eff P B o fx.rd σ fx.wr:=by
 unfold aStoreS at h;split at h
 ·rename_i m cs e e' k' gs hm d3 b6;split at h
  ·rename_i xs g5;obtain ⟨a9,h'⟩:=h.ok;clear h;simp only [yar] at a9;obtain ⟨⟨⟨c1,c2⟩,c3⟩,c4⟩:=a9;have d6:cs.length=m:=by simpa using c1
   have h8:=ze7 c2;have i0:=zhz c3;have e9:k'=k:=by simpa using c4
   subst e9;obtain ⟨es,el,⟨hg,f5,a7⟩,h⟩:=h';have h:=h.out;refine ⟨_,h,fun σ' hag a w ⟨ρ,hs⟩ K' Q hK=>?_⟩;obtain ⟨d4,hg',b9⟩:=zs2 hag;have h1:=za0 hs p;have h2:=za0 hs x;rw [zai (zao d4),hp] at h1;rw [zai (za3 d4)] at h2;have hr:=zja d3 h2;have a8:=zjc d3 h2;have c6:=zwf hs (bs':=[]) (by simp) hr (zom g5 fun l hl=>by simp [frd] at hl) (by simp);obtain ⟨us,d2,e4,b7,d1,c0,h6,e0⟩:=zhv hs (b9.trans b6);have f7:ρ.ig b=g:=by rw [hs.igs,hg',hg]
   obtain ⟨q,cap,u0,a0,g4,a6⟩:∃ q cap u0,(ρ.inn b)[i]?=some u0∧a.eval p=.pointer (some ⟨q,j*k'+c,none⟩)∧∃ n,u0=.slice (some ⟨q,0,none⟩) n cap:=by
    generalize a.eval p=v at h1;cases h1 with
    | elt2 _ _ _ _ _ _ _ a2 hgg hh =>
     obtain ⟨q,n,cp,a0,e2⟩:=hh f7;exact ⟨q,cp,_,a0,e2,n,rfl⟩
   obtain ⟨h7,h9,a3,d5⟩:=e0 i u0 a0;rw [f5] at a3;injection a3 with a3
   injection a3 with a3
   injection a3 with a3
   subst a3;have f3:=(zkI.1 a7).1;obtain ⟨q',b2,cur,e6,e1,e3,d8,d9,c9,f9,f4,a4,d7,b8,c7,f8,g6⟩:=d5.form (by omega);obtain ⟨n,a6⟩:=a6
   have h0:q'=q:=by
    rw [a6] at e1;injection e1 with e1 _ _
    injection e1 with e1
    injection e1 with e1
    exact e1.symm
   subst h0;have b3:(a.eval x).cells.toList.length=m:=by rw [hr.1,d6]
   have h5:xs.length=m:=by rw [<- c6.1,b3]
   have d0:(j+1)*k'<=es.length*k':=ybd _ f3;have g7:es.length*k'<=b2*k':=ybd _ d8;rw [Nat.add_mul,yed] at d0;have a5:=run_storeCells_at (P:=P) q' (j*k'+c) e' (a.eval x).cells.toList 0 cur w e3 (by omega) a8;simp only [ybl] at a5;have hz:=zie hm w;have f6:(a.eval x).cells.size=m:=by rw [<- b3];simp
   have run:(execOp a.eval o).run P w=.ok .skip (w.setRow q' (splice cur.toList (j*k'+c) (a.eval x).cells.toList).toArray):=by
    simp only [execOp,hop,Instr.storeAt,g4,Instr.sureAddr,storeVar,Sem.run_bind,Sem.run_pure,Result.andThen_ok,hz,f6];rw [if_neg (by simp),a5];rfl
   unfold Oper.wp;rw [run,Oper.upon_skip];refine hK _ _ ⟨ρ,?_⟩;have b5:e6.length=es.length*k':=by rw [b8,zby a4]
   have c8:el.length=k':=a4 el (zkH a7);have b0:zbm u0=some q':=by rw [a6];rfl
   obtain ⟨e7,g9⟩:=zp7 d2 a0 b0;have e5:∀ r,r≠q'->(w.setRow q' (splice cur.toList (j*k'+c) (a.eval x).cells.toList).toArray).heap[r]?=w.heap[r]?:=fun r hr=>setRow_other w q' r _ hr
   have e8:=hs.turnA (w':=w.setRow q' (splice cur.toList (j*k'+c) (a.eval x).cells.toList).toArray) (b:=b) (q:=q') (k':=.grid e e' k' (gs.set i [.sl (es.set j (splice el c xs))]) none)
    (by unfold Owns;rw [b9.trans b6];exact fpk_inn a0 b0)
    ⟨rfl,rfl,rfl,by simp,fun k _ hk=>setRow_other w q' k _ (fun e=>hk (by rw [e]))⟩ (fun r hr=>by unfold Owns;rw [b9.trans b6];exact hr) fun hI=>by
     refine ⟨d2,by rw [ybu];exact e4,us,by rw [ybu];exact b7,?_,c0,fun i' u hu=>.inr ?_⟩
     ·rw [ybu];exact zjy d1 fun r hr=>e5 r fun e=>e7 (by rw [<- e];exact hr)
     ·obtain ⟨g1,g8,g2,g3⟩:=e0 i' u hu;refine ⟨g1,?_⟩;by_cases b4:i'=i
      ·subst b4;rw [a0] at hu;injection hu with hu
       subst hu;refine ⟨es.set j (splice el c xs),by rw [ycg (by rw [<- e4];exact (zkI.1 a0).1)],splice e6 (j*k'+c) (a.eval x).cells.toList,f4,fun y hy=>?_,by rw [ybu];exact d7,?_,?_,fun u hu=>?_,fun n u y hu hy=>?_⟩
       ·rcases ych hy with hy | hy
        ·exact a4 y hy
        ·rw [hy,zd7 _ _ _ (by omega),c8]
       ·rw [ybu];refine ⟨by rw [zd7 _ _ _ (by omega),b5],.inr ⟨q',b2,_,e1,yas _,setRow_heap w q' cur _ e' _ e3,d8,d9,?_,?_⟩⟩
        ·rw [yby,zd7 _ _ _ (by simp;omega)];simpa using c9
        ·rw [yc4,zmz _ _ _ _ (by omega) (by simp;omega),f9]
       ·rw [zqn a4 a7 (by omega),zd7 _ _ _ (by omega),zd7 _ _ _ (by omega),b8]
       ·unfold splice at hu;rcases yal.1 hu with hu | hu
        ·rcases yal.1 hu with hu | hu
         ·exact c7 u (yaz hu)
         ·exact a8 u hu
        ·exact c7 u (ya1 hu)
       ·rw [zqn a4 a7 (by omega)] at hy;rcases zts b8 (by rw [b3,h5]) (by omega) hu hy with ⟨n',h3,h4⟩ | ⟨n',h3,h4⟩
        ·exact hI _ _ (f8 n' u y h3 h4)
        ·exact hI _ _ (c6.2 n' u y h3 h4)
      ·exact ⟨g8,by rw [yb1 (fun e=>b4 e.symm)];exact g2,g3.mono (fun r hr=>e5 r fun e=>g9 i' u b4 hu (by rw [<- e];exact hr)) hI⟩
   rw [zb2];exact e8.put (zle hd) (zdt _)
  ·exact h.elim
 ·exact h.elim
theorem fpv_set {v x:Value} {inn:List Value} {i:Nat} (h:(fpv v inn).Nodup) (hx:∀ q,zbm x=some q->q∉fpv v inn):(fpv v (inn.set i x)).Nodup:=by
 have hm:∀ u q,u=v∨u∈inn->zbm u=some q->q∈fpv v inn:=fun u q hu hq=>ybo.2 ⟨u,by rcases hu with rfl | hu<;>simp [*],hq⟩
 unfold fpv List.Nodup at h ⊢;rw [yea,ybi] at h ⊢;obtain ⟨h1,h2⟩:=h;refine ⟨fun a' a2 c hc c' a0 e=>?_,?_⟩
 ·rcases ych a2 with h3 | h3
  ·exact h1 a' h3 c hc c' a0 e
  ·subst h3 e;exact hx c a0 (hm v c (.inl rfl) hc)
 ·rw [yca] at h2 ⊢;intro j k hj hk a3 c hc c' a0 e;rw [ybu] at hj hk;rw [List.getElem_set] at hc a0;subst e;split at hc
  ·split at a0
   ·omega
   ·exact hx c hc (hm _ c (.inr (yb5 hk)) a0)
  ·split at a0
   ·exact hx c a0 (hm _ c (.inr (yb5 hj)) hc)
   ·exact h2 j k hj hk a3 c hc c a0 rfl
theorem splice_one {α:Type} {l:List α} {i:Nat} (h:i<l.length) (v:α):splice l i [v]=l.set i v:=by
 rw [List.set_eq_take_append_cons_drop,if_pos h];unfold splice;simp
theorem aStoreG_ok {t:TypeId} {p x:Operand} {b g k i j:Nat} (hop:o.op=.store t p x) (hp:evA σ p=.elt b g k i j) (hd:zdh B.n o=true) (h:aStoreG P o σ K t p x b g k i j):∃ fx,K fx∧Eff P B o fx.rd σ fx.wr:=by
 unfold aStoreG at h;split at h
 ·rename_i m r gr e e' k' gs hole hm hx a6;split at h
  ·rename_i e2 k2 es d3;obtain ⟨a9,h'⟩:=h.ok;clear h;simp only [yar] at a9;obtain ⟨⟨⟨⟨⟨c1,c2⟩,c3⟩,c4⟩,c5⟩,c6⟩:=a9;have c1:=yag c1;have c2:=yag c2;have c3:=yag c3;have c4:=yag c4;have c5:=yag c5;have a4:r≠b:=fun e=>by rw [e] at c6;simp at c6
   subst c1 c2 c3 c4 c5;obtain ⟨⟨hg,f8,g8,c7⟩,h⟩:=h'.out;have h:=h.out;refine ⟨_,h,fun σ' hag a w ⟨ρ,hs⟩ K' Q hK=>?_⟩;have d0:∀ x_1∈(opd p++opd x)++(.gen b::.knd b::[.ign b,.gen r,.knd r]),σ' x_1=σ x_1:=fun y hy=>hag y (by simpa using hy);obtain ⟨d6,hg',a7,b7⟩:=zdx d0;have e6:σ'.ig b=σ.ig b:=zjf (b7 (.ign b) (by simp));have c8:σ'.gn r=σ.gn r:=zd6 (b7 (.gen r) (by simp));have b0:σ'.kd r=σ.kd r:=zpf (b7 (.knd r) (by simp));have h1:=za0 hs p;have h2:=za0 hs x;rw [zai (zao d6),hp] at h1;rw [zai (za3 d6),hx] at h2;obtain ⟨us,d2,g6,b6,c9,b9,d1,g5⟩:=zv6 hs (a7.trans a6);have c0:=hs.obs r;rw [b0.trans d3] at c0;have d7:zjs w (Imm B σ' ρ w) (ρ r) e2 k2 es:=c0;obtain ⟨g9,_,_,_,r4,_⟩:=c0;have a2:(ρ r).oneCell'=true:=row_one r4;have e4:(ρ r).cells=#[ρ r]:=by revert a2;cases ρ r<;>simp [Value.oneCell',Value.cells]
   rcases c9.2 with ⟨_,hn⟩ | ⟨q,g4,cur,e1,_,e3,f9,d8,a8,d4⟩
   ·omega
   have e9:a.eval p=.pointer (some ⟨q,i,none⟩):=by
    generalize a.eval p=v at h1;cases h1 with
    | elt _ _ _ _ _ _ _ _ hh =>
     obtain ⟨b',z,n,c,f1,f2⟩:=hh (hg'.trans hg);rw [e1] at f1;injection f1 with f1
     injection f1 with f1
     injection f1 with f1 f3
     rw [f2,f1,<- f3,ycj,ybl,yae]
   have f4:a.eval x=ρ r:=by
    generalize a.eval x=v at h2;cases h2 with
    | osl _ _ _ _ _ hh=>exact hh (c8.trans f8)
   rw [ycj] at a8 d4;have a5:=run_storeCells_at (P:=P) q i e [ρ r] 0 cur w e3 (by simp;omega) (by simpa using a2);simp only [ybl] at a5;have hz:=zie hm w
   have run:(execOp a.eval o).run P w=.ok .skip (w.setRow q (splice cur.toList i [ρ r]).toArray):=by
    simp only [execOp,hop,Instr.storeAt,e9,f4,Instr.sureAddr,storeVar,Sem.run_bind,Sem.run_pure,Result.andThen_ok,hz,e4];rw [if_neg (by simp),a5];rfl
   unfold Oper.wp;rw [run,Oper.upon_skip]
   let ρ2:Ly:=⟨ρ.root,fun o=>if o=b then (ρ.inn b).set i (ρ r) else ρ.inn o,fun o=>if o=b then ρ.ig b+1 else ρ.ig o⟩
   let τ:St:=app σ' [(.knd r,.kd .dead),(.ign b,.n (σ.ig b+1)),(.knd b,.kd (.grid e e2 k2 (gs.set i [.sl es]) none))]
   have a0:∀ o,τ.kd o=if o=b then .grid e e2 k2 (gs.set i [.sl es]) none else if o=r then .dead else σ'.kd o:=fun o=>by
    show (app σ' _).kd o=_;simp only [zb2,zex];rw [zfm,kd_ign,zfm]
   have d5:∀ o,τ.gn o=σ'.gn o:=fun o=>by
    show (app σ' _).gn o=_;simp only [zb2,zex];rw [zgi,gn_ign,zgi]
   have g7:∀ o,τ.ig o=if o=b then σ.ig b+1 else σ'.ig o:=fun o=>by
    show (app σ' _).ig o=_;simp only [zb2,zex];rw [zj2,ig_ign,zj2]
   have e7:∀ t,τ.av t=σ'.av t:=fun t=>by
    show (app σ' _).av t=_;simp only [zb2,zex];rw [ziz,av_ign,ziz]
   have e5:∀ o i,τ.ce o i=σ'.ce o i:=fun o i=>by
    show (app σ' _).ce o i=_;simp only [zb2,zex];rw [zj3,ce_ign,zj3]
   have b4:Owns σ' ρ b q:=.root (by unfold live;rw [a7.trans a6];exact fun z=>by cases z) (by rw [e1];rfl);have b5:live σ' r:=zld (b0.trans d3);have f7:∀ c,zbm (ρ r)=some c->c≠q:=fun c hc e=>a4 (hs.dis r b c (.root b5 hc) (e ▸ b4));have b8:∀ c,c≠q->(w.setRow q (splice cur.toList i [ρ r]).toArray).heap[c]?=w.heap[c]?:=fun c hc=>setRow_other w q c _ hc;have d9:∀ (j:Nat) u,(ρ.inn b)[j]?=some u->∀ c,zbm u=some c->c≠q:=fun j u hu c hc e=>(zp7 d2 hu hc).1 (by rw [e1,e];rfl)
   obtain ⟨e0,_⟩:=hs.step (σ':=τ) (ρ':=ρ2) (w':=w.setRow q (splice cur.toList i [ρ r]).toArray) (fun o=>o=b∨o=r) e7
    (fun o ho=>⟨by rw [a0,if_neg (fun e=>ho (.inl e)),if_neg (fun e=>ho (.inr e))],d5 o,e5 o,rfl,by simp only [ρ2];rw [if_neg (fun e=>ho (.inl e))],by simp only [ρ2];rw [if_neg (fun e=>ho (.inl e))]⟩)
    (fun o ho=>by
     refine ⟨⟨by rw [d5];exact yam _,fun _=>rfl⟩,?_,fun e=>?_⟩
     ·show ρ.ig o<=(if o=b then ρ.ig b+1 else ρ.ig o)
      split
      ·rename_i e;rw [e];omega
      ·exact yam _
     ·have e:(if o=b then ρ.ig b+1 else ρ.ig o)=ρ.ig o:=e
      show (if o=b then (ρ.inn b).set i (ρ r) else ρ.inn o)=_
      split at e
      ·rename_i e2;rw [e2] at e;omega
      ·rename_i e2;rw [if_neg e2])
    (fun o=>by
     show (if o=b then ρ.ig b+1 else ρ.ig o)=_
     rw [g7]
     split
     ·rw [hs.igs,e6]
     ·exact hs.igs o)
    ⟨rfl,rfl,rfl,by simp,fun c hc hn=>b8 c fun e=>hn ⟨b,.inl rfl,e ▸ b4⟩⟩
    (fun o c ho hc=>by
     rcases ho with rfl | rfl
     ·unfold Owns at hc
      rw [a0,if_pos rfl] at hc
      have hc:c∈fpv (ρ o) (if o=o then (ρ.inn o).set i (ρ r) else ρ.inn o):=hc
      rw [if_pos rfl] at hc
      obtain ⟨u,hu,b3⟩:=ybo.1 hc
      rcases yau.1 hu with rfl | hu
      ·exact .inr ⟨o,.inl rfl,.root b4.lv b3⟩
      ·rcases ych hu with hu | rfl
       ·obtain ⟨n,hn⟩:=ycd hu
        exact .inr ⟨o,.inl rfl,by unfold Owns;rw [a7.trans a6];exact fpk_inn hn b3⟩
       ·exact .inr ⟨r,.inr rfl,.root b5 b3⟩
     ·exact absurd (by rw [a0,if_neg a4,if_pos rfl]) hc.lv)
    (fun o p c ho hp e8 f6=>by
     rcases ho with rfl | rfl
     ·rcases hp with rfl | rfl
      ·rfl
      ·exact absurd (by rw [a0,if_neg a4,if_pos rfl]) f6.lv
     ·exact absurd (by rw [a0,if_neg a4,if_pos rfl]) e8.lv)
    fun hI _ o ho=>by
     by_cases b2:o=b
     ·subst b2;rw [a0,if_pos rfl];show zlj _ _ (ρ o) (if o=o then (ρ.inn o).set i (ρ r) else ρ.inn o) _ _ _ _ _;rw [if_pos rfl];refine ⟨fpv_set d2 fun c hc hm=>?_,by rw [ybu,ybu];exact g6,us.set i (ρ r),by rw [ybu];exact b6,?_,fun u hu=>?_,fun i' u hu=>.inr ?_⟩
      ·exact a4 (hs.dis r o c (.root b5 hc) (by unfold Owns;rw [a7.trans a6];exact hm))
      ·rw [ybu];refine ⟨by rw [ybu,d1,ycj],.inr ⟨q,g4,_,e1,yas _,setRow_heap w q cur _ e _ e3,f9,d8,?_,?_⟩⟩
       ·rw [yby,zd7 _ _ _ (by simp;omega),ycj];simpa using a8
       ·rw [yc4,ycj,zmz _ _ _ _ (by simp;omega) (by simp;omega),d4,splice_one (by omega)]
      ·rcases ych hu with hu | rfl
       ·exact b9 u hu
       ·exact a2
      ·by_cases a3:i'=i
       ·subst a3;rw [ycg (by omega)] at hu;injection hu with hu
        subst hu;exact ⟨ycg (by omega),es,ycg (by omega),d7.mono (fun c hc=>b8 c (f7 c hc)) hI⟩
       ·rw [yb1 (fun e=>a3 e.symm)] at hu
        obtain ⟨g1,f5,g2,g3⟩:=(g5 i' u hu).resolve_left fun hh=>by
         rw [hh.1] at c7;exact a3 c7
        exact ⟨by rw [yb1 (fun e=>a3 e.symm)];exact g1,f5,by rw [yb1 (fun e=>a3 e.symm)];exact g2,g3.mono (fun c hc=>b8 c (d9 i' u hu c hc)) hI⟩
     ·rw [a0,if_neg b2,if_pos (ho.resolve_left b2)];trivial
   refine hK _ _ ⟨ρ2,?_⟩;show SatR B (app σ' ([(.knd r,.kd .dead),(.ign b,.n (σ.ig b+1)),(.knd b,.kd (.grid e e2 k2 (gs.set i [.sl es]) none))]++wrT o.dst (.im (.val undef)))) _ _ _;rw [zau];exact e0.put (zle hd) (zdt _)
  ·exact h.elim
 ·exact h.elim
theorem SatR.takeout {a:Act} {w:World} {ρ:Ly} (hs:SatR B σ a w ρ) {b d i k:Nat} {e e':TypeId} {gs es:List (List IV)} {u:Value} (hkd:σ.kd b=.grid e e' k gs none) (hdb:d≠b) (hu:(ρ.inn b)[i]?=some u) (hes:gs[i]?=some [.sl es]) :
  let ρ2:Ly:=⟨fun o=>if o=d then u else ρ o,fun o=>if o=b then (ρ.inn b).set i undef else ρ.inn o,fun o=>if o=b then ρ.ig b+1 else ρ.ig o⟩
  SatR B (app σ (zim σ b d i e e' k gs es)) a w ρ2∧∀ v x,RepI w (Imm B σ ρ w) v x->RepI w (Imm B (app σ (zim σ b d i e e' k gs es)) ρ2 w) v x:=by
 intro ρ2;obtain ⟨us,b4,d1,b0,b9,b3,d6,b8⟩:=zhv hs hkd;obtain ⟨d7,b2,a6,b6⟩:=b8 i u hu;have d0:b2=es:=by rw [hes] at a6;simpa using a6.symm
 subst d0
 let τ:St:=app σ (zim σ b d i e e' k gs b2)
 have a3:∀ o,τ.kd o=if o=d then .row e' k b2 else if o=b then .grid e e' k gs (some i) else σ.kd o:=fun o=>by
  show (app σ _).kd o=_;unfold zim;simp only [zb2,zex];rw [zfm,kd_gen,zfm,kd_ign]
 have a8:∀ o,τ.gn o=if o=d then σ.gn d+1 else σ.gn o:=fun o=>by
  show (app σ _).gn o=_;unfold zim;simp only [zb2,zex];rw [zgi,zui,zgi,gn_ign]
 have d3:∀ o,τ.ig o=if o=b then σ.ig b+1 else σ.ig o:=fun o=>by
  show (app σ _).ig o=_;unfold zim;simp only [zb2,zex];rw [zj2,ig_gen,zj2,ig_ign]
 have d5:∀ t,τ.av t=σ.av t:=fun t=>by
  show (app σ _).av t=_;unfold zim;simp only [zb2,zex];rw [ziz,av_gen,ziz,av_ign]
 have c9:∀ o j,τ.ce o j=σ.ce o j:=fun o j=>by
  show (app σ _).ce o j=_;unfold zim;simp only [zb2,zex];rw [zj3,ce_gen,zj3,ce_ign]
 have a7:zbm undef=none:=rfl
 have a9:∀ c,c∈fpv (ρ b) ((ρ.inn b).set i undef)->c∈fpv (ρ b) (ρ.inn b)∧zbm u≠some c:=fun c hc=>by
  obtain ⟨x,hx,a2⟩:=ybo.1 hc;rcases yau.1 hx with rfl | hx
  ·exact ⟨ybo.2 ⟨_,yb3 ..,a2⟩,fun e=>(zp7 b4 hu e).1 a2⟩
  ·obtain ⟨j,hj⟩:=ycd hx;rw [ydd] at hj;split at hj
   ·split at hj
    ·injection hj with hj
     rw [<- hj,a7] at a2;cases a2
    ·cases hj
   ·rename_i d4;exact ⟨ybo.2 ⟨x,yay _ (zkH hj),a2⟩,fun e=>(zp7 b4 hu e).2 j x (fun e=>d4 e.symm) hj a2⟩
 have c8:∀ c,c∈fpv (ρ b) (ρ.inn b)->Owns σ ρ b c:=fun c hc=>by unfold Owns;rw [hkd];exact hc
 have a4:∀ c,Owns τ ρ2 b c->c∈fpv (ρ b) ((ρ.inn b).set i undef):=fun c hc=>by
  unfold Owns at hc;rw [a3,if_neg hdb.symm,if_pos rfl] at hc;have hc:c∈fpv (if b=d then u else ρ b) (if b=b then (ρ.inn b).set i undef else ρ.inn b):=hc
  rwa [if_neg hdb.symm,if_pos rfl] at hc
 have a5:∀ c,Owns τ ρ2 d c->zbm u=some c:=fun c hc=>by
  unfold Owns at hc;rw [a3,if_pos rfl] at hc;have hc:c∈(zbm (if d=d then u else ρ d)).toList:=hc;rw [if_pos rfl] at hc;simpa using hc
 obtain ⟨c6,hI,_⟩:=hs.step (σ':=τ) (ρ':=ρ2) (w':=w) (fun o=>o=b∨o=d) d5
  (fun o ho=>⟨by rw [a3,if_neg (fun e=>ho (.inr e)),if_neg (fun e=>ho (.inl e))],by rw [a8,if_neg (fun e=>ho (.inr e))],c9 o,by simp only [ρ2];rw [if_neg (fun e=>ho (.inr e))],by simp only [ρ2];rw [if_neg (fun e=>ho (.inl e))],by simp only [ρ2];rw [if_neg (fun e=>ho (.inl e))]⟩)
  (fun o ho=>by
   refine ⟨⟨?_,fun e=>?_⟩,?_,fun e=>?_⟩
   ·rw [a8];split
    ·rename_i e;subst e;omega
    ·exact yam _
   ·rw [a8] at e
    by_cases a0:o=d
    ·subst a0;rw [if_pos rfl] at e;omega
    ·simp only [ρ2];rw [if_neg a0]
   ·show ρ.ig o<=(if o=b then ρ.ig b+1 else ρ.ig o)
    split
    ·rename_i e;rw [e];omega
    ·exact yam _
   ·have e:(if o=b then ρ.ig b+1 else ρ.ig o)=ρ.ig o:=e
    show (if o=b then (ρ.inn b).set i undef else ρ.inn o)=_
    split at e
    ·rename_i e2;rw [e2] at e;omega
    ·rename_i e2;rw [if_neg e2])
  (fun o=>by
   show (if o=b then ρ.ig b+1 else ρ.ig o)=_
   rw [d3]
   split
   ·rw [hs.igs]
   ·exact hs.igs o)
  (Belo.refl _ _ _)
  (fun o c ho hc=>by
   rcases ho with rfl | rfl
   ·exact .inr ⟨o,.inl rfl,c8 c (a9 c (a4 c hc)).1⟩
   ·exact .inr ⟨b,.inl rfl,by unfold Owns;rw [hkd];exact fpk_inn hu (a5 c hc)⟩)
  (fun o p c ho hp c0 b5=>by
   rcases ho with rfl | rfl
   ·rcases hp with rfl | rfl
    ·rfl
    ·exact absurd (a5 c b5) (a9 c (a4 c c0)).2
   ·rcases hp with rfl | rfl
    ·exact absurd (a5 c c0) (a9 c (a4 c b5)).2
    ·rfl)
  fun hI _ o ho=>by
   by_cases a0:o=d
   ·subst a0;rw [a3,if_pos rfl];show zjs _ _ (if o=o then u else ρ o) _ _ _;rw [if_pos rfl];exact b6.mono (fun _ _=>rfl) hI
   ·have b7:=ho.resolve_right a0;subst b7;rw [a3,if_neg a0,if_pos rfl];show zlj _ _ (if o=d then u else ρ o) (if o=o then (ρ.inn o).set i undef else ρ.inn o) _ _ _ _ _;rw [if_neg a0,if_pos rfl];refine ⟨fpv_set b4 (fun c hc=>by rw [a7] at hc;cases hc),by rw [ybu];exact d1,us,b0,b9,b3,fun j x hx=>?_⟩;rw [ydd] at hx;split at hx
    ·rename_i d2;split at hx
     ·injection hx with hx
      exact .inl ⟨by rw [d2],hx.symm⟩
     ·cases hx
    ·obtain ⟨g1,c7,g2,g3⟩:=b8 j x hx;exact .inr ⟨g1,c7,g2,g3.mono (fun _ _=>rfl) hI⟩
 exact ⟨c6,hI⟩
theorem aAppendS_ok {c:Call} {t:TypeId} {x y:Operand} {b g i:Nat} (hop:o.op=.call c) (hc:c.callee=.builtin .append) (hargs:c.args=#[x,y]) (hts:c.argTypes=#[t,t]) (hx:evA σ x=.sub b g i) (hd:zdh B.n o=true) (h:aAppendS P o σ K t x y b g i):∃ fx,K fx∧Eff P B o fx.rd σ fx.wr:=by
 unfold aAppendS at h;split at h
 ·rename_i d et e e' k' gs a6 d9 d8;have c9:=zeg d9;split at h
  ·rename_i k by_ new hk e8 hy
   have b6:∀ (a:Act) w v' w',(Builtin.append_ #[t,t] o.type #[a.eval x,a.eval y]).run P w=.ok v' w'->(execOp a.eval o).run P w=.ok (.value v') w':=fun a w v' w' hv=>by
    simp [execOp,hop,resolve,hc,hargs,hts,invoke,builtin,hv]
   obtain ⟨a8,h'⟩:=h.ok;clear h;simp only [yar] at a8;obtain ⟨⟨⟨⟨c1,c2⟩,c3⟩,c4⟩,c5⟩:=a8;have b5:=ze7 c1;have d0:e'=et:=yag c2;have d5:k'=k:=yag c3;have e7:d≠b:=fun e=>by rw [e] at c5;simp at c5
   subst d0 d5;obtain ⟨it,z,hi,hz,b2,a4,e3⟩:=zkg c4 hk e8;obtain ⟨es,⟨c8,f5,a2,a3⟩,h⟩:=h';have h:=h.out;refine ⟨_,h,fun σ' hag a w ⟨ρ,hs⟩ K' Q hK=>?_⟩;have ha:∀ z∈opd x++opd y,σ' z=σ z:=zao hag;have a9:σ'.ig b=σ.ig b:=zjf (za3 hag (.ign b) (by simp));have e6:σ'.kd b=σ.kd b:=zpf (za3 hag (.knd b) (by simp));have hg':σ'.gn d=σ.gn d:=zd6 (za3 hag (.gen d) (by simp));have h1:=za0 hs x;have h2:=za0 hs y;rw [zai (zao ha),hx] at h1
   have f3:fz σ' (evA σ' y)=some (.sl new,[]):=by
    rw [zai (za3 ha)];exact znp hy fun l hl=>by simp [frd] at hl
   have h2:=zve hs (bs':=[]) (by simp) h2 f3 (by simp)
   have f4:(ρ.inn b)[i]?=some (a.eval x):=by
    generalize a.eval x=v at h1;cases h1 with
    | sub _ _ _ _ _ _ hh=>exact hh ((hs.igs b).trans (a9.trans c8))
   obtain ⟨b4,d3⟩:=hs.takeout (d:=d) (e6.trans d8) e7 f4 f5;have e2:=d3 _ _ h2;obtain ⟨A,cp,news,hv,b8,c0,e5,a5,d1⟩:=zu8 e2 a2;have d2:=zby a2
   have b0:(app σ' (zim σ' b d i e e' k' gs es)).kd d=.row e' k' es:=by
    unfold zim;simp only [zb2,zex];rw [zfm,if_pos rfl]
   have ho:=b4.obs d;rw [b0] at ho;obtain ⟨us,_,d7,_,a0,e4,d6,e0⟩:=ho;simp only [if_pos] at a0;obtain ⟨v',w',b9,a7,b3,b7⟩:=zgz (P:=P) (w:=w) 0 t o.type e' it z k' by_ c9 hi hz b2 a4 e3 b5 (a.eval x) es.length us a0 A new.length cp news (by rw [b8,d2]) a5 c0 (by unfold maxLen;unfold za2 at a3;omega) a3.1 (yas _);unfold Oper.wp;rw [b6 a w v' w' (by rw [hv];exact b9),Oper.upon_value,a6];have d4:=b4.rowed (used:=some d) (d:=d) (fun q hq=>⟨d,rfl,.root (zld b0) (by simp only [if_pos];exact hq)⟩) b5 d7 a2 a3.2 a0 a7 b3 b7 e4 b8 d6 c0 e0 d1
   have c6:(app σ' (zim σ' b d i e e' k' gs es)).gn d=σ.gn d+1:=by
    unfold zim;simp only [zb2,zex];rw [zgi,zui,if_pos rfl,hg']
   have e1:zim σ' b d i e e' k' gs es=zim σ b d i e e' k' gs es:=by unfold zim;rw [a9,hg']
   have e9:app σ' (zim σ b d i e e' k' gs es++((.knd d,.kd .dead)::([(.gen d,.n (σ.gn d+2)),(.knd d,.kd (.row e' k' (es++new)))]++[(.tmp d,.av (.osl d (σ.gn d+2)))])))=app (zf4 (app σ' (zim σ' b d i e e' k' gs es)) (some d) d (.row e' k' (es++new)) []) [(.tmp d,.av (.osl d ((app σ' (zim σ' b d i e e' k' gs es)).gn d+1)))]:=by
    rw [zau,<- e1,zb2,zau];unfold zf4;rw [c6];rfl
   have c7:=zi2 d4 (row_one a7) (zdf hd a6);rw [<- e9] at c7;exact hK _ _ ⟨_,c7⟩
  ·exact h.elim
 ·exact h.elim
theorem row_src {w:World} {S:Nat->Prop} {v:Value} {e:TypeId} {es:List (List IV)} {k:Nat} (h:zjs w S v e k es) :
  ∃ (A:Option Addr) (c:Nat) (us:List Value),v=.slice A es.length c∧us.length=es.flatten.length∧(∀ u∈us,u.oneCell'=true)∧es.length<=17592186044416 ∧
   (0<es.length->∃ b q,A=some ⟨b,q,none⟩∧∀ (j:Nat) u,us[j]?=some u->w.cell? ⟨b,q+j,none⟩=some u)∧∀ (i:Nat) u x,us[i]?=some u->es.flatten[i]?=some x->RepI w S u x:=by
 rcases yb4 es.length with h0 | h0
 ·obtain ⟨us,_,_,h3,h4,h5,h6,h7⟩:=h;have he:es=[]:=yav h0;subst he;rcases h4.2 with ⟨e1,_⟩ | ⟨q,a0,cur,e1,_⟩
  ·exact ⟨none,0,us,e1,h5,h6,h3,fun h=>absurd h (by simp),h7⟩
  ·exact ⟨_,a0,us,e1,h5,h6,h3,fun h=>absurd h (by simp),h7⟩
 ·have h':=h;obtain ⟨_,_,_,h3,_⟩:=h';obtain ⟨q,a0,cur,us,e1,_,_,_,_,_,_,_,_,e7,e8,e9,a2⟩:=h.form h0;exact ⟨_,a0,us,e1,e7,e8,h3,fun _=>⟨q,0,rfl,fun j u hu=>by rw [yae];exact zs6 a2 e1 hu⟩,e9⟩
theorem aAppendT_ok {c:Call} {t:TypeId} {x y:Operand} {b g i b2 g2 j:Nat} (hop:o.op=.call c) (hc:c.callee=.builtin .append) (hargs:c.args=#[x,y]) (hts:c.argTypes=#[t,t]) (hx:evA σ x=.sub b g i) (hy0:evA σ y=.sub b2 g2 j) (hd:zdh B.n o=true) (h:aAppendT P o σ K t x y b g i b2 g2 j):∃ fx,K fx∧Eff P B o fx.rd σ fx.wr:=by
 unfold aAppendT at h;split at h
 ·rename_i d et e e' k' gs a7 e7 c8;have d7:=zeg e7;split at h
  ·rename_i k by_ hk f9
   have c0:∀ (a:Act) w v' w',(Builtin.append_ #[t,t] o.type #[a.eval x,a.eval y]).run P w=.ok v' w'->(execOp a.eval o).run P w=.ok (.value v') w':=fun a w v' w' hv=>by
    simp [execOp,hop,resolve,hc,hargs,hts,invoke,builtin,hv]
   obtain ⟨b0,h'⟩:=h.ok;clear h;simp only [yar] at b0;obtain ⟨⟨⟨⟨⟨c1,c2⟩,c3⟩,c4⟩,c5⟩,c6⟩:=b0;have e6:b=b2:=(yag c6).symm;have b9:=ze7 c1;have d8:e'=et:=yag c2;have e3:k'=k:=yag c3;have f8:d≠b:=fun e=>by rw [e] at c5;simp at c5
   subst d8 e3 e6;obtain ⟨it,z,hi,hz,b5,a5,f5⟩:=zkg c4 hk f9;obtain ⟨es,new,⟨d6,c9,g7,g5,f3,a4⟩,h⟩:=h';have h:=h.out;refine ⟨_,h,fun σ' hag a w ⟨ρ,hs⟩ K' Q hK=>?_⟩;have ha:∀ z∈opd x++opd y,σ' z=σ z:=zao hag;have a3:σ'.ig b=σ.ig b:=zjf (za3 hag (.ign b) (by simp));have d3:σ'.kd b=σ.kd b:=zpf (za3 hag (.knd b) (by simp));have hg':σ'.gn d=σ.gn d:=zd6 (za3 hag (.gen d) (by simp));have h1:=za0 hs x;have h2:=za0 hs y;rw [zai (zao ha),hx] at h1;rw [zai (za3 ha),hy0] at h2
   have g4:(ρ.inn b)[i]?=some (a.eval x):=by
    generalize a.eval x=v at h1;cases h1 with
    | sub _ _ _ _ _ _ hh=>exact hh ((hs.igs b).trans (a3.trans d6))
   have e8:(ρ.inn b)[j]?=some (a.eval y):=by
    generalize a.eval y=v at h2;cases h2 with
    | sub _ _ _ _ _ _ hh=>exact hh ((hs.igs b).trans (a3.trans c9))
   obtain ⟨_,_,_,_,_,_,_,g3⟩:=zhv hs (d3.trans c8);obtain ⟨_,g6,a0,b3⟩:=g3 j _ e8;rw [f3] at a0;injection a0 with a0
   injection a0 with a0 _
   injection a0 with a0
   subst a0
   have a8:∀ e∈new,e.length=k':=by
    obtain ⟨_,_,q,_⟩:=b3;exact q
   obtain ⟨b8,e1⟩:=hs.takeout (d:=d) (d3.trans c8) f8 g4 g5;obtain ⟨A,cp,news,hv,d0,d2,f7,a6,b7⟩:=row_src b3;have d9:∀ (i:Nat) u x,news[i]?=some u->new.flatten[i]?=some x->RepI w _ u x:=fun i u x h1 h2=>e1 _ _ (b7 i u x h1 h2);have e0:=zby a8
   have b4:(app σ' (zim σ' b d i e e' k' gs es)).kd d=.row e' k' es:=by
    unfold zim;simp only [zb2,zex];rw [zfm,if_pos rfl]
   have ho:=b8.obs d;rw [b4] at ho;obtain ⟨us,_,e5,_,a2,f6,e4,e9⟩:=ho;simp only [if_pos] at a2;obtain ⟨v',w',d1,a9,b6,c7⟩:=zgz (P:=P) (w:=w) 0 t o.type e' it z k' by_ d7 hi hz b5 a5 f5 b9 (a.eval x) es.length us a2 A new.length cp news (by rw [d0,e0]) a6 d2 (by unfold maxLen;unfold za2 at a4;omega) a4.1 (yas _);unfold Oper.wp;rw [c0 a w v' w' (by rw [hv];exact d1),Oper.upon_value,a7];have e2:=b8.rowed (used:=some d) (d:=d) (fun q hq=>⟨d,rfl,.root (zld b4) (by simp only [if_pos];exact hq)⟩) b9 e5 a8 a4.2 a2 a9 b6 c7 f6 d0 e4 d2 e9 d9
   have d4:(app σ' (zim σ' b d i e e' k' gs es)).gn d=σ.gn d+1:=by
    unfold zim;simp only [zb2,zex];rw [zgi,zui,if_pos rfl,hg']
   have f4:zim σ' b d i e e' k' gs es=zim σ b d i e e' k' gs es:=by unfold zim;rw [a3,hg']
   have g1:app σ' (zim σ b d i e e' k' gs es++((.knd d,.kd .dead)::([(.gen d,.n (σ.gn d+2)),(.knd d,.kd (.row e' k' (es++new)))]++[(.tmp d,.av (.osl d (σ.gn d+2)))])))=app (zf4 (app σ' (zim σ' b d i e e' k' gs es)) (some d) d (.row e' k' (es++new)) []) [(.tmp d,.av (.osl d ((app σ' (zim σ' b d i e e' k' gs es)).gn d+1)))]:=by
    rw [zau,<- f4,zb2,zau];unfold zf4;rw [d4];rfl
   have d5:=zi2 e2 (row_one a9) (zdf hd a7);rw [<- g1] at d5;exact hK _ _ ⟨_,d5⟩
  ·exact h.elim
 ·exact h.elim
theorem aMoves_ok {own:List Nat} {x:Operand} (hop:o.op=.move x∨o.op=.assign x) (hd:zdh B.n o=true) (h:aMoves own o σ K x):∃ fx,K fx∧Eff P B o fx.rd σ fx.wr:=by
 have a2:=aMove_ok (P:=P) (B:=B) (σ:=σ) hop hd;unfold aMoves at h;split at h
 ·rename_i d a0;split at h
  ·split at h
   ·rename_i y bs a5;obtain ⟨a4,h⟩:=h.out;refine ⟨_,h,fun σ' hag a w ⟨ρ,hs⟩ K' Q hK=>?_⟩;have a3:zdy σ σ' bs:=za3 hag
    have a6:∀ p∈bs,σ'.gn p.1=p.2:=fun p hp=>by
     rw [<- a4 p hp];exact zd6 (a3 (.gen p.1) (by unfold frd;exact yci.2 ⟨p,hp,by simp⟩))
    have h1:=za0 hs x;have hf:=zve hs (bs':=bs) a6 h1 (by rw [zai (zao hag)];exact znp a5 a3) fun _ h=>h;obtain ⟨a7,_⟩:=hs.kills bs;have run:(execOp a.eval o).run P w=.ok (.value (a.eval x)) w:=by rcases hop with e | e<;>simp [execOp,e]
    unfold Oper.wp;rw [run,Oper.upon_value,a0];refine hK _ _ ⟨ρ,?_⟩;show SatR B (app σ' (fwr bs++[(.tmp d,.av (.im y))])) _ _ _;rw [zau];exact a7.put (d:=some d) (fun t e=>by injection e with e;subst e;exact zdf hd a0) (.im _ _ hf)
   ·exact h.elim
  ·exact ⟨_,h,by rw [a0] at a2;exact a2⟩
 ·rename_i a0;exact ⟨_,h,by rw [a0] at a2;exact a2⟩
theorem zsa {a:Act} {w:World} {ρ:Ly} {S:Nat->Prop} {γ:Nat->Nat} {d:Nat} {us vs:List Value}:∀ (fs:List Field) (i:Nat) (xs ys:List AV) (r:Bool),fs.length=xs.length->intFs P i fs=true->eqCs xs ys=some r ->
  (∀ (j:Nat) x,xs[j]?=some x->∃ u,us[i+j]?=some u∧RepA w S ρ γ u x)->(∀ (j:Nat) x,ys[j]?=some x->∃ u,vs[i+j]?=some u∧RepA w S ρ γ u x)->(Op.eqFields (d+1) us.toArray vs.toArray fs).run P w=.ok r w
 | [],i,xs,ys,r,hl,_,he,_,_=>by
  have hx:xs=[]:=yav hl.symm;subst hx;cases ys with
  | nil =>
   simp only [eqCs,zkF] at he;subst he;simp [Op.eqFields]
  | cons y ys=>simp [eqCs] at he
 | f::fs,i,[],ys,r,hl,_,_,_,_=>by simp at hl
 | f::fs,i,x::xs,[],r,_,_,he,_,_=>by simp [eqCs] at he
 | f::fs,i,x::xs,y::ys,r,hl,hF,he,hx,hy=>by
  simp only [eqCs] at he;split at he
  ·rename_i k n k' m r' ex ey er;split at he
   ·rename_i hk;have hk:=of_decide_eq_true hk;subst hk;injection he with he
    subst he;simp only [intFs,intF,yar,decide_eq_true_eq] at hF;obtain ⟨⟨⟨hname,hoff⟩,hty⟩,hF⟩:=hF;have hoff:=yag hoff
    obtain ⟨k0,hu⟩:∃ k0,P.underlying f.type=some (.int k0):=by
     split at hty
     ·exact ⟨_,by assumption⟩
     ·cases hty
    have hp:P.plainKey f.type=true:=by unfold Program.plainKey;rw [hu]
    obtain ⟨u,a0,a3⟩:=hx 0 x rfl;obtain ⟨v,a2,a4⟩:=hy 0 y rfl;rw [ybl] at a0 a2;have e1:=zcy ex a3;have e2:=zcy ey a4;subst e1 e2;have p1:=run_part_plain (P:=P) w hp (xs:=us.toArray) (off:=f.offset) (v:=.int k n) (by rw [hoff];simpa using a0);have p2:=run_part_plain (P:=P) w hp (xs:=vs.toArray) (off:=f.offset) (v:=.int k m) (by rw [hoff];simpa using a2);have p3:=run_equalIn_int (P:=P) w d f.type k k0 n m hu
    have ih:=zsa (a:=a) (d:=d) fs (i+1) xs ys r' (by simpa using hl) hF er (fun j z hz=>by
     have:=hx (j+1) z (by simpa using hz)
     rwa [show i+(j+1)=i+1+j by omega] at this) (fun j z hz=>by
     have:=hy (j+1) z (by simpa using hz)
     rwa [show i+(j+1)=i+1+j by omega] at this)
    simp only [Op.eqFields,if_pos hname,Sem.run_bind,p1,p2,p3,Result.andThen_ok];by_cases h:n=m
    ·subst h;simp [ih]
    ·have:(n==m)=false:=by simpa using h
     simp [this,h]
   ·cases he
  ·cases he
theorem aBinS_ok {op:BinOp} {t z:TypeId} {x y:Operand} (hop:o.op=.binOp op t x y z) (hd:zdh B.n o=true) (h:aBinS P o σ K op t x y):∃ fx,K fx∧Eff P B o fx.rd σ fx.wr:=by
 unfold aBinS at h;split at h
 ·rename_i xs ys hx hy;split at h
  ·rename_i r hr;obtain ⟨hT,h⟩:=h.out
   obtain ⟨fs,hu,a3,hF,a6,a4⟩:∃ fs,P.underlying t=some (.struct fs)∧fs.toList.length=xs.length∧intFs P 0 fs.toList=true∧P.stoodInHeld t=false∧P.eqGuardType P.depth t=false:=by
    unfold eqT at hT;split at hT
    ·rename_i fs hu;simp only [yar,ydc] at hT;exact ⟨fs,hu,yag hT.1.1.1,hT.1.1.2,hT.1.2,hT.2⟩
    ·cases hT
   have a5:P.fieldsOf t=fs:=by unfold Program.fieldsOf;rw [hu]
   have a2:∀ σ' (a:Act) w ρ,SatR B σ' a w ρ->(∀ l∈opd x++opd y,σ' l=σ l)->∃ us vs:List Value,a.eval x=.agg us.toArray∧a.eval y=.agg vs.toArray∧(Op.equalIn 10000 t (.agg us.toArray) (.agg vs.toArray)).run P w=.ok r w:=fun σ' a w ρ hs hag=>by
    have g1:=za0 hs x;have g2:=za0 hs y;rw [zai (zao hag)] at g1;rw [zai (za3 hag)] at g2;obtain ⟨us,e1,r1,_⟩:=znv hx g1;obtain ⟨vs,e2,r2,_⟩:=znv hy g2;refine ⟨us,vs,e1,e2,?_⟩;rw [run_equalIn_agg w 9999 t _ _ (by rw [a5];exact hu) a6,a5]
    have get:∀ {us:List Value} {xs:List AV},Reps w (Imm B σ' ρ w) ρ σ'.gn us xs->∀ (j:Nat) x,xs[j]?=some x->∃ u,us[0+j]?=some u∧RepA w (Imm B σ' ρ w) ρ σ'.gn u x:=fun {us xs} hr j x hx=>by
     have hj:=(zkI.1 hx).1;rw [<- hr.1] at hj;exact ⟨us[j],by rw [yae];exact zkM hj,hr.2 j _ x (zkM hj) hx⟩
    exact zsa (a:=a) (d:=9998) fs.toList 0 xs ys r a3 hF hr (get r1) (get r2)
   split at h
   ·have h:=h.out;refine ⟨_,h,Eff.pure hd fun σ' hag a w ρ hs=>⟨.bool r,?_,zdt _⟩⟩;obtain ⟨us,vs,e1,e2,a0⟩:=a2 σ' a w ρ hs hag;simp only [execOp,hop,e1,e2,Sem.run_bind,run_eqGuard_agg w _ t x y _ _ a4,Result.andThen_ok,run_eql_struct,a0,Sem.run_pure]
   ·have h:=h.out;refine ⟨_,h,Eff.pure hd fun σ' hag a w ρ hs=>⟨.bool (!r),?_,zdt _⟩⟩;obtain ⟨us,vs,e1,e2,a0⟩:=a2 σ' a w ρ hs hag;simp only [execOp,hop,e1,e2,Sem.run_bind,run_eqGuard_agg w _ t x y _ _ a4,Result.andThen_ok,run_neq_struct,a0,Sem.run_pure]
   ·exact h.elim
  ·exact h.elim
 ·exact h.elim
end
end
section
section
variable {P:Program} {B:Base} {o:Oper} {σ:St} {K:Fx->Prop}
theorem zr7 {σ':St} {a:Act} {w:World} {ρ:Ly} (h:SatR B σ' a w ρ) {bs':yad} (hgk:∀ p∈bs',σ'.gn p.1=p.2):∀ {l:List (Nat×Operand)} {i:Nat} {vs:List IV} {bs:yad},zvc σ i l=some (vs,bs)->(∀ y∈opdL (l.map (·.2)),σ' y=σ y)->zdy σ σ' bs->(∀ b∈bs,b∈bs') ->
  (l.map fun p=>(p.1,a.eval p.2))=(((l.map fun p=>a.eval p.2).zipIdx i).map fun x=>(x.2,x.1))∧zk2 w (Imm B (app σ' (fwr bs')) ρ w) (l.map fun p=>a.eval p.2) vs
 | [],i,vs,bs,e,_,_,_=>by
  simp only [zvc,zkF,zkG] at e;rw [<- e.1];exact ⟨rfl,rfl,fun i u x hu=>by simp at hu⟩
 | (j,x)::l,i,vs,bs,e,hag,hsame,hs=>by
  simp only [zvc] at e;split at e
  ·rename_i hij;subst hij;split at e
   ·rename_i v b1 vs1 bs1 h1 h2;simp only [zkF,zkG] at e;obtain ⟨rfl,rfl⟩:=e;have hx:evA σ' x=evA σ x:=zai fun y hy=>hag y (by simp only [yan,opdL,ya3];exact yai _ hy);have r1:=zve h hgk (za0 h x) (x:=v) (bs:=b1) (by rw [hx];exact znp h1 hsame.left) fun b hb=>hs b (yai _ hb);obtain ⟨r2,r3⟩:=zr7 h hgk h2 (fun y hy=>hag y (by simp only [yan,opdL,ya3];exact yaf _ hy)) hsame.right fun b hb=>hs b (yaf _ hb);refine ⟨by rw [yan,r2];rfl,by simpa using r3.1,fun n u y hu hy=>?_⟩;cases n with
    | zero=>simp at hu hy;rw [<- hu,<- hy];exact r1
    | succ n=>exact r3.2 n u y (by simpa using hu) (by simpa using hy)
   ·cases e
  ·cases e
theorem cellsI_rep {w:World} {S:Nat->Prop} {v:Value} {x:IV} (h:RepI w S v x) (h0:0<(zhj x).length):zk2 w S v.cells.toList (zhj x)∧∀ u∈v.cells.toList,u.oneCell'=true:=by
 have one:v.oneCell'=true->zhj x=[x]->zk2 w S v.cells.toList (zhj x)∧∀ u∈v.cells.toList,u.oneCell'=true:=fun h1 hx=>by
  have:v.cells=#[v]:=by revert h1;cases v<;>simp [Value.oneCell',Value.cells]
  rw [this,hx];refine ⟨⟨rfl,fun i u y hu hy=>?_⟩,fun u hu=>by simp at hu;rw [hu];exact h1⟩;cases i with
  | zero=>simp at hu hy;rw [<- hu,<- hy];exact h
  | succ i=>simp at hu
 have h':=h;cases h' with
 | val _ =>
  simp only [zhj] at h0;split at h0
  ·rename_i h1;exact one h1 (by simp only [zhj];rw [if_pos h1])
  ·simp at h0
 | any _=>simp [zhj] at h0
 | ex _ h1=>exact one h1 rfl
 | emp _ _=>exact one rfl rfl
 | sl _ _ _ _ _ _ _ _ _ _ _ _ _ _ _ _=>exact one rfl rfl
 | agg us cs hl h1 hr=>exact ⟨⟨by simpa [Value.cells,zhj] using hl,fun i u y hu hy=>hr i u y (by simpa [Value.cells] using hu) hy⟩,fun u hu=>h1 u (by simpa [Value.cells] using hu)⟩
 | ref _ _ _ _ _ _ _ _ _=>exact one rfl rfl
 | fn _ _ _ _ _=>exact one rfl rfl
 | nsl _ _ _ _ _=>exact one rfl rfl
theorem flat_reps {w:World} {S:Nat->Prop} {k:Nat} (hk0:0<k):∀ {us:List Value} {vs:List IV},zk2 w S us vs->(∀ v∈vs,(zhj v).length=k) ->
  (∀ u∈us,u.cells.size=k)∧zk2 w S (us.flatMap fun u=>u.cells.toList) (vs.map zhj).flatten∧∀ u∈us.flatMap fun u=>u.cells.toList,u.oneCell'=true
 | [],[],_,_=>⟨by simp,⟨rfl,by simp⟩,by simp⟩
 | u::us,v::vs,h,hk=>by
  obtain ⟨r1,r2⟩:=cellsI_rep (h.2 0 u v rfl rfl) (by rw [hk v (by simp)];exact hk0);obtain ⟨r3,r4,r5⟩:=flat_reps hk0 (us:=us) (vs:=vs) ⟨by simpa using h.1,fun i u x hu hx=>h.2 (i+1) u x (by simpa using hu) (by simpa using hx)⟩ fun v hv=>hk v (by simp [hv]);have hl:u.cells.toList.length=k:=by rw [r1.1,hk v (by simp)]
  refine ⟨fun x hx=>?_,⟨by simp only [ya3,yan,ya4,zkJ,r1.1,r4.1],fun i x y hx hy=>?_⟩,fun x hx=>?_⟩
  ·rcases yau.1 hx with rfl | hx
   ·simpa using hl
   ·exact r3 x hx
  ·rw [ya3,yaq] at hx;rw [yan,ya4,yaq] at hy;rw [r1.1] at hx;split at hx
   ·rename_i a0;rw [if_pos a0] at hy;exact r1.2 i x y hx hy
   ·rename_i a0;rw [if_neg a0] at hy;exact r4.2 _ x y hx hy
  ·rw [ya3] at hx;rcases yal.1 hx with hx | hx
   ·exact r2 x hx
   ·exact r5 x hx
 | [],_::_,h,_=>by have:=h.1;simp at this
 | _::_,[],h,_=>by have:=h.1;simp at this
theorem zlo {t et len k:Nat} {w:World} {parts:Array (Nat×Value)} {us:List Value} (hu:P.underlying t=some (.slice et)) (hk:szOf P et=some k) (hz:zOk P et k=true) (hb:∃ b,byteOf P et=some b) (hk0:0<k) (hsm:len*k<=65536) (hl:us.length=len) (hp:parts.toList=(us.zipIdx 0).map fun x=>(x.2,x.1)) (hus:∀ u∈us,u.cells.size=k) :
  (Instr.buildSlice t len parts).run P w=.ok (.slice (some ⟨w.heap.size,0,none⟩) len len) (w.alloc (.cells (us.flatMap fun u=>u.cells.toList).toArray et)):=by
 obtain ⟨b,hb⟩:=hb;obtain ⟨i,z,hi,a4,a3,_,a5⟩:=zkg hz hk hb
 have a0:∀ cells:Array Value,cells.size=len*k->Instr.fill (fun j=>some (j*k,k)) cells parts.toList=some (us.flatMap fun u=>u.cells.toList).toArray:=fun cells hc=>by
  rw [hp];exact Great.fill_whole hk0 us cells hus (by rw [hl,hc])
 by_cases h0:len*k=0
 ·have hf:=a0 ((Array.range (len*k)).map ((#[]:Array Value)[·%(#[]:Array Value).size]!)) (by simp);have a2:¬ len*k > 2^24:=by omega
  simp [Instr.buildSlice,run_underlying hu,zie hk,a2,h0,newRow];simp [h0] at hf;rw [hf];simp
 ·have:=run_buildSlice (P:=P) w t et len parts (us.flatMap fun u=>u.cells.toList).toArray i z hu hi a4 (by rw [a3];omega) (by rw [a3];exact h0) (by rw [a3];exact a0 _ (by simp));exact this
theorem zvn {own:List Nat} {t:TypeId} {len:Nat} {parts:Array (Nat×Operand)} (hop:o.op=.buildSlice t len parts) (hd:zdh B.n o=true) (hbyt:∀ et,zhs P t=some et->∃ b,byteOf P et=some b) (h:zmn P own o σ K t len parts):∃ fx,K fx∧Eff P B o fx.rd σ fx.wr:=by
 unfold zmn at h;split at h
 ·rename_i d et a0 c0;have b9:=zeg c0;split at h
  ·rename_i k vs bs hk a9;obtain ⟨b2,h⟩:=h.ok;simp only [yar] at b2;obtain ⟨⟨⟨⟨c1,c2⟩,c3⟩,c4⟩,c5⟩:=b2;have a5:vs.length=len:=by simpa using c1
   have b8:=zhz c2;have b0:=ze7 c3;have b5:∀ v∈vs,(zhj v).length=k:=fun v hv=>by simpa using ybf.1 c5 v hv
   obtain ⟨b6,h⟩:=h.out
   have zn8:∀ σ' a w ρ,SatR B σ' a w ρ->(∀ y∈opdL (parts.toList.map (·.2)),σ' y=σ y)->zdy σ σ' bs->∃ us:List Value,(execOp a.eval o).run P w=.ok (.value (.slice (some ⟨w.heap.size,0,none⟩) len len)) (w.alloc (.cells us.toArray et)) ∧
     us.length=len*k∧zk2 w (Imm B (app σ' (fwr bs)) ρ w) us (vs.map zhj).flatten∧(∀ u∈us,u.oneCell'=true):=fun σ' a w ρ hs hag1 hsame=>by
    have c7:∀ p∈bs,σ'.gn p.1=p.2:=fun p hp=>by
     rw [<- b6 p hp];exact zd6 (hsame (.gen p.1) (by unfold frd;exact yci.2 ⟨p,hp,by simp⟩))
    obtain ⟨r1,r2⟩:=zr7 hs c7 a9 hag1 hsame (fun _ h=>h);obtain ⟨r3,r4,r5⟩:=flat_reps b0 r2 b5;have b7:=zlo (P:=P) (w:=w) (parts:=parts.map fun p=>(p.1,a.eval p.2)) b9 hk c4 (hbyt et c0) b0 b8 (by rw [r2.1,a5]) (by rw [ybx];exact r1) r3;refine ⟨_,?_,?_,r4,r5⟩
    ·simp only [execOp,hop,Sem.run_bind,b7,Result.andThen_ok,Sem.run_pure]
    ·rw [r4.1,zby (k:=k) (fun x hx=>by obtain ⟨v,hv,rfl⟩:=yap.1 hx;exact b5 v hv),zkK,a5]
   have a4:∀ x∈vs.map zhj,x.length=k:=fun x hx=>by obtain ⟨v,hv,rfl⟩:=yap.1 hx;exact b5 v hv
   have c8:len<=65536:=yce (Nat.le_mul_of_pos_right len b0) b8;split at h
   ·refine ⟨_,h,fun σ' hag a w ⟨ρ,hs⟩ K' Q hK=>?_⟩;obtain ⟨us,run,a6,a3,a7⟩:=zn8 σ' a w ρ hs (zao (zao hag)) (za3 (zao hag));obtain ⟨a2,_⟩:=hs.kills bs;unfold Oper.wp;rw [run,Oper.upon_value,a0];refine hK _ _ ⟨setρ ρ d (.slice (some ⟨w.heap.size,0,none⟩) len len),?_⟩
    have hg:(app σ' (fwr bs)).gn d=σ.gn d:=by
     rw [zo7];exact zd6 (za3 hag (.gen d) (by simp))
    have m:zsj (app σ' (fwr bs)) w (w.alloc (.cells us.toArray et)) ρ none (.slice (some ⟨w.heap.size,0,none⟩) len len) none :=
     ⟨World.grownBy_alloc w _ none,(fun b e=>by cases e),fun b e=>.inr (by simp only [zbm,zkF] at e;omega)⟩
    have c6:=a2.new (d:=d) (k:=.row et k (vs.map zhj)) (cs:=[]) m rfl fun hI _=>by
     refine ⟨us,b0,a4,by rw [zkK,a5];omega,?_,a3.1,a7,fun i u x hu hx=>hI _ _ (a3.2 i u x hu hx)⟩;simp only [setρ,if_pos,zkK,a5];exact ⟨a6,.inr ⟨w.heap.size,len,us.toArray,rfl,yas _,heap_alloc_new w _,yam _,by unfold maxLen;omega,by simpa using a6,by rw [<- a6];simp⟩⟩
    show SatR B (app σ' (fwr bs++(zez σ d (.row et k (vs.map zhj))++[(.tmp d,.av (.osl d (σ.gn d+1)))]))) _ _ _;rw [zau];have:=zn1 (σ:=σ) (σ':=app σ' (fwr bs)) (k:=.row et k (vs.map zhj)) (cs:=[]) (v:=.osl d (σ.gn d+1)) hg;simp only [zg6,ybp] at this;rw [this,<- hg];exact zmi c6 rfl (zdf hd a0)
   ·split at h
    ·refine ⟨_,h,fun σ' hag a w ⟨ρ,hs⟩ K' Q hK=>?_⟩;obtain ⟨us,run,a6,a3,a7⟩:=zn8 σ' a w ρ hs (zao hag) (za3 hag);obtain ⟨a2,_⟩:=hs.kills bs;unfold Oper.wp;rw [run,Oper.upon_value,a0];have a8:Below w.heap.size w (w.alloc (.cells us.toArray et)):=(Below.refl _ _).alloc (yam _) _;obtain ⟨b4,hI⟩:=a2.world a8;refine hK _ _ ⟨ρ,?_⟩;show SatR B (app σ' (fwr bs++[(.tmp d,.av (.im (.nsl (vs.map zhj))))])) _ _ _;rw [zau];refine b4.put (d:=some d) (fun t e=>by injection e with e;subst e;exact zdf hd a0) (.im _ _ ?_);refine .nsl _ _ _ _ (.sl w.heap.size 0 len k len _ us (by rw [zkK,a5]) a4 (yam _) (by omega) ⟨.inr (.inl hs.bel.size),by simp,fun p b3=>?_,fun hz=>?_⟩ a3.1 a7 (fun i u hu=>?_) fun i u x hu hx=>hI _ _ (a3.2 i u x hu hx))
     ·have:=(a2.own p _ b3).2;omega
     ·have:=(a2.res _ hz).1.2;omega
     ·rw [yae];unfold World.cell?;simp only [heap_alloc_new];simpa using hu
    ·refine ⟨_,h,fun σ' hag a w ⟨ρ,hs⟩ K' Q hK=>?_⟩;obtain ⟨us,run,a6,a3,a7⟩:=zn8 σ' a w ρ hs (zao hag) (za3 hag);obtain ⟨a2,_⟩:=hs.kills bs;unfold Oper.wp;rw [run,Oper.upon_value,a0];have a8:Below w.heap.size w (w.alloc (.cells us.toArray et)):=(Below.refl _ _).alloc (yam _) _;obtain ⟨b4,hI⟩:=a2.world a8;refine hK _ _ ⟨ρ,?_⟩;show SatR B (app σ' (fwr bs++[(.tmp d,.av (.im (.sl (vs.map zhj))))])) _ _ _;rw [zau];refine b4.put (d:=some d) (fun t e=>by injection e with e;subst e;exact zdf hd a0) (.im _ _ ?_);refine .sl w.heap.size 0 len k len _ us (by rw [zkK,a5]) a4 (yam _) (by omega) ⟨.inr (.inl hs.bel.size),by simp,fun p b3=>?_,fun hz=>?_⟩ a3.1 a7 (fun i u hu=>?_) fun i u x hu hx=>hI _ _ (a3.2 i u x hu hx)
     ·have:=(a2.own p _ b3).2;omega
     ·have:=(a2.res _ hz).1.2;omega
     ·rw [yae];unfold World.cell?;simp only [heap_alloc_new];simpa using hu
  ·exact h.elim
 ·exact h.elim
end
end
section
section
variable {P:Program} {B:Base} {o:Oper} {σ:St} {K:Fx->Prop}
theorem zl7 {v:Value} (h1:v.oneCell'=true):v.cells=#[v]:=by revert h1;cases v<;>simp [Value.oneCell',Value.cells]
theorem zub {a:Act} {w w':World} {ρ:Ly} (hs:SatR B σ a w ρ) {q:Option Nat} (hg:w.grownBy w' q) (hq:∀ b,q=some b->∃ o,Owns σ ρ o b):∀ u x,RepI w (Imm B σ ρ w) u x->RepI w' (Imm B σ ρ w) u x:=fun u x h =>
 h.mono (fun _ hb=>hb) fun p v hb hc=>by
  rw [World.cell?_of_block (hg.block p.block hb.2.1 fun e=>by
   obtain ⟨o,ho⟩:=hq p.block e.symm
   exact hb.2.2.1 o ho)]
  exact hc
theorem aBuildG_ok {t:TypeId} {len:Nat} {parts:Array (Nat×Operand)} (hop:o.op=.buildSlice t len parts) (hd:zdh B.n o=true) (hbyt:∀ et,zhs P t=some et->∃ b,byteOf P et=some b) (h:aBuildG P o σ K t len parts):∃ fx,K fx∧Eff P B o fx.rd σ fx.wr:=by
 unfold aBuildG at h;split at h
 ·rename_i d et x a7 b7 a3;have b6:=zeg b7;split at h
  ·rename_i k r gr hk hx;split at h
   ·rename_i e' k' es c6;obtain ⟨a5,h'⟩:=h.ok;clear h;simp only [yar] at a5;obtain ⟨⟨c1,c2⟩,c3⟩:=a5;have c1:=yag c1;have c2:=yag c2;subst c1 c2;obtain ⟨b4,h⟩:=h'.out;have h:=h.out;refine ⟨_,h,fun σ' hag a w ⟨ρ,hs⟩ K' Q hK=>?_⟩;have b5:=zao (zao hag);have b3:zdy σ σ' [(r,gr)]:=za3 (zao hag);have a8:=za3 hag;obtain ⟨b2,a4,_⟩:=b3.mem (p:=(r,gr)) (by simp);have b2:σ'.gn r=gr:=b2.trans (b4 (r,gr) (by simp));have a4:=a4.trans c6;have h1:=za0 hs x;rw [zai b5,hx] at h1
    have hv:a.eval x=ρ r:=by
     generalize a.eval x=v at h1;cases h1 with
     | osl _ _ _ _ _ hh=>exact hh b2
    have ho:=hs.obs r;rw [a4] at ho;have a2:(ρ r).oneCell'=true:=zd9.one (inn:=ρ.inn r) (k:=.row e' k' es) ho
    have a6:=zlo (P:=P) (w:=w) (len:=1) (k:=1) (parts:=parts.map fun p=>(p.1,a.eval p.2)) (us:=[ρ r]) b6 hk c3 (hbyt et b7) (by omega) (by omega) rfl (by rw [ybx,a3];simp [hv]) (fun u hu=>by
     rw [yaw] at hu
     rw [hu,zl7 a2]
     rfl)
    have c8:([ρ r].flatMap fun u=>u.cells.toList)=[ρ r]:=by simp [zl7 a2]
    rw [c8] at a6
    have run:(execOp a.eval o).run P w=.ok (.value (.slice (some ⟨w.heap.size,0,none⟩) 1 1)) (w.alloc (.cells [ρ r].toArray et)):=by
     simp only [execOp,hop,Sem.run_bind,a6,Result.andThen_ok,Sem.run_pure]
    unfold Oper.wp;rw [run,Oper.upon_value,a7];refine hK _ _ ?_;have b8:Below w.heap.size w (w.alloc (.cells [ρ r].toArray et)):=(Below.refl _ _).alloc (yam _) _;have hI:∀ u y,RepI w (Imm B σ' ρ w) u y->RepI (w.alloc (.cells [ρ r].toArray et)) (Imm B σ' ρ w) u y:=zub hs (World.grownBy_alloc w _ none) fun b e=>by cases e
    have b9:zdp σ' ρ [(r,gr)]=fpk (ρ r) (ρ.inn r) (.row e' k' es):=by
     unfold zdp;rw [ya3,ycr,ybp,a4]
    have c0:fpk (ρ r) (ρ.inn r) (.row e' k' es)=(zbm (ρ r)).toList:=by
     unfold fpk;rfl
    have a0:∀ b∈zdp σ' ρ [(r,gr)],b<w.heap.size:=fun b hb=>by
     obtain ⟨p,_,ho⟩:=zed.1 hb;exact (hs.own p.1 b ho).2
    have hF:fpv (.slice (some ⟨w.heap.size,0,none⟩) 1 1) [ρ r]=w.heap.size::zdp σ' ρ [(r,gr)]:=by
     rw [b9,c0];unfold fpv;rw [ybk];show w.heap.size::List.filterMap zbm [ρ r]=_;congr 1
    have c7:∀ t,some d=some t->t<B.n:=fun t e=>by injection e with e;subst e;exact zdf hd a7
    have a9:∀ b∈zdp σ' ρ [(r,gr)],¬ Imm B σ' ρ w b:=fun b hb hi=>by
     obtain ⟨p,_,ho⟩:=zed.1 hb;exact hi.2.2.1 p.1 ho
    have b0:=zd9.mono (inn:=ρ.inn r) (k:=.row e' k' es) (w':=w.alloc (.cells [ρ r].toArray et)) ho (fun b hb=>heap_alloc_old _ _ (a0 b (by rw [b9];exact hb))) hI
    obtain ⟨ρ',g1,g2,_⟩:=ziy hs [(r,gr)] (by simp) (S':=Imm B σ' ρ w) (v:=.slice (some ⟨w.heap.size,0,none⟩) 1 1) (ps:=[]) (τ:=σ) (tp:=false) (d:=d) (l:=[.ow (.grid et e' k' [[IV.sl es]] none)]) (ys:=[]) (F':=w.heap.size::zdp σ' ρ [(r,gr)]) (bx:=[]) (bl:=[]) (ss':=[]) (va:=.osl d (σ.gn d+1))
     (.of b8) (fun b hb=>⟨.inl hb,by have:=hb.2.1;simp;omega,fun hm=>by
      rcases yau.1 hm with e | hm
      ·have:=hb.2.1;omega
      ·exact a9 b hm hb⟩)
     ⟨_,_,[],rfl,⟨_,[],⟨rfl,[ρ r],⟨by rw [hF];exact ybj.2 ⟨fun hm=>by have:=a0 _ hm;omega,ze0 hs (by simp)⟩,rfl,[ρ r],by simp,⟨rfl,.inr ⟨w.heap.size,1,[ρ r].toArray,rfl,yas _,heap_alloc_new w _,yam _,by unfold maxLen;omega,rfl,rfl⟩⟩,fun u hu=>by rw [yaw] at hu;rw [hu];exact a2,fun i u hu=>.inr ⟨hu,es,by
      cases i with
      | zero=>rfl
      | succ i=>simp at hu,by
      cases i with
      | zero =>
       simp at hu
       subst hu
       exact b0
      | succ i=>simp at hu⟩⟩,rfl⟩,rfl,rfl⟩,rfl,by
      show w.heap.size::zdp σ' ρ [(r,gr)]=(fpv (.slice (some ⟨w.heap.size,0,none⟩) 1 1) [ρ r]++[])++[]
      rw [hF]
      simp⟩
     (ybj.2 ⟨fun hm=>by have:=a0 _ hm;omega,ze0 hs (by simp)⟩)
     (fun b hb=>by
      rcases yau.1 hb with e | hb
      ·exact ⟨.inl (by omega),by rw [e];simp⟩
      ·exact ⟨.inr hb,by have:=a0 b hb;simp;omega⟩)
     rfl rfl (by simp) rfl (by simp [zcj,ocPl]) (fun x _=>by simp) (fun p hp=>by
      obtain ⟨h5,h6⟩:=zjt hp
      exact ⟨zd6 (a8 _ h5),zjf (a8 _ h6)⟩)
    refine ⟨ρ',?_⟩;show SatR B (app σ' (fwr [(r,gr)]++(zdz σ [(d,.grid et e' k' [[IV.sl es]] none)]++[(.tmp d,.av (.osl d (σ.gn d+1)))]))) _ _ _;rw [zau,zau];exact g1.put (d:=some d) c7 g2
   ·exact h.elim
  ·exact h.elim
 ·exact h.elim
theorem aBuildG2_ok {t:TypeId} {len:Nat} {parts:Array (Nat×Operand)} (hop:o.op=.buildSlice t len parts) (hd:zdh B.n o=true) (hbyt:∀ et,zhs P t=some et->∃ b,byteOf P et=some b) (h:zs1 P o σ K t len parts):∃ fx,K fx∧Eff P B o fx.rd σ fx.wr:=by
 unfold zs1 at h;split at h
 ·rename_i d et x y b3 d2 a5;have d1:=zeg d2;split at h
  ·rename_i k r gr q gq hk hx hy;split at h
   ·rename_i e' k' es e2 k2 fs d7 c9;obtain ⟨a9,h'⟩:=h.ok;clear h;simp only [yar] at a9;obtain ⟨⟨⟨⟨⟨c1,c2⟩,c3⟩,c4⟩,c5⟩,c6⟩:=a9;have c1:=yag c1;have c2:=yag c2;have c4:=(yag c4).symm;have c5:=(yag c5).symm;have d6:r≠q:=fun e=>by rw [e] at c6;simp at c6
    subst c1 c2 c4 c5;obtain ⟨b0,h⟩:=h'.out;have h:=h.out;refine ⟨_,h,fun σ' hag a w ⟨ρ,hs⟩ K' Q hK=>?_⟩;have d0:=zao (zao (zao hag));have c8:=za3 (zao (zao hag));have a4:zdy σ σ' [(r,gr),(q,gq)]:=za3 (zao hag);have b4:=za3 hag;obtain ⟨b7,a8,_⟩:=a4.mem (p:=(r,gr)) (by simp);obtain ⟨b8,a7,_⟩:=a4.mem (p:=(q,gq)) (by simp);have b7:σ'.gn r=gr:=b7.trans (b0 (r,gr) (by simp));have b8:σ'.gn q=gq:=b8.trans (b0 (q,gq) (by simp));have a8:=a8.trans d7;have a7:=a7.trans c9;have h1:=za0 hs x;rw [zai d0,hx] at h1
    have hv:a.eval x=ρ r:=by
     generalize a.eval x=v at h1;cases h1 with
     | osl _ _ _ _ _ hh=>exact hh b7
    have h2:=za0 hs y;rw [zai c8,hy] at h2
    have d9:a.eval y=ρ q:=by
     generalize a.eval y=v at h2;cases h2 with
     | osl _ _ _ _ _ hh=>exact hh b8
    have ho:=hs.obs r;rw [a8] at ho;have a3:(ρ r).oneCell'=true:=zd9.one (inn:=ρ.inn r) (k:=.row e' k' es) ho;have b9:=hs.obs q;rw [a7] at b9;have a2:(ρ q).oneCell'=true:=zd9.one (inn:=ρ.inn q) (k:=.row e' k' fs) b9
    have b2:=zlo (P:=P) (w:=w) (len:=2) (k:=1) (parts:=parts.map fun p=>(p.1,a.eval p.2)) (us:=[ρ r,ρ q]) d1 hk c3 (hbyt et d2) (by omega) (by omega) rfl (by rw [ybx,a5];simp [hv,d9]) (fun u hu=>by
     rcases yau.1 hu with hu | hu
     ·rw [hu,zl7 a3]
      rfl
     ·rw [yaw.1 hu,zl7 a2]
      rfl)
    have e0:([ρ r,ρ q].flatMap fun u=>u.cells.toList)=[ρ r,ρ q]:=by simp [zl7 a3,zl7 a2]
    rw [e0] at b2
    have run:(execOp a.eval o).run P w=.ok (.value (.slice (some ⟨w.heap.size,0,none⟩) 2 2)) (w.alloc (.cells [ρ r,ρ q].toArray et)):=by
     simp only [execOp,hop,Sem.run_bind,b2,Result.andThen_ok,Sem.run_pure]
    unfold Oper.wp;rw [run,Oper.upon_value,b3];refine hK _ _ ?_;have d3:Below w.heap.size w (w.alloc (.cells [ρ r,ρ q].toArray et)):=(Below.refl _ _).alloc (yam _) _;have hI:∀ u y,RepI w (Imm B σ' ρ w) u y->RepI (w.alloc (.cells [ρ r,ρ q].toArray et)) (Imm B σ' ρ w) u y:=zub hs (World.grownBy_alloc w _ none) fun b e=>by cases e
    have c7:zdp σ' ρ [(r,gr),(q,gq)]=fpk (ρ r) (ρ.inn r) (.row e' k' es)++fpk (ρ q) (ρ.inn q) (.row e' k' fs):=by
     unfold zdp;rw [ya3,ya3,ycr,ybp,a8,a7]
    have d5:fpk (ρ r) (ρ.inn r) (.row e' k' es)=(zbm (ρ r)).toList:=by
     unfold fpk;rfl
    have d4:fpk (ρ q) (ρ.inn q) (.row e' k' fs)=(zbm (ρ q)).toList:=by
     unfold fpk;rfl
    have c0:([(r,gr),(q,gq)].map Prod.fst).Nodup:=by simp [d6]
    have a0:∀ b∈zdp σ' ρ [(r,gr),(q,gq)],b<w.heap.size:=fun b hb=>by
     obtain ⟨p,_,ho⟩:=zed.1 hb;exact (hs.own p.1 b ho).2
    have hF:fpv (.slice (some ⟨w.heap.size,0,none⟩) 2 2) [ρ r,ρ q]=w.heap.size::zdp σ' ρ [(r,gr),(q,gq)]:=by
     rw [c7,d5,d4];unfold fpv;rw [ybk];show w.heap.size::List.filterMap zbm [ρ r,ρ q]=_;congr 1;rw [ybk,ybk,List.filterMap_nil];cases zbm (ρ r)<;>cases zbm (ρ q)<;>rfl
    have d8:∀ t,some d=some t->t<B.n:=fun t e=>by injection e with e;subst e;exact zdf hd b3
    have b5:∀ b∈zdp σ' ρ [(r,gr),(q,gq)],¬ Imm B σ' ρ w b:=fun b hb hi=>by
     obtain ⟨p,_,ho⟩:=zed.1 hb;exact hi.2.2.1 p.1 ho
    have b6:=zd9.mono (inn:=ρ.inn r) (k:=.row e' k' es) (w':=w.alloc (.cells [ρ r,ρ q].toArray et)) ho (fun b hb=>heap_alloc_old _ _ (a0 b (by rw [c7];exact yai _ hb))) hI;have a6:=zd9.mono (inn:=ρ.inn q) (k:=.row e' k' fs) (w':=w.alloc (.cells [ρ r,ρ q].toArray et)) b9 (fun b hb=>heap_alloc_old _ _ (a0 b (by rw [c7];exact yaf _ hb))) hI
    obtain ⟨ρ',g1,g2,_⟩:=ziy hs [(r,gr),(q,gq)] c0 (S':=Imm B σ' ρ w) (v:=.slice (some ⟨w.heap.size,0,none⟩) 2 2) (ps:=[]) (τ:=σ) (tp:=false) (d:=d) (l:=[.ow (.grid et e' k' [[IV.sl es],[IV.sl fs]] none)]) (ys:=[]) (F':=w.heap.size::zdp σ' ρ [(r,gr),(q,gq)]) (bx:=[]) (bl:=[]) (ss':=[]) (va:=.osl d (σ.gn d+1))
     (.of d3) (fun b hb=>⟨.inl hb,by have:=hb.2.1;simp;omega,fun hm=>by
      rcases yau.1 hm with e | hm
      ·have:=hb.2.1;omega
      ·exact b5 b hm hb⟩)
     ⟨_,_,[],rfl,⟨_,[],⟨rfl,[ρ r,ρ q],⟨by rw [hF];exact ybj.2 ⟨fun hm=>by have:=a0 _ hm;omega,ze0 hs c0⟩,rfl,[ρ r,ρ q],by simp,⟨rfl,.inr ⟨w.heap.size,2,[ρ r,ρ q].toArray,rfl,yas _,heap_alloc_new w _,yam _,by unfold maxLen;omega,rfl,rfl⟩⟩,fun u hu=>by
       rcases yau.1 hu with hu | hu
       ·rw [hu];exact a3
       ·rw [yaw.1 hu];exact a2,fun i u hu=>by
      match i,hu with
      | 0,hu =>
       simp at hu
       subst hu
       exact .inr ⟨rfl,es,rfl,b6⟩
      | 1,hu =>
       simp at hu
       subst hu
       exact .inr ⟨rfl,fs,rfl,a6⟩
      | i+2,hu=>simp at hu⟩,rfl⟩,rfl,rfl⟩,rfl,by
      show w.heap.size::zdp σ' ρ [(r,gr),(q,gq)]=(fpv (.slice (some ⟨w.heap.size,0,none⟩) 2 2) [ρ r,ρ q]++[])++[]
      rw [hF]
      simp⟩
     (ybj.2 ⟨fun hm=>by have:=a0 _ hm;omega,ze0 hs c0⟩)
     (fun b hb=>by
      rcases yau.1 hb with e | hb
      ·exact ⟨.inl (by omega),by rw [e];simp⟩
      ·exact ⟨.inr hb,by have:=a0 b hb;simp;omega⟩)
     rfl rfl (by simp) rfl (by simp [zcj,ocPl]) (fun x _=>by simp) (fun p hp=>by
      obtain ⟨h5,h6⟩:=zjt hp
      exact ⟨zd6 (b4 _ h5),zjf (b4 _ h6)⟩)
    refine ⟨ρ',?_⟩;show SatR B (app σ' (fwr [(r,gr),(q,gq)]++(zdz σ [(d,.grid et e' k' [[IV.sl es],[IV.sl fs]] none)]++[(.tmp d,.av (.osl d (σ.gn d+1)))]))) _ _ _;rw [zau,zau];exact g1.put (d:=some d) d8 g2
   ·exact h.elim
  ·exact h.elim
 ·exact h.elim
theorem aAppendG_ok {c:Call} {t:TypeId} {x y:Operand} {b2 gc:Nat} (hop:o.op=.call c) (hc:c.callee=.builtin .append) (hargs:c.args=#[x,y]) (hts:c.argTypes=#[t,t]) (hy:evA σ y=.osl b2 gc) (hd:zdh B.n o=true) (h:aAppendG P o σ K t x y b2 gc):∃ fx,K fx∧Eff P B o fx.rd σ fx.wr:=by
 unfold aAppendG at h;split at h
 ·rename_i d et e e' k a8 d0 i0 b6;have g4:=zeg i0;split at h
  ·rename_i m by_ b gb hm g9 hx;split at h
   ·rename_i e1 d4 k1 gs b7;obtain ⟨b9,h'⟩:=h.ok;clear h;simp only [yar,ydc] at b9;obtain ⟨⟨⟨⟨⟨⟨c1,c2⟩,c3⟩,c4⟩,c5⟩,c6⟩,c7⟩:=b9;have c1:=yag c1;have c2:=yag c2;have c3:=yag c3;have c4:=yag c4;have c5:=yag c5;have e9:b≠b2:=fun e=>by rw [e] at c7;simp at c7
    subst c1 c2 c4 c5;subst c3;obtain ⟨c0,h⟩:=h'.out;obtain ⟨a9,h⟩:=h.out;have h:=h.out;obtain ⟨i,z,hi,hz,d8,b4,g7⟩:=zkg c6 hm g9;refine ⟨_,h,fun σ' hag a w ⟨ρ,hs⟩ K' Q hK=>?_⟩;have f9:=zao (zao (zao hag));have f4:=za3 (zao (zao hag));have b0:zdy σ σ' [(b,gb),(b2,gc)]:=za3 (zao hag);have d3:=za3 hag;obtain ⟨d5,f3,_⟩:=b0.mem (p:=(b,gb)) (by simp);obtain ⟨e5,f7,_⟩:=b0.mem (p:=(b2,gc)) (by simp);have d5:σ'.gn b=gb:=d5.trans (c0 (b,gb) (by simp));have e5:σ'.gn b2=gc:=e5.trans (c0 (b2,gc) (by simp));have b7:=f3.trans b7;have b6:=f7.trans b6;have h1:=za0 hs x;rw [zai f9,hx] at h1;have h2:=za0 hs y;rw [zai f4,hy] at h2
    have g6:a.eval x=ρ b:=by
     generalize a.eval x=v at h1;cases h1 with
     | osl _ _ _ _ _ hh=>exact hh d5
    have g8:a.eval y=ρ b2:=by
     generalize a.eval y=v at h2;cases h2 with
     | osl _ _ _ _ _ hh=>exact hh e5
    obtain ⟨ub,nb,lb,i5,a5,e7,i4,f8⟩:=zhv hs b7;obtain ⟨uc,nc,lc,i6,d2,c9,h9,f5⟩:=zhv hs b6
    obtain ⟨A,cp,i3,b5⟩:∃ (A:Option Addr) (cp:Nat),ρ b2=.slice A a8.length cp∧(0<a8.length->∃ bb q,A=some ⟨bb,q,none⟩∧∀ (j:Nat) u,uc[j]?=some u->w.cell? ⟨bb,q+j,none⟩=some u):=by
     rcases d2.2 with ⟨e0,h0⟩ | ⟨q,h7,cur,e0,_⟩
     ·exact ⟨none,0,by rw [e0,h0],fun h=>by omega⟩
     ·exact ⟨_,h7,e0,fun _=>⟨q,0,rfl,fun j u hu=>by rw [yae];exact zs6 d2 e0 hu⟩⟩
    obtain ⟨v',w',e8,a6,a0,f6⟩:=zgz (P:=P) (w:=w) 0 t o.type e1 i z 1 by_ g4 hi hz d8 b4 g7 (by omega) (ρ b) gs.length ub a5 A a8.length cp uc (by rw [h9,ycj]) b5 c9 (by unfold maxLen;have:=a9.2;omega) (by exact a9.1) (yas _)
    have run:(execOp a.eval o).run P w=.ok (.value v') w':=by
     have e0:(Builtin.append_ #[t,t] o.type #[a.eval x,a.eval y]).run P w=.ok v' w':=by rw [g6,g8,i3];exact e8
     simp [execOp,hop,resolve,hc,hargs,hts,invoke,builtin,e0]
    unfold Oper.wp;rw [run,Oper.upon_value,d0];refine hK _ _ ?_
    have b8:zdp σ' ρ [(b,gb),(b2,gc)]=fpv (ρ b) (ρ.inn b)++fpv (ρ b2) (ρ.inn b2):=by
     unfold zdp;rw [ya3,ya3,ycr,ybp,b7,b6];rfl
    have a2:(zdp σ' ρ [(b,gb),(b2,gc)]).Nodup:=ze0 hs (by simp [e9])
    have a3:∀ q∈zdp σ' ρ [(b,gb),(b2,gc)],q<w.heap.size:=fun q hq=>by
     obtain ⟨p,_,ho⟩:=zed.1 hq;exact (hs.own p.1 q ho).2
    have d6:∀ q∈zdp σ' ρ [(b,gb),(b2,gc)],¬ Imm B σ' ρ w q:=fun q hq hi=>by
     obtain ⟨p,_,ho⟩:=zed.1 hq;exact hi.2.2.1 p.1 ho
    have d7:∀ q,(ρ b).ownBlock=some q->q∈zdp σ' ρ [(b,gb),(b2,gc)]:=fun q hq=>by
     rw [zit a5] at hq;rw [b8];refine yai _ ?_;unfold fpv;rw [ybk,hq];exact yb3 ..
    have hI:∀ u y,RepI w (Imm B σ' ρ w) u y->RepI w' (Imm B σ' ρ w) u y:=zub hs a0 fun q hq=>by
     obtain ⟨p,_,ho⟩:=zed.1 (d7 q hq);exact ⟨p.1,ho⟩
    -- where the new row of rows lies
    have a4:((ρ.inn b++ρ.inn b2).filterMap zbm).Sublist (zdp σ' ρ [(b,gb),(b2,gc)]):=by
     rw [b8,ydt];refine List.Sublist.append ?_ ?_
     ·unfold fpv;rw [ybk];split
      ·exact List.Sublist.refl _
      ·exact ydb _ _
     ·unfold fpv;rw [ybk];split
      ·exact List.Sublist.refl _
      ·exact ydb _ _
    have d1:fpv v' (ρ.inn b++ρ.inn b2)=(zbm v').toList++(ρ.inn b++ρ.inn b2).filterMap zbm:=by
     unfold fpv;rw [ybk];cases zbm v'<;>rfl
    have a7:∀ q,zbm v'=some q->(q=w.heap.size∨zbm (ρ b)=some q)∧q<w'.heap.size:=fun q hq=>by
     refine ⟨?_,(a6.lt q (show v'.ownBlock=some q by rw [zit a6];exact hq)).2⟩;rw [<- zit a6] at hq;rcases f6 with e | e
     ·right;rw [<- zit a5,<- e];exact hq
     ·left;rw [e] at hq;exact (Option.some.inj hq).symm
    have g5:(fpv v' (ρ.inn b++ρ.inn b2)).Nodup:=by
     rw [d1];have h3:=a4.nodup a2;cases hq:zbm v' with
     | none=>exact h3
     | some q =>
      refine ybj.2 ⟨fun hm=>?_,h3⟩;rcases (a7 q hq).1 with e | e
      ·have:=a3 q (a4.subset hm);omega
      ·have hm:q∈(ρ.inn b++ρ.inn b2).filterMap zbm:=hm
       have hm:q∈(ρ.inn b).filterMap zbm∨q∈(ρ.inn b2).filterMap zbm:=by
        rw [<- yal,<- ydt];exact hm
       rw [b8,ybc] at a2
       have e4:fpv (ρ b) (ρ.inn b)=q::(ρ.inn b).filterMap zbm:=by
        unfold fpv;rw [ybk,e]
       rw [e4] at a2;rcases hm with hm | hm
       ·exact (ybj.1 a2.1).1 hm
       ·refine a2.2.2 q (yb3 ..) q ?_ rfl;unfold fpv;rw [ybk];split
        ·exact hm
        ·exact yay _ hm
    have b3:∀ u∈ρ.inn b++ρ.inn b2,∀ q,zbm u=some q->w'.heap[q]?=w.heap[q]?:=fun u hu q hq=>by
     have hm:q∈(ρ.inn b++ρ.inn b2).filterMap zbm:=ybo.2 ⟨u,hu,hq⟩;refine a0.block q (a3 q (a4.subset hm)) fun e=>?_;rw [zit a5] at e
     have hm:q∈(ρ.inn b).filterMap zbm∨q∈(ρ.inn b2).filterMap zbm:=by
      rw [<- yal,<- ydt];exact hm
     rw [b8,ybc] at a2
     have e4:fpv (ρ b) (ρ.inn b)=q::(ρ.inn b).filterMap zbm:=by
      unfold fpv;rw [ybk,<- e]
     rw [e4] at a2;rcases hm with hm | hm
     ·exact (ybj.1 a2.1).1 hm
     ·refine a2.2.2 q (yb3 ..) q ?_ rfl;unfold fpv;rw [ybk];split
      ·exact hm
      ·exact yay _ hm
    have e2:zlj w' (Imm B σ' ρ w) v' (ρ.inn b++ρ.inn b2) e1 d4 k1 (gs++a8) none:=by
     refine ⟨g5,by rw [zkJ,zkJ,lb,lc],ub++uc,by rw [zkJ];have:=a9.2;omega,by rw [zkJ];exact a6,fun u hu=>?_,fun j u hu=>.inr ?_⟩
     ·rcases yal.1 hu with hu | hu
      ·exact e7 u hu
      ·exact c9 u hu
     ·have c8:=zkH hu;have el:ub.length=(ρ.inn b).length:=i4.trans lb.symm;have e6:gs.length=(ρ.inn b).length:=lb.symm;by_cases hj:j<(ρ.inn b).length
      ·rw [ya2 hj] at hu;obtain ⟨g1,es,g2,g3⟩:=f8 j u hu;refine ⟨by rw [ya2 (by rw [el];exact hj)];exact g1,es,by rw [ya2 (by rw [e6];exact hj)];exact g2,g3.mono (b3 u c8) hI⟩
      ·have d9:(ρ.inn b).length<=j:=Nat.le_of_not_lt hj;rw [ya5 d9] at hu;obtain ⟨g1,es,g2,g3⟩:=f5 _ u hu;refine ⟨by rw [ya5 (by rw [el];exact d9),el];exact g1,es,by rw [ya5 (by rw [e6];exact d9),e6];exact g2,g3.mono (b3 u c8) hI⟩
    have hF:∀ q∈fpv v' (ρ.inn b++ρ.inn b2),(w.heap.size<=q∨q∈zdp σ' ρ [(b,gb),(b2,gc)])∧q<w'.heap.size:=fun q hq=>by
     rw [d1] at hq;rcases yal.1 hq with hq | hq
     ·have hq:zbm v'=some q:=by simpa using hq
      obtain ⟨h3,h4⟩:=a7 q hq;refine ⟨?_,h4⟩;rcases h3 with e | e
      ·exact .inl (by omega)
      ·exact .inr (d7 q (by rw [zit a5];exact e))
     ·have h3:=a4.subset hq;have:=a3 q h3;have:=a0.size;exact ⟨.inr h3,by omega⟩
    have h8:∀ t,some d=some t->t<B.n:=fun t e=>by injection e with e;subst e;exact zdf hd d0
    have e3:v'.oneCell'=true:=row_one a6
    obtain ⟨ρ',g1,g2,_⟩:=ziy hs [(b,gb),(b2,gc)] (by simp [e9]) (S':=Imm B σ' ρ w) (v:=v') (ps:=[]) (τ:=σ) (tp:=false) (d:=d) (l:=[.ow (.grid e1 d4 k1 (gs++a8) none)]) (ys:=[]) (F':=fpv v' (ρ.inn b++ρ.inn b2)) (bx:=[]) (bl:=[]) (ss':=[]) (va:=.osl d (σ.gn d+1))
     ⟨a0.os,a0.tape,a0.output,a0.size,fun q hq hn=>a0.block q hq fun e=>hn (d7 q e.symm)⟩ (fun q hq=>⟨.inl hq,by have:=hq.2.1;have:=a0.size;omega,fun hm=>by
      rcases (hF q hm).1 with e | e
      ·have:=hq.2.1;omega
      ·exact d6 q e hq⟩)
     ⟨_,_,[],rfl,⟨_,[],⟨e3,ρ.inn b++ρ.inn b2,e2,rfl⟩,rfl,rfl⟩,rfl,by
      show fpv v' (ρ.inn b++ρ.inn b2)=(fpv v' (ρ.inn b++ρ.inn b2)++[])++[]
      simp⟩
     g5 hF rfl rfl (by simp) rfl (by simp [zcj,ocPl]) (fun x _=>by simp) (fun p hp=>by
      obtain ⟨h5,h6⟩:=zjt hp
      exact ⟨zd6 (d3 _ h5),zjf (d3 _ h6)⟩)
    refine ⟨ρ',?_⟩;show SatR B (app σ' (fwr [(b,gb),(b2,gc)]++(zdz σ [(d,.grid e1 d4 k1 (gs++a8) none)]++[(.tmp d,.av (.osl d (σ.gn d+1)))]))) _ _ _;rw [zau,zau];exact g1.put (d:=some d) h8 g2
   ·exact h.elim
  ·exact h.elim
 ·exact h.elim
end
end
section
open Go.RowKit Go.ChangeMaps
section
variable {P:Program} {B:Base} {o:Oper} {σ:St} {K:Fx->Prop}
theorem zs3 {t e:TypeId} {n:Nat} (h:arrOf P t=some (n,e)):P.underlying t=some (.array n e):=by
 unfold arrOf at h;split at h
 ·rename_i n' e' hu;simp only [zkF,zkG] at h;rw [hu,h.1,h.2]
 ·cases h
theorem zu3 {t:TypeId} {n:Nat} (h:intArr P t=some n):∃ e,P.underlying t=some (.array n e)∧P.underlying e=some (.int .i64)∧szOf P e=some 1:=by
 unfold intArr at h;split at h
 ·rename_i n' e he;split at h
  ·rename_i h1 h2;injection h with h
   subst h;exact ⟨e,zs3 he,h1,h2⟩
  ·cases h
 ·cases h
theorem flat_sing {α β:Type} (f:α->β):∀ cs:List α,(cs.map fun v=>[f v]).flatten=cs.map f
 | []=>rfl
 | c::cs=>by rw [yan,ya4,flat_sing f cs];rfl
theorem aAllocA_ok {t:TypeId} (hop:o.op=.alloc t) (hd:zdh B.n o=true) (h:aAllocA P o σ K t):∃ fx,K fx∧Eff P B o fx.rd σ fx.wr:=by
 unfold aAllocA at h;split at h
 ·rename_i d cs a3 hz;obtain ⟨a0,h⟩:=h.ok;simp only [yar] at a0;have a4:=a0.1.1;have a9:=ze7 a0.1.2;have a8:=zhz a0.2;have h:=h.out;refine ⟨_,h,fun σ' hag a w ⟨ρ,hs⟩ K' Q hK=>?_⟩;have hg:σ'.gn d=σ.gn d:=zd6 (hag (.gen d) (by simp))
  obtain ⟨z,a6,a7⟩:∃ z:Value,(∀ w,(zeroValue t).run P w=.ok z w)∧z.cells.toList=cs:=by
   unfold zeroOf at hz;split at hz
   ·rename_i i hi;cases hz0:i.zero with
    | none=>rw [hz0] at hz;cases hz
    | some z =>
     rw [hz0] at hz;simp only [yaj,zkF] at hz;exact ⟨z,fun w=>by simp [zeroValue,typeInfo,hi,hz0],hz⟩
   ·cases hz
  have run:(execOp a.eval o).run P w=.ok (.value (.pointer (some ⟨w.heap.size,0,none⟩))) (w.alloc (.cells cs.toArray t)):=by
   rw [<- a7];simp [execOp,hop,Instr.alloc,a6,newVar,newRow]
  unfold Oper.wp;rw [run,Oper.upon_value,a3]
  let hv:Value:=.slice (some ⟨w.heap.size,0,none⟩) cs.length cs.length
  refine hK _ _ ⟨setρ ρ d hv,?_⟩
  have m:zsj σ' w (w.alloc (.cells cs.toArray t)) ρ none hv none :=
   ⟨World.grownBy_alloc w _ none,(fun b e=>by cases e),fun b e=>.inr (by simp only [hv,zbm,zkF] at e;omega)⟩
  have a2:(cs.map fun v=>[nz1 (IV.val v)]).flatten=cs.map fun v=>nz1 (.val v):=flat_sing (fun v=>nz1 (IV.val v)) cs
  have a5:=hs.new (d:=d) (k:=.row t 1 (cs.map fun v=>[nz1 (.val v)])) (cs:=[]) m rfl fun hI _=>by
   refine ⟨cs,by omega,fun x hx=>by obtain ⟨u,_,rfl⟩:=yap.1 hx;rfl,by rw [zkK];omega,?_,by rw [a2];simp,fun u hu=>ybf.1 a4 u hu,fun i u x hu hx=>?_⟩
   ·simp only [setρ,if_pos,zkK];refine ⟨by simp,.inr ⟨w.heap.size,cs.length,cs.toArray,rfl,yas _,heap_alloc_new w _,yam _,by unfold maxLen;omega,by simp,by simp⟩⟩
   ·rw [a2,yat,hu] at hx;injection hx with hx
    subst hx;exact zms (.val u)
  have:=zn1 (σ:=σ) (σ':=σ') (k:=.row t 1 (cs.map fun v=>[nz1 (.val v)])) (cs:=[]) (v:=.elt d (σ.gn d+1) 1 0 0) hg;simp only [zg6,ybp] at this;show SatR B (app σ' (zez σ d (.row t 1 (cs.map fun v=>[nz1 (.val v)]))++[(.tmp d,.av (.elt d (σ.gn d+1) 1 0 0))])) _ _ _;rw [this,<- hg];exact a5.put (d:=some d) (fun t e=>by injection e with e;subst e;exact zdf hd a3) (.elt _ _ _ _ _ _ rfl (by rw [zmr,if_pos rfl];omega) fun _=>⟨w.heap.size,0,cs.length,cs.length,by simp [setρ,hv],by simp⟩)
 ·exact h.elim
theorem aAllocs_ok {t:TypeId} (hop:o.op=.alloc t) (hd:zdh B.n o=true) (h:aAllocs P o σ K t):∃ fx,K fx∧Eff P B o fx.rd σ fx.wr:=by
 unfold aAllocs at h;split at h
 ·split at h
  ·exact aAlloc_ok hop hd h
  ·exact aAllocA_ok hop hd h
 ·exact aAlloc_ok hop hd h
theorem aIndexA_ok {t et:TypeId} {n:Nat} {x i:Operand} (hop:o.op=.indexAddr t x i) (ht:arrOf P t=some (n,et)) (hd:zdh B.n o=true) (h:aIndexA P o σ K n et x i):∃ fx,K fx∧Eff P B o fx.rd σ fx.wr:=by
 have hu:=zs3 ht;unfold aIndexA at h;split at h
 ·rename_i kk j m hi hm
  have run:∀ (a:Act) w q p,a.eval x=.pointer (some ⟨q,p,none⟩)->a.eval i=.int kk j->0<=j->j<n->(execOp a.eval o).run P w=.ok (.value (.pointer (some ⟨q,p+j.toNat*m,none⟩))) w:=fun a w q p hv hn h0 a0=>by
   have hz:=zie hm w;have h3:0<=j∧j<(n:Int):=⟨h0,a0⟩;simp only [execOp,hop,hv,hn,Instr.indexAt,asIntOf,Instr.sureAddr,Sem.run_bind,Sem.run_pure,Result.andThen_ok,run_underlying hu,if_pos h3,hz,addr_add]
  split at h
  ·rename_i b g k p q hx
   have a4:∀ (σ':St),(∀ y∈opd x++opd i++[Loc.gen b],σ' y=σ y)->∀ a w ρ,SatR B σ' a w ρ->σ.gn b=g->∃ v,a.eval x=v∧RepA w (Imm B σ' ρ w) ρ σ'.gn v (.elt b g k p q)∧a.eval i=.int kk j∧σ'.gn b=g:=fun σ' hag a w ρ hs hg=>by
    have h1:=za0 hs x;have h2:=za0 hs i;rw [zai (zao (zao hag)),hx] at h1;rw [zai (za3 (zao hag))] at h2;exact ⟨_,rfl,h1,zcy hi h2,(zd6 (za3 hag (.gen b) (by simp))).trans hg⟩
   split at h
   ·rename_i hc;simp only [yar,Nat.beq_eq] at hc;obtain ⟨⟨⟨rfl,rfl⟩,rfl⟩,rfl⟩:=hc;obtain ⟨⟨h0,a0,hg⟩,h⟩:=h.out;refine ⟨_,h,Eff.pure hd fun σ' hag a w ρ hs=>?_⟩;obtain ⟨v,hv,h1,h2,hg'⟩:=a4 σ' hag a w ρ hs hg;cases h1 with
    | elt _ _ _ _ _ _ a2 hgg hh =>
     obtain ⟨q0,z0,n0,c0,e1,e2⟩:=hh hg';subst e2;have a3:=run a w q0 (z0+(0*1+0)) hv h2 h0 a0;exact ⟨_,a3,.elt _ b g 1 j.toNat 0 rfl hgg fun _=>⟨q0,z0,n0,c0,e1,by simp⟩⟩
   ·obtain ⟨⟨h0,a0,hg⟩,h⟩:=h.out;refine ⟨_,h,Eff.pure hd fun σ' hag a w ρ hs=>?_⟩;obtain ⟨v,hv,h1,h2,hg'⟩:=a4 σ' hag a w ρ hs hg;cases h1 with
    | elt _ _ _ _ _ _ a2 hgg hh =>
     obtain ⟨q0,z0,n0,c0,e1,e2⟩:=hh hg';subst e2;have a3:=run a w q0 _ hv h2 h0 a0;exact ⟨_,a3,.elt _ b g k p (q+j.toNat*m) rfl hgg fun _=>⟨q0,z0,n0,c0,e1,by rw [ybb,ybb]⟩⟩
  ·rename_i cs hx;obtain ⟨⟨h0,a0⟩,h⟩:=h.out;refine ⟨_,h,Eff.pure hd fun σ' hag a w ρ hs=>?_⟩;have h1:=za0 hs x;have h2:=za0 hs i;rw [zai (zao hag),hx] at h1;rw [zai (za3 hag)] at h2;have hn:=zcy hi h2;have h1:=h1.im_inv;generalize hv:a.eval x=v at h1;cases h1 with
   | ref b q us _ hS hl a2 hu' hr =>
    refine ⟨_,run a w b q hv hn h0 a0,.im _ _ (.ref b (q+j.toNat*m) (us.drop (j.toNat*m)) (cs.drop (j.toNat*m)) hS (by simp [hl]) (fun u a5=>a2 u (ya1 a5)) (fun p u hj=>?_) fun p u y hj hy=>?_)⟩
    ·rw [ya6] at hj;have:=hu' _ u hj
     rwa [<- ybb] at this
    ·rw [ya6] at hj hy;exact hr _ u y hj hy
  ·rename_i b g p hx;obtain ⟨⟨h0,a0,hg⟩,h⟩:=h.out;refine ⟨_,h,Eff.pure hd fun σ' hag a w ρ hs=>?_⟩;have h1:=za0 hs x;have h2:=za0 hs i;rw [zai (zao (zao hag)),hx] at h1;rw [zai (za3 (zao hag))] at h2;have hn:=zcy hi h2;have hg':=(zd6 (za3 hag (.gen b) (by simp))).trans hg;generalize hv:a.eval x=v at h1;cases h1 with
   | own _ _ _ _ a2 hgg hh =>
    obtain ⟨q,e1,e2⟩:=hh hg';exact ⟨_,run a w q p (hv.trans e2) hn h0 a0,.own _ b g (p+j.toNat*m) rfl hgg fun _=>⟨q,e1,rfl⟩⟩
  ·exact h.elim
 ·exact h.elim
theorem flat_ones {α:Type}:∀ {es:List (List α)},(∀ x∈es,x.length=1)->es.flatten.length=es.length
 | [],_=>rfl
 | x::es,h=>by
  rw [ya4,zkJ,flat_ones fun y hy=>h y (by simp [hy]),h x (by simp),zkL];omega
theorem aLoadA_ok {t:TypeId} {p:Operand} {b g k i j:Nat} (hop:o.op=.load t p) (hp:evA σ p=.elt b g k i j) (hw:wholeA P t k=true) (hd:zdh B.n o=true) (h:aLoadA P o σ K t p b g k i j):∃ fx,K fx∧Eff P B o fx.rd σ fx.wr:=by
 have a3:zp2 P t=some true:=by
  unfold wholeA at hw;split at hw
  ·rename_i n hn;obtain ⟨e,hu,_⟩:=zu3 hn;unfold zp2;rw [hu];rfl
  ·cases hw
 unfold aLoadA at h;split at h
 ·rename_i t' k' es m a8 hm;obtain ⟨hc,h⟩:=h.ok;simp only [yar,Nat.beq_eq] at hc;obtain ⟨⟨⟨rfl,rfl⟩,rfl⟩,rfl⟩:=hc;obtain ⟨⟨hg,a0⟩,h⟩:=h.out;have h:=h.out;refine ⟨_,h,Eff.pure hd fun σ' hag a w ρ hs=>?_⟩;obtain ⟨a4,hg',a7,_⟩:=zdx hag;have h1:=za0 hs p;rw [zai a4,hp] at h1;have ho:=hs.obs b;rw [a7.trans a8] at ho;obtain ⟨us,h2,h3,h4,h5,h6,h7,h8⟩:=ho;generalize hv:a.eval p=v at h1;cases h1 with
  | elt _ _ _ _ _ _ a2 hgg hh =>
   obtain ⟨q,z,n,c,e1,e2⟩:=hh (hg'.trans hg)
   have a5:z=0:=by
    rcases h5.2 with ⟨f,_⟩ | ⟨_,_,_,f,_⟩
    ·rw [f] at e1;cases e1
    ·rw [f] at e1;injection e1 with e1 _ _
     injection e1 with e1
     injection e1 with _ e1
     exact e1.symm
   subst a5;rw [yae] at e2;subst e2;have a6:us.length=m:=by rw [h6,flat_ones h3,a0]
   refine ⟨.agg us.toArray,?_,.im _ _ (.agg us _ h6 h7 h8)⟩
   have:=znq (P:=P) (t:=t) (us:=us) a3 (by rw [a6];exact hm) (b:=q) (q:=0*1+0) (w:=w) (fun p u hu=>by
    have:=h5.cells (g:=q) (by rw [e1];rfl) p u hu
    rw [addr_add,yae] at this
    simpa using this)
   have hr:(Instr.loadAt t (a.eval p)).run P w=.ok (.agg us.toArray) w:=by rw [hv];exact this
   simp [execOp,hop,hr]
 ·exact h.elim
theorem aLenM_ok {c:Call} {t kt et:TypeId} {ts:List TypeId} {x:Operand} {b g:Nat} {l:List (Value×Value)} (hop:o.op=.call c) (hc:c.callee=.builtin .len) (ha:c.args.toList=[x]) (ht:c.argTypes.toList=t::ts) (hm:ztl P t=some (kt,et)) (hx:evA σ x=.osl b g) (hkd:σ.kd b=.map l) (hd:zdh B.n o=true) (h:aLenM o σ K x b g l):∃ fx,K fx∧Eff P B o fx.rd σ fx.wr:=by
 have a4:c.argTypes[0]?=some t:=by rw [<- yao,ht];rfl
 have a7:∀ a:Act,(c.args.map a.eval)[0]?=some (a.eval x):=fun a=>by rw [<- yao,ybx,ha];rfl
 have hu:=zl2 hm;unfold aLenM at h;obtain ⟨hg,h⟩:=h.out;have h:=h.out;refine ⟨_,h,Eff.pure hd fun σ' hag a w ρ hs=>?_⟩;obtain ⟨a0,hg',a5,_⟩:=zdx hag;have h1:=za0 hs x;rw [zai a0,hx] at h1;have ho:=hs.obs b;rw [a5.trans hkd] at ho;obtain ⟨q,a6,es,e1,e2,e3,a8⟩:=ho;have a3:=MapKept.run_getObj_map (P:=P) e2;generalize hv:a.eval x=v at h1;cases h1 with
 | osl _ _ _ a2 hgg hh =>
  rw [hh (hg'.trans hg),e1] at hv;have hl:l.length=es.size:=by rw [<- e3];simp
  refine ⟨.int .i64 es.size,?_,by rw [hl];exact zdt _⟩;simp only [execOp,hop,resolve,hc,invoke,builtin,Builtin.len_,a4,a7,Sem.run_bind,Sem.run_pure,Result.andThen_ok,run_underlying hu,hv,goInt,a3]
theorem part_int {e:TypeId} {w:World} (hu:P.underlying e=some (.int .i64)) {ks:yab} {i:Nat} {c:Int} (h:ks[i]?=some c):(part e (ks.map (Value.int .i64)).toArray i).run P w=.ok (.int .i64 c) w:=by
 have a0:zp2 P e=some false:=by unfold zp2;rw [hu];rfl
 have hi:(ks.map (Value.int .i64)).toArray[i]?=some (.int .i64 c):=by simp [h]
 unfold part;rw [Sem.run_bind,zrh a0];simp only [Result.andThen_ok,ydl,if_false,hi,Sem.run_pure]
theorem zuf {kt e:TypeId} {n:Nat} (hu:P.underlying kt=some (.array n e)) (he:P.underlying e=some (.int .i64)) (hs:szOf P e=some 1) (em:Bool) {ks:yab} (hl:ks.length=n) (w:World):(Instr.checkKey em 10000 kt (wA ks)).run P w=.ok () w:=by
 unfold wA;rw [Instr.checkKey];simp only [Sem.run_bind,run_underlying hu,Result.andThen_ok];simp only [Std.Legacy.Range.forIn_eq_forIn_range',Std.Legacy.Range.size,ydk,Nat.add_one_sub_one,Nat.div_one];have a0:∀ i∈List.range' 0 n,i<ks.length:=fun i hi=>by rw [hl];simpa using List.mem_range'_1.1 hi
 generalize List.range' 0 n=is at a0
 induction is with
 | nil=>simp
 | cons j is ih =>
  have hj:=a0 j (by simp);have hp:=part_int (w:=w) he (zkM hj)
  have a2:(Instr.checkKey em 9999 e (.int .i64 ks[j])).run P w=.ok () w:=by
   rw [Instr.checkKey,Sem.run_bind,run_underlying he];rfl
  simp only [List.forIn_cons,Sem.run_bind,zie hs,Result.andThen_ok,ycj,hp,a2,Sem.run_pure];exact ih fun y hy=>a0 y (by simp [hy])
theorem eq_items {e:TypeId} (he:P.underlying e=some (.int .i64)) {ks ls:yab} (hl:ks.length=ls.length) (w:World):∀ is:List Nat,(∀ i∈is,i<ks.length) ->
  (Op.eqItems 9999 e 1 (ks.map (Value.int .i64)).toArray (ls.map (Value.int .i64)).toArray is).run P w=.ok (is.all fun i=>decide (ks[i]?=ls[i]?)) w
 | [],_=>by simp [Op.eqItems]
 | i::is,h=>by
  have hi:=h i (by simp);have hi':i<ls.length:=by omega
  have p1:=part_int (w:=w) he (zkM hi);have p2:=part_int (w:=w) he (zkM hi')
  have a0:(Op.equalIn 9999 e (.int .i64 ks[i]) (.int .i64 ls[i])).run P w=.ok (ks[i]==ls[i]) w:=by
   rw [Op.equalIn,Sem.run_bind,run_underlying he];simp
  rw [List.all_cons,zkM hi,zkM hi'];simp only [Op.eqItems,ycj,Sem.run_bind,p1,p2,a0,Result.andThen_ok];by_cases hc:ks[i]=ls[i]
  ·simp [hc,eq_items he hl w is fun j hj=>h j (by simp [hj])]
  ·simp [hc]
theorem all_get {ks ls:yab} {n:Nat} (h1:ks.length=n) (h2:ls.length=n):((List.range n).all fun i=>decide (ks[i]?=ls[i]?))=decide (ks=ls):=by
 rw [yec];simp only [ybf,ycz,decide_eq_true_eq];constructor
 ·intro h;apply yb7;intro i;by_cases hi:i<n
  ·exact h i hi
  ·rw [ybe (by omega),ybe (by omega)]
 ·rintro rfl i _;rfl
theorem equal_arr {kt e:TypeId} {n:Nat} (hu:P.underlying kt=some (.array n e)) (he:P.underlying e=some (.int .i64)) (hs:szOf P e=some 1) {ks ls:yab} (h1:ks.length=n) (h2:ls.length=n) (w:World):(Op.equal kt (wA ks) (wA ls)).run P w=.ok (decide (ks=ls)) w:=by
 obtain ⟨i,hi,a2⟩:∃ i,P.info? e=some i∧i.size=1:=by
  unfold szOf at hs;cases hi:P.info? e with
  | none=>rw [hi] at hs;cases hs
  | some i=>rw [hi] at hs;exact ⟨i,rfl,by simpa using hs⟩
 have a0:P.cellsOf e=1:=by simp [Program.cellsOf,hi,a2]
 unfold Op.equal wA;rw [show Op.maxDepth=9999+1 from rfl,run_equalIn_array w 9999 _ _ hu hi,a0,eq_items he (by omega) w _ (fun i hi=>by rw [h1];simpa using hi),all_get h1 h2]
theorem zpx {kt e:TypeId} {n:Nat} (hu:P.underlying kt=some (.array n e)) (he:P.underlying e=some (.int .i64)) (hs:szOf P e=some 1) {ks:yab} (h1:ks.length=n) (w:World):∀ (es:List MapEntry) (i:Nat) (m:List (yab×Value)),es.map (fun e=>(e.key,e.val))=m.map (fun p=>(wA p.1,p.2))->(∀ p∈m,p.1.length=n) ->
  ((Instr.findAsking kt (wA ks) es i).run P w=.ok none w∧getA ks m=none∧∀ v,setA ks v m=m++[(ks,v)]) ∨
  ∃ j e,(Instr.findAsking kt (wA ks) es i).run P w=.ok (some (i+j,e.val)) w∧getA ks m=some e.val∧es[j]?=some e∧e.key=wA ks∧∀ v,(setA ks v m).map (fun p=>(wA p.1,p.2))=(es.set j { e with key:=wA ks,val:=v }).map (fun e=>(e.key,e.val))
 | [],i,[],_,_=>.inl ⟨by simp [Instr.findAsking],rfl,fun _=>rfl⟩
 | [],_,_::_,h,_=>by simp at h
 | _::_,_,[],h,_=>by simp at h
 | x::es,i,p::m,h,hm=>by
  simp only [yan,List.cons.injEq,zkG] at h;obtain ⟨⟨hk,hv⟩,ht⟩:=h;have heq:=equal_arr hu he hs h1 (hm p (by simp)) w;by_cases hc:ks=p.1
  ·refine .inr ⟨0,x,?_,?_,rfl,by rw [hk,hc],fun v=>?_⟩
   ·rw [Instr.findAsking,Sem.run_bind,hk,heq];simp [hc]
   ·simp [getA,hc,hv]
   ·simp [setA,hc,ht]
  ·have hdc:decide (ks=p.1)=false:=by simp [hc]
   rcases zpx hu he hs h1 w es (i+1) m ht fun q hq=>hm q (by simp [hq]) with ⟨f1,f2,f3⟩ | ⟨j,y,f1,f2,f3,f4,f5⟩
   ·refine .inl ⟨?_,?_,fun v=>?_⟩
    ·rw [Instr.findAsking,Sem.run_bind,hk,heq];simp [hc,f1]
    ·simp [getA,hc,f2]
    ·simp [setA,hc,f3]
   ·refine .inr ⟨j+1,y,?_,?_,by simpa using f3,f4,fun v=>?_⟩
    ·rw [Instr.findAsking,Sem.run_bind,hk,heq];simp [hc,f1,ybb,yb9 1 j]
    ·simp [getA,hc,f2]
    ·simp [setA,hc,f5,hk,hv]
theorem find_arr {kt e:TypeId} {n:Nat} (hu:P.underlying kt=some (.array n e)) {k:Value} {es:List MapEntry} (w:World):∀ {ks:yab},k=wA ks->(Instr.findKey kt k es).run P w=(Instr.findAsking kt k es 0).run P w∨(es=[]∧(Instr.findKey kt k es).run P w=.ok none w):=by
 rintro ks rfl;unfold Instr.findKey;rw [Sem.run_bind,run_underlying hu];simp only [Result.andThen_ok];cases es with
 | nil=>exact .inr ⟨rfl,rfl⟩
 | cons x es=>exact .inl (by simp [Instr.findNow,Instr.sameNow,wA])
theorem zu7 {kt e:TypeId} {n:Nat} (hu:P.underlying kt=some (.array n e)) {es:List MapEntry} (w:World) (ks:yab):(Instr.findKey kt (wA ks) es).run P w=(Instr.findAsking kt (wA ks) es 0).run P w:=by
 rcases find_arr hu (es:=es) w (ks:=ks) rfl with h | ⟨rfl,h⟩
 ·exact h
 ·rw [h];simp [Instr.findAsking]
theorem agg_wA {w:World} {S:Nat->Prop} {v:Value} {ks:yab} (h:RepI w S v (.agg (ks.map fun c=>.val (.int .i64 c)))):v=wA ks:=by
 cases h with
 | agg us cs hl h1 hr =>
  unfold wA;congr 2;apply yb7;intro i;by_cases hi:i<us.length
  ·have hk:i<ks.length:=by simpa [hl] using hi
   obtain ⟨u,hu⟩:∃ u,us[i]?=some u:=⟨_,zkM hi⟩;have:=hr i u (.val (.int .i64 ks[i])) hu (by simp [zkM hk]);cases this;rw [hu];simp [zkM hk]
  ·have hk:¬ i<ks.length:=by simpa [hl] using hi
   rw [ybe (by omega),ybe (by simp;omega)]
theorem same_zip:∀ ks:yab,(((ks.map (Value.int .i64)).zip (ks.map (Value.int .i64))).all fun (x,y)=>Instr.sameBits 9999 x y)=true
 | []=>rfl
 | k::ks=>by
  rw [yan,List.zip_cons_cons,List.all_cons,same_zip ks];simp [Instr.sameBits]
theorem sameBits_wA (ks:yab):Instr.sameBits 10000 (wA ks) (wA ks)=true:=by
 unfold wA;rw [Instr.sameBits];simp only [beq_self_eq_true,Bool.true_and];exact same_zip ks
theorem zu0 {t:TypeId} {n:Nat} (h:zwb P t=some n):∃ kt et e,P.underlying t=some (.map kt et)∧ztl P t=some (kt,et)∧P.underlying kt=some (.array n e)∧P.underlying e=some (.int .i64)∧szOf P e=some 1:=by
 unfold zwb at h;split at h
 ·rename_i k et hm;obtain ⟨e,h1,h2,h3⟩:=zu3 h;exact ⟨k,et,e,zl2 hm,hm,h1,h2,h3⟩
 ·cases h
theorem aLookupA_ok {n:Nat} {t:TypeId} {x i:Operand} {ok:Bool} (hop:o.op=.lookup t x i ok) (hka:zwb P t=some n) (hd:zdh B.n o=true) (h:aLookupA P o σ K n t x i ok):∃ fx,K fx∧Eff P B o fx.rd σ fx.wr:=by
 obtain ⟨kt,et,e,a3,a8,hu,he,a4⟩:=zu0 hka;unfold aLookupA at h;split at h
 ·rename_i b6 b8 b g cs a0 hx hi;rw [a8] at a0;simp only [zkF,zkG] at a0;obtain ⟨rfl,rfl⟩:=a0;split at h
  ·rename_i l z a5 hz;obtain ⟨hg,ks,m,⟨k1,k2,k3,k4⟩,h⟩:=h.out;have h:=h.out
   have a2:∀ σ',(∀ y∈opd x++opd i++[.gen b,.knd b],σ' y=σ y)->∀ a w,Sat B σ' a w->(execOp a.eval o).run P w=.ok (.value (if ok=true then .tuple #[(getA ks m).getD z,.bool (getA ks m).isSome] else (getA ks m).getD z)) w:=fun σ' hag a w ⟨ρ,hs⟩=>by
    obtain ⟨ha,hg',b2,_⟩:=zdx hag;have h1:=za0 hs x;have h2:=za0 hs i;rw [zai (zao ha),hx] at h1;rw [zai (za3 ha),hi,k1] at h2;have a9:=agg_wA h2.im_inv;have ho:=hs.obs b;rw [b2.trans a5] at ho;obtain ⟨q,b3,es,e1,e2,e3,b7⟩:=ho
    have a6:a.eval x=.map (some q):=by
     generalize a.eval x=v at h1;cases h1 with
     | osl _ _ _ _ _ hh=>rw [hh (hg'.trans hg),e1]
    have b0:∀ w,(zeroValue et).run P w=.ok z w:=fun w=>by
     unfold zeroV at hz;split at hz
     ·rename_i it b4;simp [zeroValue,typeInfo,b4,hz]
     ·cases hz
    have a7:=MapKept.run_getObj_map (P:=P) e2;have b5:=zpx hu he a4 k2 w es.toList 0 m (e3.trans k3) k4;simp only [execOp,hop,a6,a9,Instr.lookup,Sem.run_bind,run_underlying a3,Result.andThen_ok,a7,Sem.run_pure,zuf hu he a4 _ k2,zu7 hu];rcases b5 with ⟨f1,f2,_⟩ | ⟨j,y,f1,f2,_⟩
    ·rw [f1,f2];cases ok<;>simp [b0]
    ·rw [f1,f2];cases ok<;>simp
   split at h
   ·have h:=h.out;refine ⟨_,h,Eff.pure hd fun σ' hag a w ρ hs=>⟨_,a2 σ' hag a w ⟨ρ,hs⟩,?_⟩⟩;simp only [if_true]
    exact .tup [(getA ks m).getD z,.bool (getA ks m).isSome] _ rfl fun j u y hu hy=>by
     match j with
     | 0=>simp at hu hy;rw [<- hu,<- hy];exact zdt _
     | 1=>simp at hu hy;rw [<- hu,<- hy];exact vB_rep _
     | j+2=>simp at hu
   ·refine ⟨_,h,Eff.pure hd fun σ' hag a w ρ hs=>⟨_,a2 σ' hag a w ⟨ρ,hs⟩,?_⟩⟩;simp only [ydl,if_false];exact zdt _
  ·exact h.elim
 ·exact h.elim
theorem zvj {n:Nat} {t:TypeId} {x i y:Operand} (hop:o.op=.mapUpdate t x i y) (hka:zwb P t=some n) (hd:zdh B.n o=true) (h:zpv P o σ K n t x i y):∃ fx,K fx∧Eff P B o fx.rd σ fx.wr:=by
 obtain ⟨kt,et,e,a4,c7,hu,he,a8⟩:=zu0 hka;unfold zpv at h;split at h
 ·rename_i b g cs v c6 hx hi hy;split at h
  ·rename_i l a5;obtain ⟨hg,ks,m,⟨k1,k2,k3,k4⟩,h⟩:=h.out;have h:=h.out;refine ⟨_,h,fun σ' hag a w ⟨ρ,hs⟩ K' Q hK=>?_⟩;obtain ⟨ha,hg',a7,_⟩:=zdx hag;have h1:=za0 hs x;have h2:=za0 hs i;have h3:=za0 hs y;rw [zai (zao (zao ha)),hx] at h1;rw [zai (za3 (zao ha)),hi,k1] at h2;rw [zai (za3 ha)] at h3;have b3:=agg_wA h2.im_inv;have hv:=zn5 hy h3;have ho:=hs.obs b;rw [a7.trans a5] at ho;obtain ⟨q,a2,es,e1,e2,e3,b4⟩:=ho
   have a9:a.eval x=.map (some q):=by
    generalize a.eval x=u at h1;cases h1 with
    | osl _ _ _ _ _ hh=>rw [hh (hg'.trans hg),e1]
   have b0:=MapKept.run_getObj_map (P:=P) e2;have a6:live σ' b:=by unfold live;rw [a7.trans a5];exact fun z=>by cases z
   have b8:zbm (ρ b)=some q:=by rw [e1];rfl
   have b7:∀ (a3:Array MapEntry) (a0:Nat),(a3.toList.map fun e=>(e.key,e.val))=(setA ks v m).map (fun p=>(wA p.1,p.2))->zrd a3 a0->(execOp a.eval o).run P w=.ok .skip (setBlock w q (.map a3 a0))->o.wp P a w K' Q:=fun a3 a0 c0 b6 b2=>by
    unfold Oper.wp;rw [b2,Oper.upon_skip];refine hK _ _ ⟨ρ,?_⟩
    have b9:=hs.turn (b:=b) (q:=q) (w':=setBlock w q (.map a3 a0)) (k':=.map ((setA ks v m).map fun p=>(wA p.1,p.2))) a6 b8 ⟨rfl,rfl,rfl,by simp [setBlock],fun i _ hi=>heap_setBlock_other e2 _ (fun e=>hi (by rw [e]))⟩ (fun c hc=>by unfold Owns;rw [a7.trans a5];exact hc) fun hI =>
     ⟨q,a0,a3,e1,heap_setBlock_same e2 _,c0,b6⟩
    rw [zb2];exact b9.put (zle hd) (zdt _)
   rcases zpx hu he a8 k2 w es.toList 0 m (e3.trans k3) k4 with ⟨f1,f2,f3⟩ | ⟨j,y',f1,f2,f3,f4,f5⟩
   ·refine b7 (es.push { key:=wA ks,val:=v,born:=a2 }) (a2+1) (by rw [f3];simp [<- k3,e3]) (b4.push _ _) ?_;simp only [execOp,hop,a9,b3,hv,Instr.mapUpdate,Sem.run_bind,run_underlying a4,Result.andThen_ok,b0,Sem.run_pure,zuf hu he a8 _ k2,zu7 hu,f1,MapKept.run_setObj_map _ e2];rfl
   ·have hj:es[j]?=some y':=by rw [<- yao];exact f3
    have b5:j<es.size:=(ybm.1 hj).1;refine b7 (es.modify j fun e=>{ e with key:=wA ks,val:=v }) a2 ?_ (b4.modify _ _ fun _=>rfl) ?_
    ·rw [f5];congr 1;apply yb7;intro n;rw [yao,ycv,ydd];by_cases hn:j=n
     ·subst hn;rw [if_pos rfl,if_pos rfl,if_pos (by simpa using b5),hj];rfl
     ·rw [if_neg hn,if_neg hn,yao]
    ·simp only [execOp,hop,a9,b3,hv,Instr.mapUpdate,Sem.run_bind,run_underlying a4,Result.andThen_ok,b0,Sem.run_pure,zuf hu he a8 _ k2,zu7 hu,f1,yae];rw [hj];simp only [yaj,yba,f4];unfold Instr.keyThatStays;rw [sameBits_wA];simp only [if_true,Sem.run_pure,Result.andThen_ok,MapKept.run_setObj_map _ e2];rfl
  ·exact h.elim
 ·exact h.elim
end
end
section
section
variable {P:Program} {B:Base} {o:Oper} {σ:St} {K:Fx->Prop}
theorem zpu {α:Type} {p:α->Prop}:∀ (ds cs:List α) (i:Nat),(∀ x∈cs,p x)->(∀ x∈ds,p x)->∀ x∈zi5 cs i ds,p x
 | [],cs,i,h,_=>h
 | d::ds,cs,i,h,k=>by
  rw [zi5];refine zpu ds _ _ (fun x hx=>?_) fun x hx=>k x (by simp [hx]);rcases ych hx with h1 | h1
  ·exact h x h1
  ·rw [h1];exact k d (by simp)
theorem zoc (off:Nat):∀ (vs:List Value) (j:Nat) (cells:Array Value),((vs.zipIdx j).foldl (fun cs (p:Value×Nat)=>cs.setIfInBounds (off+p.2) p.1) cells).toList=zi5 cells.toList (off+j) vs
 | [],j,cells=>rfl
 | v::vs,j,cells=>by
  rw [List.zipIdx_cons,List.foldl_cons,zoc off vs,zi5,Array.toList_setIfInBounds,ybb]
theorem zns {w:World} {S:Nat->Prop} {ρ:Ly} {γ:Nat->Nat}:∀ {vs:List Value} {ds:List AV} {us:List Value} {cs:List AV} (i:Nat),Reps w S ρ γ us cs->Reps w S ρ γ vs ds->Reps w S ρ γ (zi5 us i vs) (zi5 cs i ds)
 | [],[],us,cs,i,h,_=>h
 | v::vs,d::ds,us,cs,i,h,k=>by
  rw [zi5,zi5];refine zns (i+1) ⟨by simpa using h.1,fun j u x hu hx=>?_⟩ ⟨by simpa using k.1,fun j u x hu hx=>k.2 (j+1) u x (by simpa using hu) (by simpa using hx)⟩;rw [ydd] at hu hx;by_cases e:i=j
  ·rw [if_pos e] at hu hx;split at hu
   ·rename_i h1;rw [if_pos (by rw [<- h.1];exact h1)] at hx;injection hu with hu
    injection hx with hx
    rw [<- hu,<- hx];exact k.2 0 v d rfl rfl
   ·cases hu
  ·rw [if_neg e] at hu hx;exact h.2 j u x hu hx
 | [],_::_,_,_,_,_,h=>by have:=h.1;simp at this
 | _::_,[],_,_,_,_,h=>by have:=h.1;simp at this
theorem plc_get {t:TypeId} {ps:yad} (h:plcOf P t=some ps) {i off ft m:Nat} (hf:fldOf P t i=some (off,ft)) (hm:szOf P ft=some m):ps.toArray[i]?=some (off,m):=by
 obtain ⟨fs,x,hu,hx,ho,ht⟩:=fld_spec hf;unfold plcOf at h;rw [hu] at h;simp only at h
 have key:∀ (l:List Field) (ps:yad),l.mapM (fun f=>(P.info? f.type).map fun i=>(f.offset,i.size))=some ps->∀ (i:Nat) x,l[i]?=some x->∀ m,szOf P x.type=some m->ps[i]?=some (x.offset,m):=by
  intro l
  induction l with
  | nil=>intro ps _ i x hx;simp at hx
  | cons f l ih =>
   intro ps hp i x hx m hm;simp only [List.mapM_cons,Option.bind_eq_bind,Option.pure_def] at hp;cases hi:P.info? f.type with
   | none=>simp [hi] at hp
   | some ii =>
    cases hr:l.mapM (fun f=>(P.info? f.type).map fun i=>(f.offset,i.size)) with
    | none=>simp [hi,hr] at hp
    | some rest =>
     simp [hi,hr] at hp;subst hp;cases i with
     | zero =>
      simp at hx;subst hx;unfold szOf at hm;rw [hi] at hm;simp at hm;simp [hm]
     | succ i=>simpa using ih rest hr i x (by simpa using hx) m hm
 have:=key fs.toList ps h i x (by rw [yao];exact hx) m (by rw [ht];exact hm);rw [<- ho];simpa using this
theorem zul {t:TypeId} {ps:yad} (hps:plcOf P t=some ps) {σ':St} {a:Act} {w:World} {ρ:Ly} (h:SatR B σ' a w ρ):∀ {l:List (Nat×Operand)} {cs cs':List AV} {cells:Array Value},buildA P t σ l cs=some cs'->(∀ y∈opdL (l.map (·.2)),σ' y=σ y) ->
  Reps w (Imm B σ' ρ w) ρ σ'.gn cells.toList cs->(∀ u∈cells.toList,u.oneCell'=true)->∃ cells',Instr.fill (ps.toArray[·]?) cells (l.map fun p=>(p.1,a.eval p.2))=some cells'∧Reps w (Imm B σ' ρ w) ρ σ'.gn cells'.toList cs'∧∀ u∈cells'.toList,u.oneCell'=true
 | [],cs,cs',cells,e,_,hr,h1=>by
  simp only [buildA,zkF] at e;subst e;exact ⟨cells,rfl,hr,h1⟩
 | (i,x)::l,cs,cs',cells,e,hag,hr,h1=>by
  simp only [buildA] at e;split at e
  ·rename_i off ft vs hf hc;split at e
   ·rename_i m hm;split at e
    ·rename_i hchk;rw [yar] at hchk;have hml:m=vs.length:=by simpa using hchk.1
     have a4:=zhz hchk.2;have hx:=za0 h x;rw [zai fun y hy=>hag y (by simp only [yan,opdL,ya3];exact yai _ hy)] at hx;have r1:=zja hc hx;have r2:=zjc hc hx;have a5:(a.eval x).cells.size=m:=by rw [hml,<- r1.1];simp
     have a0:=zoc off (a.eval x).cells.toList 0 cells;rw [ybl] at a0;generalize a2:((a.eval x).cells.zipIdx.foldl (fun cs (p:Value×Nat)=>cs.setIfInBounds (off+p.2) p.1) cells)=cells1
     have a3:cells1.toList=zi5 cells.toList off (a.eval x).cells.toList:=by
      rw [<- a0,<- a2,<- Array.foldl_toList,Array.toList_zipIdx]
     obtain ⟨cells',q1,q2,q3⟩:=zul hps h (l:=l) (cells:=cells1) e (fun y hy=>hag y (by simp only [yan,opdL,ya3];exact yaf _ hy)) (by rw [a3];exact zns off hr r1) (by rw [a3];exact zpu _ _ _ h1 r2);refine ⟨cells',?_,q2,q3⟩;rw [<- q1,<- a2]
     have hg:¬ ((a.eval x).cells.size≠m∨off+(a.eval x).cells.size > cells.size):=by
      have:=hr.1;simp at this;omega
     simp only [yan,Instr.fill,plc_get hps hf hm];rw [if_neg (by simpa using hg)]
    ·cases e
   ·cases e
  ·cases e
theorem aBuild_ok {t:TypeId} {parts:Array (Nat×Operand)} (hop:o.op=.build t parts) (hd:zdh B.n o=true) (h:aBuild P o σ K t parts):∃ fx,K fx∧Eff P B o fx.rd σ fx.wr:=by
 unfold aBuild at h;split at h
 ·rename_i z hz;split at h
  ·rename_i cs a7;obtain ⟨a0,h⟩:=h.ok;rw [yar] at a0;refine ⟨_,h,Eff.pure hd fun σ' hag a w ρ hs=>?_⟩;obtain ⟨ps,a2⟩:=yd8.1 a0.1
   obtain ⟨it,zv,a6,a3,a4⟩:∃ it zv,P.info? t=some it∧it.zero=some zv∧zv.cells.toList=z:=by
    unfold zeroOf at hz;split at hz
    ·rename_i i hi;cases a3:i.zero with
     | none=>rw [a3] at hz;cases hz
     | some zv =>
      rw [a3] at hz;simp only [yaj,zkF] at hz;exact ⟨i,zv,hi,a3,hz⟩
    ·cases hz
   obtain ⟨fs,hu,a5⟩:∃ fs,P.underlying t=some (.struct fs)∧fs.toList.mapM (fun f=>(P.info? f.type).map fun i=>(f.offset,i.size))=some ps:=by
    unfold plcOf at a2;split at a2
    ·rename_i fs hu;exact ⟨fs,hu,a2⟩
    ·cases a2
   obtain ⟨cells',q1,q2,q3⟩:=zul a2 hs (cells:=zv.cells) a7 hag (by rw [a4];exact ⟨by simp,fun i u y hu hy=>by
    simp only [yat,hu,yaj,zkF] at hy
    rw [<- hy]
    exact .im _ _ (.val _)⟩) (by rw [a4];exact fun u hu=>ybf.1 a0.2 u hu)
   refine ⟨.agg cells',?_,by simpa using zot q2 q3⟩
   have hb:P.built t (parts.map fun (i,x)=>(i,a.eval x)).toList=some cells':=by
    unfold Program.built;simp only [a6,hu,a3,a5,ybx];exact q1
   simp only [execOp,hop,Sem.run_bind,run_build w t _ cells' hb,Result.andThen_ok,Sem.run_pure]
  ·exact h.elim
 ·exact h.elim
theorem zun {pl:Nat->Option (Nat×Nat)} {σ':St} {a:Act} {w:World} {ρ:Ly} (h:SatR B σ' a w ρ):∀ {l:List (Nat×Operand)} {cs cs':List AV} {cells:Array Value},buildG pl σ l cs=some cs'->(∀ y∈opdL (l.map (·.2)),σ' y=σ y) ->
  Reps w (Imm B σ' ρ w) ρ σ'.gn cells.toList cs->(∀ u∈cells.toList,u.oneCell'=true)->∃ cells',Instr.fill pl cells (l.map fun p=>(p.1,a.eval p.2))=some cells'∧Reps w (Imm B σ' ρ w) ρ σ'.gn cells'.toList cs'∧∀ u∈cells'.toList,u.oneCell'=true
 | [],cs,cs',cells,e,_,hr,h1=>by
  simp only [buildG,zkF] at e;subst e;exact ⟨cells,rfl,hr,h1⟩
 | (i,x)::l,cs,cs',cells,e,hag,hr,h1=>by
  simp only [buildG] at e;split at e
  ·rename_i off m vs hf hc;split at e
   ·rename_i hchk;rw [yar] at hchk;have hml:m=vs.length:=by simpa using hchk.1
    have a4:=zhz hchk.2;have hx:=za0 h x;rw [zai fun y hy=>hag y (by simp only [yan,opdL,ya3];exact yai _ hy)] at hx;have r1:=zja hc hx;have r2:=zjc hc hx;have a5:(a.eval x).cells.size=m:=by rw [hml,<- r1.1];simp
    have a0:=zoc off (a.eval x).cells.toList 0 cells;rw [ybl] at a0;generalize a2:((a.eval x).cells.zipIdx.foldl (fun cs (p:Value×Nat)=>cs.setIfInBounds (off+p.2) p.1) cells)=cells1
    have a3:cells1.toList=zi5 cells.toList off (a.eval x).cells.toList:=by
     rw [<- a0,<- a2,<- Array.foldl_toList,Array.toList_zipIdx]
    obtain ⟨cells',q1,q2,q3⟩:=zun h (l:=l) (cells:=cells1) e (fun y hy=>hag y (by simp only [yan,opdL,ya3];exact yaf _ hy)) (by rw [a3];exact zns off hr r1) (by rw [a3];exact zpu _ _ _ h1 r2);refine ⟨cells',?_,q2,q3⟩;rw [<- q1,<- a2]
    have hg:¬ ((a.eval x).cells.size≠m∨off+(a.eval x).cells.size > cells.size):=by
     have:=hr.1;simp at this;omega
    simp only [yan,Instr.fill,hf];rw [if_neg (by simpa using hg)]
   ·cases e
  ·cases e
theorem aBuildR_ok {t et:TypeId} {n:Nat} {parts:Array (Nat×Operand)} (hop:o.op=.build t parts) (ht:arrOf P t=some (n,et)) (hd:zdh B.n o=true) (h:aBuildR P o σ K t et parts):∃ fx,K fx∧Eff P B o fx.rd σ fx.wr:=by
 unfold aBuildR at h;split at h
 ·rename_i z m hz hm;split at h
  ·rename_i cs a7;obtain ⟨a2,h⟩:=h.ok;refine ⟨_,h,Eff.pure hd fun σ' hag a w ρ hs=>?_⟩
   obtain ⟨it,zv,a5,a0,a3⟩:∃ it zv,P.info? t=some it∧it.zero=some zv∧zv.cells.toList=z:=by
    unfold zeroOf at hz;split at hz
    ·rename_i i hi;cases a0:i.zero with
     | none=>rw [a0] at hz;cases hz
     | some zv =>
      rw [a0] at hz;simp only [yaj,zkF] at hz;exact ⟨i,zv,hi,a0,hz⟩
    ·cases hz
   obtain ⟨ie,a6,a4⟩:∃ ie,P.info? et=some ie∧ie.size=m:=by
    unfold szOf at hm;cases hi:P.info? et with
    | none=>rw [hi] at hm;cases hm
    | some i =>
     rw [hi] at hm;simp only [yaj,zkF] at hm;exact ⟨i,rfl,hm⟩
   obtain ⟨cells',q1,q2,q3⟩:=zun hs (cells:=zv.cells) a7 hag (by rw [a3];exact ⟨by simp,fun i u y hu hy=>by
    simp only [yat,hu,yaj,zkF] at hy
    rw [<- hy]
    exact .im _ _ (.val _)⟩) (by rw [a3];exact fun u hu=>ybf.1 a2 u hu)
   refine ⟨.agg cells',?_,by simpa using zot q2 q3⟩
   have hb:P.built t (parts.map fun (i,x)=>(i,a.eval x)).toList=some cells':=by
    unfold Program.built;simp only [a5,zs3 ht,a0,a6,a4,ybx];exact q1
   simp only [execOp,hop,Sem.run_bind,run_build w t _ cells' hb,Result.andThen_ok,Sem.run_pure]
  ·exact h.elim
 ·exact h.elim
theorem aIndexX_ok {t:TypeId} {x i:Operand} (hop:o.op=.index t x i) (hd:zdh B.n o=true) (h:aIndexX P o σ K t x i):∃ fx,K fx∧Eff P B o fx.rd σ fx.wr:=by
 unfold aIndexX at h;split at h
 ·rename_i n et cs k j ht a7 hj;split at h
  ·rename_i m a3 hm;obtain ⟨hi,h'⟩:=h.ok;clear h;rw [yar] at hi;have hn:n=2:=by simpa using hi.1
   have a8:=zhz hi.2;subst hn;have hu:=zs3 ht
   have a0:∀ (q:Nat),j=(↑q:Int)->q<2->∀ σ',(∀ l∈opd x++opd i,σ' l=σ l)->∀ a w ρ,SatR B σ' a w ρ->∃ u,(execOp a.eval o).run P w=.ok (.value u) w∧RepA w (Imm B σ' ρ w) ρ σ'.gn u (aggA ((cs.drop (q*m)).take m)):=fun q hq hq2 σ' hag a w ρ hs=>by
    have h1:=za0 hs x;rw [zai (zao hag)] at h1;have h2:=za0 hs i;rw [zai (za3 hag)] at h2;obtain ⟨us,hv,hr,a2⟩:=znv a7 h1;have a6:=zcy hj h2;have ha:=zrh a3 w;have hz:=zie hm w;refine ⟨.agg ((us.drop (q*m)).take m).toArray,?_,zot ⟨by simp [hr.1],fun j u y hj a4=>?_⟩ fun u a5=>a2 u (ya1 (yaz a5))⟩
    ·have e1:(0:Int)<=j∧j<2:=by omega
     have e2:j.toNat=q:=by omega
     simp [execOp,hop,hv,a6,Instr.index,asIntOf,run_underlying hu,part,ha,hz,e1,e2]
    ·exact hr.2 _ u y (zds hj).1 (zds a4).1
   have h:=h'.out;by_cases e:j=0
   ·refine ⟨_,h.1 (zkB e),Eff.pure hd fun σ' hag a w ρ hs=>?_⟩;have:=a0 0 (by omega) (by omega) σ' hag a w ρ hs;simpa using this
   ·obtain ⟨h1,h⟩:=(h.2 (zkA e)).out;refine ⟨_,h,Eff.pure hd fun σ' hag a w ρ hs=>?_⟩;have:=a0 1 (by omega) (by omega) σ' hag a w ρ hs;simpa using this
  ·exact h.elim
 ·exact h.elim
theorem zmo {t:TypeId} {k:Nat} (h:szOf P t=some k):∃ b,byteOf P t=some b:=by
 unfold szOf at h;unfold byteOf;cases hi:P.info? t with
 | none=>rw [hi] at h;cases h
 | some i=>exact ⟨i.bytes,rfl⟩
theorem aOp_ok {C:FuncId->List Arg->Rs->Prop} (hC:∀ g xs r,C g xs r->SpX P g xs r) {own:List Nat} (hd:zdh B.n o=true) (h:aOp P own o σ K C):∃ fx,K fx∧Eff P B o fx.rd σ fx.wr:=by
 unfold aOp at h;split at h
 ·rename_i x a0;exact aMoves_ok (.inl a0) hd h
 ·rename_i x a0;exact aMoves_ok (.inr a0) hd h
 ·rename_i c x y a0;exact aPick_ok a0 hd h
 ·rename_i t p a0;unfold aLoads at h;split at h
  ·rename_i hp;exact aLoadS_ok a0 hp hd h
  ·rename_i hp;split at h
   ·exact aLoadG_ok a0 hp hd h
   ·split at h
    ·rename_i hw;exact aLoadA_ok a0 hp hw hd h
    ·exact aLoad_ok a0 hd h
  ·exact aLoad_ok a0 hd h
 ·rename_i t p x a0;split at h
  ·rename_i hp;split at h
   ·exact aStoreG_ok a0 hp hd h
   ·exact aStoreE_ok a0 hd hp h
  ·rename_i hp;exact aStoreS_ok a0 hp hd h
  ·exact aStore_ok a0 hd h
 ·rename_i t x a0;exact aBox_ok a0 hd h
 ·rename_i t a0;exact aAllocs_ok a0 hd h
 ·rename_i t p f a0;exact aFieldAddr_ok a0 hd h
 ·rename_i t x f a0;exact aField_ok a0 hd h
 ·rename_i t x i a0;unfold aIndexes at h;split at h
  ·rename_i hx;exact aIndexV_ok a0 hx hd h
  ·rename_i hx;exact aIndexS_ok a0 hx hd h
  ·rename_i hx;split at h
   ·exact aIndexG_ok a0 hx hd h
   ·exact zqw a0 hd h
  ·split at h
   ·rename_i ht;exact aIndexA_ok a0 ht hd h
   ·exact zqw a0 hd h
 ·rename_i t x lo hi mx a0;cases mx with
  | some m=>exact aSlice3_ok a0 hd h
  | none =>
  replace h:aSlices P o σ K t x lo hi:=h;unfold aSlices at h;split at h
  ·rename_i hx;split at h
   ·split at h
    ·exact aSliceQ_ok a0 hx hd h
    ·exact aSliceV_ok a0 hx hd h
   ·exact aSliceT_ok a0 hx hd h
   ·exact h.elim
  ·exact aSlice_ok a0 hd h
 ·rename_i t parts a0;unfold aBuilds at h;split at h
  ·rename_i ht;exact aBuildR_ok a0 ht hd h
  ·exact aBuild_ok a0 hd h
 ·rename_i t x i a0;exact aIndexX_ok a0 hd h
 ·rename_i t len parts a0;split at h
  ·rename_i d0 b3;split at h
   ·split at h
    ·refine aBuildG2_ok a0 hd (fun et a6=>?_) h;unfold zs1 at h;split at h
     ·rename_i d b2 x y a7 a4 hp;rw [a6] at a4;injection a4 with a4
      subst a4;split at h
      ·rename_i k r gr q gq hk hx hy;exact zmo hk
      ·exact h.elim
     ·exact h.elim
    ·refine aBuildG_ok a0 hd (fun et a6=>?_) h;unfold aBuildG at h;split at h
     ·rename_i d b2 x a7 a4 hp;rw [a6] at a4;injection a4 with a4
      subst a4;split at h
      ·rename_i k r gr hk hx;exact zmo hk
      ·exact h.elim
     ·exact h.elim
   ·refine zvn a0 hd (fun et a6=>?_) h;unfold zmn at h;split at h
    ·rename_i d b2 a7 a4;rw [a6] at a4;injection a4 with a4
     subst a4;split at h
     ·rename_i k vs bs hk _;exact zmo hk
     ·exact h.elim
    ·exact h.elim
  ·exact h.elim
 ·rename_i x i a0;exact aExtract_ok a0 hd h
 ·rename_i op t x y t' a0;unfold aBins at h;split at h
  ·exact aBinS_ok a0 hd h
  ·split at h
   ·rename_i hp;exact aBinN_ok a0 hp hd h
   ·split at h
    ·rename_i hp;exact aBinZ_ok a0 hp hd h
    ·exact aBin_ok a0 hd h
 ·rename_i op t x a0;exact aUn_ok a0 hd h
 ·rename_i src dst x a0;obtain ⟨hm,h⟩:=h.ok;exact aConvert_ok a0 hd (yd8.1 hm) h
 ·rename_i fn first b0 a0;exact aMakeFunc_ok a0 hd h
 ·rename_i x a0;exact aNilCheck_ok a0 hd h
 ·rename_i t len b4 a0;exact aMakeSlice_ok a0 hd h
 ·rename_i t r a0;exact aMakeMap_ok a0 hd h
 ·rename_i t x i ok a0;split at h
  ·rename_i a8;exact aLookupA_ok a0 a8 hd h
  ·exact aLookup_ok a0 hd h
 ·rename_i t x i y a0;split at h
  ·rename_i a8;exact zvj a0 a8 hd h
  ·exact aMapUpdate_ok a0 hd h
 ·rename_i c a0;unfold aCalls at h;split at h
  ·rename_i b a3;unfold aBuiltin at h;split at h
   ·split at h
    ·rename_i x a2;split at h
     ·rename_i t ts a5;unfold aLens at h;split at h
      ·rename_i hx;split at h
       ·rename_i he;exact aLenV_ok a0 a3 a2 a5 he hx hd h
       ·exact h.elim
      ·rename_i hx;split at h
       ·rename_i he;exact aLenS_ok a0 a3 a2 a5 he hx hd h
       ·exact h.elim
      ·rename_i hx;split at h
       ·split at h
        ·rename_i he;exact aLenG_ok a0 a3 a2 a5 he hx hd h
        ·exact h.elim
       ·split at h
        ·rename_i hm hk;exact aLenM_ok a0 a3 a2 a5 hm hx hk hd h
        ·exact aLen_ok a0 a3 a2 a5 hd h
      ·exact aLen_ok a0 a3 a2 a5 hd h
     ·exact h.elim
    ·exact h.elim
   ·split at h
    ·rename_i x y a2;split at h
     ·rename_i t t' a5;obtain ⟨a9,h⟩:=h.ok;have a9:t'=t:=by simpa using a9
      subst a9;split at h
      ·rename_i hx;split at h
       ·rename_i hy;exact aAppendT_ok a0 a3 (by rw [<- ybq (xs:=c.args),a2]) (by rw [<- ybq (xs:=c.argTypes),a5]) hx hy hd h
       ·exact aAppendS_ok a0 a3 (by rw [<- ybq (xs:=c.args),a2]) (by rw [<- ybq (xs:=c.argTypes),a5]) hx hd h
      ·split at h
       ·rename_i hy;exact aAppendG_ok a0 a3 (by rw [<- ybq (xs:=c.args),a2]) (by rw [<- ybq (xs:=c.argTypes),a5]) hy hd h
       ·exact aAppend_ok a0 a3 (by rw [<- ybq (xs:=c.args),a2]) (by rw [<- ybq (xs:=c.argTypes),a5]) hd h
     ·exact h.elim
    ·exact h.elim
   ·split at h
    ·rename_i x y a2;exact aMax_ok a0 a3 a2 hd h
    ·exact h.elim
   ·split at h
    ·rename_i x y a2;exact aMin_ok a0 a3 a2 hd h
    ·rename_i x y z a2;exact aMin3_ok a0 a3 a2 hd h
    ·exact h.elim
   ·split at h
    ·rename_i x t ts a2 a5;exact aClear_ok a0 a3 a2 a5 hd h
    ·exact h.elim
   ·split at h
    ·rename_i x y t t' a2 a5;exact aCopy_ok a0 a3 a2 a5 hd h
    ·exact h.elim
   ·split at h
    ·rename_i x y t t' a2 a5;exact aDelete_ok a0 a3 a2 a5 hd h
    ·exact h.elim
   ·exact h.elim
  ·rename_i f a3;split at h
   ·split at h
    ·exact aCallH_ok hC a0 a3 hd h
    ·split at h
     ·split at h
      ·split at h
       ·exact aCallP_ok hC a0 a3 hd h
       ·exact aCallR_ok hC a0 a3 hd h
      ·exact aCallA_ok hC a0 a3 hd h
     ·exact aCall_ok hC a0 a3 hd h
   ·exact h.elim
  ·exact h.elim
 ·exact h.elim
def EffG (P:Program) (B:Base) (ops:Array Oper) (o:Oper) (rd:List Loc) (σ:St) (wr:List (Loc×Ct)):Prop :=
 ∀ σ',(∀ l∈rd,σ' l=σ l)->∀ a w,Sat B σ' a w->∀ (K:Act->World->Prop) (Q:Exit->Act->World->Prop),(∀ a' w',Sat B (app σ' wr) a' w'->K a' w') ->
  if Region.wanted o (yielded ops a.tmps)=true then o.wp P a w K Q else K (a.put o.dst undef) w
theorem aGuard_ok {C:FuncId->List Arg->Rs->Prop} (hC:∀ g xs r,C g xs r->SpX P g xs r) {own:List Nat} {ops:Array Oper} (h:aGuard P C B.n own ops.toList o σ K):∃ fx,K fx∧EffG P B ops o fx.rd σ fx.wr:=by
 unfold aGuard at h;obtain ⟨hd,h⟩:=h.ok;split at h
 ·rename_i hg;obtain ⟨fx,hk,he⟩:=aOp_ok (B:=B) hC hd h;refine ⟨fx,hk,fun σ' hag a w hs K' Q hK=>?_⟩;have:Region.wanted o (yielded ops a.tmps)=true:=by simp [Region.wanted,hg]
  rw [if_pos this];exact he σ' hag a w hs K' Q hK
 ·rename_i j a0 hg;split at h
  ·rename_i t ht;split at h
   ·rename_i b hb
    have hy:∀ σ' a w,σ' (.tmp t)=σ (.tmp t)->Sat B σ' a w->yielded ops a.tmps j=some b:=fun σ' a w hag ⟨ρ,hs⟩=>by
     have h1:=hs.tms t;have e:σ'.av t=σ.av t:=by unfold St.av;rw [hag]
     rw [e] at h1;have h2:=zki hb h1;have hj:(ops[j]?).bind (·.dst)=some t:=by rw [<- yao];exact ht
     have a3:a.tmps[t]?=some (.bool b):=by
      rw [yck] at h2;cases hc:a.tmps[t]? with
      | none=>rw [hc] at h2;cases h2
      | some v=>rw [hc] at h2;simp only [yba] at h2;rw [h2]
     unfold yielded;rw [hj];simp only [yc2,a3]
    have hw:∀ σ' a w,σ' (.tmp t)=σ (.tmp t)->Sat B σ' a w->Region.wanted o (yielded ops a.tmps)=(b==a0):=fun σ' a w hag hs=>by
     simp only [Region.wanted,hg,hy σ' a w hag hs];cases b<;>cases a0<;>rfl
    have h:=h.out;cases hbw:(b==a0) with
    | true =>
     obtain ⟨fx,hk,he⟩:=aOp_ok (B:=B) hC hd (h.1 hbw);refine ⟨_,hk,fun σ' hag a w hs K' Q hK=>?_⟩;rw [if_pos (by rw [hw σ' a w (hag _ (by simp)) hs];exact hbw)];exact he σ' (fun l hl=>hag l (by simp [hl])) a w hs K' Q hK
    | false =>
     refine ⟨_,h.2 hbw,fun σ' hag a w hs K' Q hK=>?_⟩;rw [if_neg (by rw [hw σ' a w (hag _ (by simp)) hs,hbw];simp)];obtain ⟨ρ,hs⟩:=hs;exact hK _ _ ⟨ρ,hs.put (zle hd) (zdt _)⟩
   ·split at h
    ·rename_i v hv;obtain ⟨a2,h⟩:=h.ok
     have hw:∀ σ' a w,σ' (.tmp t)=σ (.tmp t)->Sat B σ' a w->Region.wanted o (yielded ops a.tmps)=false:=fun σ' a w hag ⟨ρ,hs⟩=>by
      have h1:=hs.tms t;have e:σ'.av t=σ.av t:=by unfold St.av;rw [hag]
      rw [e,hv] at h1;have h2:=h1.im_inv;have hj:(ops[j]?).bind (·.dst)=some t:=by rw [<- yao];exact ht
      have hy:yielded ops a.tmps j=none:=by
       unfold yielded;rw [hj];simp only [yc2];cases hc:a.tmps[t]? with
       | none=>rfl
       | some u =>
        have e2:a.tmps.getD t undef=u:=by rw [yck,hc];rfl
        rw [e2] at h2;obtain rfl:u=v:=by cases h2;rfl
        cases u<;>first | rfl | (cases a2)
      simp only [Region.wanted,hg,hy];rfl
     refine ⟨_,h,fun σ' hag a w hs K' Q hK=>?_⟩;rw [if_neg (by rw [hw σ' a w (hag _ (by simp)) hs];simp)];obtain ⟨ρ,hs⟩:=hs;exact hK _ _ ⟨ρ,hs.put (zle hd) (zdt _)⟩
    ·exact h.elim
  ·exact h.elim
end
inductive Runs (P:Program) (B:Base) (ops:Array Oper):List Nat->St->List (Nat×Fx)->St->Prop
 | nil (σ:St):Runs P B ops [] σ [] σ
 | cons (i:Nat) (o:Oper) (l:List Nat) (σ σ':St) (fx:Fx) (fs:List (Nat×Fx)) (ho:ops[i]?=some o) (he:EffG P B ops o fx.rd σ fx.wr) (h:Runs P B ops l (app σ fx.wr) fs σ'):Runs P B ops (i::l) σ ((i,fx)::fs) σ'
section
variable {P:Program} {B:Base} {ops:Array Oper}
theorem aOps_runs {C:FuncId->List Arg->Rs->Prop} (hC:∀ g xs r,C g xs r->SpX P g xs r) {own:List Nat}:∀ (l:List Oper) (k:Nat) (fs0:List Mk) (σ:St) (K:List Mk->St->Prop),(∀ j,l[j]?=ops[k+j]?) ->
  aOps P C B.n own ops.toList l fs0 σ K->∃ fs σ',Runs P B ops (List.range' k l.length) σ fs σ'∧K (fs0++fs.map fun p=>fxm p.2) σ'
 | [],k,fs0,σ,K,_,h=>⟨[],σ,.nil σ,by simpa [aOps] using h⟩
 | o::l,k,fs0,σ,K,hl,h=>by
  simp only [aOps] at h;obtain ⟨fx,h2,he⟩:=aGuard_ok (B:=B) hC h;rw [frcF_eq] at h2;obtain ⟨fs,σ',hr,hk⟩:=aOps_runs hC l (k+1) (fs0++[fxm fx]) (app σ fx.wr) K (fun j=>by have:=hl (j+1);simpa [ybb,yb9 1 j] using this) h2;have ho:ops[k]?=some o:=by have:=hl 0;simpa using this.symm
  refine ⟨(k,fx)::fs,σ',?_,by simpa using hk⟩;rw [zkL,List.range'_succ];exact .cons k o _ σ σ' fx fs ho he hr
theorem wanted_wp {o:Oper} {i:Nat} (ho:ops[i]?=some o) {a:Act} {w:World} {K:Act->World->Prop} {Q:Exit->Act->World->Prop} (h:if Region.wanted o (yielded ops a.tmps)=true then o.wp P a w K Q else K (a.put o.dst undef) w):wpOp P ops Q i K a w:=by
 unfold wpOp;simp only [ho];split
 ·rename_i hw;rw [if_pos hw] at h;exact .inl h
 ·rename_i hw;rw [if_neg hw] at h;exact h
theorem runs_wp {l:List Nat} {σ σ':St} {fs:List (Nat×Fx)} (h:Runs P B ops l σ fs σ'):∀ {a:Act} {w:World} {Q:Exit->Act->World->Prop},Sat B σ a w->(∀ a' w',Sat B σ' a' w'->Q .normal a' w')->wpOps P ops Q l a w:=by
 induction h with
 | nil σ=>intro a w Q hs hQ;exact hQ a w hs
 | cons i o l σ σ' fx fs ho he hr ih =>
  intro a w Q hs hQ;rw [wpOps_cons];exact wanted_wp ho (he σ (fun _ _=>rfl) a w hs _ Q fun a' w' a0=>ih a0 hQ)
theorem zmp {σ:St} {l:Loc}:∀ {wr:List (Loc×Ct)},(∀ p∈wr,p.1≠l)->(app σ wr) l=σ l:=by
 intro wr
 induction wr generalizing σ with
 | nil=>intro _;rfl
 | cons p wr ih =>
  intro h;show (app (upd σ p.1 p.2) wr) l=σ l;rw [ih fun q hq=>h q (yay _ hq)];rw [zfc,if_neg (fun e=>h p yb3 e.symm)]
theorem app_in {l:Loc}:∀ {wr:List (Loc×Ct)} {σ τ:St},(∃ p∈wr,p.1=l)->(app σ wr) l=(app τ wr) l:=by
 intro wr
 induction wr with
 | nil=>intro σ τ h;obtain ⟨p,hp,_⟩:=h;cases hp
 | cons p wr ih =>
  intro σ τ h;show (app (upd σ p.1 p.2) wr) l=(app (upd τ p.1 p.2) wr) l;by_cases hw:∃ q∈wr,q.1=l
  ·exact ih hw
  ·have hn:∀ q∈wr,q.1≠l:=fun q hq e=>hw ⟨q,hq,e⟩;rw [zmp hn,zmp hn];obtain ⟨q,hq,e⟩:=h;rcases yau.1 hq with rfl | hq
   ·rw [zfc,zfc,if_pos e.symm,if_pos e.symm]
   ·exact absurd e (hn q hq)
theorem app_comm {u v:List (Loc×Ct)} (h:∀ p∈u,∀ q∈v,p.1≠q.1) (σ:St):app (app σ u) v=app (app σ v) u:=by
 funext l;by_cases hu:∃ p∈u,p.1=l
 ·have hv:∀ q∈v,q.1≠l:=fun q hq e=>by
   obtain ⟨p,hp,e'⟩:=hu;exact h p hp q hq (e'.trans e.symm)
  rw [zmp hv];exact app_in hu
 ·have hn:∀ p∈u,p.1≠l:=fun p hp e=>hu ⟨p,hp,e⟩;rw [zmp (σ:=app σ v) hn];by_cases hv:∃ q∈v,q.1=l
  ·exact app_in hv
  ·have hm:∀ q∈v,q.1≠l:=fun q hq e=>hv ⟨q,hq,e⟩;rw [zmp hm,zmp hm,zmp hn]
theorem bit1_eq (m:Nat) (l:Loc):bit1 m l=Nat.lor m (Nat.pow 2 l.code):=by unfold bit1;rw [p2_eq];rfl
theorem bit1_old (m:Nat) (l:Loc) (i:Nat) (h:m.testBit i=true):(bit1 m l).testBit i=true:=by
 rw [bit1_eq];show (m ||| 2^l.code).testBit i=true
 rw [yd1,h,Bool.true_or]
theorem bit1_new (m:Nat) (l:Loc):(bit1 m l).testBit l.code=true:=by
 rw [bit1_eq];show (m ||| 2^l.code).testBit l.code=true
 rw [yd1,Nat.testBit_two_pow_self,Bool.or_true]
theorem mskR_old (ls:List Loc):∀ (m i:Nat),m.testBit i=true->(mskR ls m).testBit i=true:=by
 induction ls with
 | nil=>intro m i h;exact h
 | cons l r ih=>intro m i h;exact ih _ i (bit1_old m l i h)
theorem mskR_mem {l:Loc} (ls:List Loc):∀ (m:Nat),l∈ls->(mskR ls m).testBit l.code=true:=by
 induction ls with
 | nil=>intro m h;cases h
 | cons l' r ih =>
  intro m h;rcases yau.1 h with rfl | h
  ·exact mskR_old r _ _ (bit1_new m l)
  ·exact ih _ h
theorem mskW_eq (ps:List (Loc×Ct)):∀ m:Nat,mskW ps m=mskR (ps.map (·.1)) m:=by
 induction ps with
 | nil=>intro m;rfl
 | cons p r ih=>intro m;exact ih _
theorem zrn {a b i:Nat} (h:Nat.land a b=0) (ha:a.testBit i=true) (hb:b.testBit i=true):False:=by
 have:(a &&& b).testBit i=true:=by rw [Nat.testBit_and,ha,hb];rfl
 rw [show a &&& b=0 from h,Nat.zero_testBit] at this;cases this
theorem indep_spec {f g:Fx} (h:indep f g=true):(∀ p∈f.wr,p.1∉g.rd)∧(∀ p∈f.wr,∀ q∈g.wr,p.1≠q.1)∧∀ p∈g.wr,p.1∉f.rd:=by
 unfold indep indepM at h;have h:=yag h;obtain ⟨a2,h3⟩:=Nat.or_eq_zero_iff.1 (show (Nat.lor (Nat.land (fxm f).2 (fxm g).1) (Nat.land (fxm f).2 (fxm g).2)) ||| Nat.land (fxm g).2 (fxm f).1=0 from h);obtain ⟨h1,h2⟩:=Nat.or_eq_zero_iff.1 (show Nat.land (fxm f).2 (fxm g).1 ||| Nat.land (fxm f).2 (fxm g).2=0 from a2)
 have wm:∀ (f:Fx) p,p∈f.wr->(fxm f).2.testBit p.1.code=true:=fun f p hp=>by
  show (mskW f.wr 0).testBit _=true;rw [mskW_eq];exact mskR_mem _ 0 (yap.2 ⟨p,hp,rfl⟩)
 have rm:∀ (f:Fx) l,l∈f.rd->(fxm f).1.testBit l.code=true:=fun f l hl=>mskR_mem _ 0 hl;exact ⟨fun p hp hc=>zrn h1 (wm f p hp) (rm g _ hc),fun p hp q hq e=>zrn h2 (wm f p hp) (e ▸ wm g q hq),fun p hp hc=>zrn h3 (wm g p hp) (rm f _ hc)⟩
theorem EffG.agree {o:Oper} {σ σ1:St} {fx:Fx} (h:EffG P B ops o fx.rd σ fx.wr) (hag:∀ l∈fx.rd,σ1 l=σ l):EffG P B ops o fx.rd σ1 fx.wr :=
 fun σ' hag' a w hs K Q hK=>h σ' (fun l hl=>(hag' l hl).trans (hag l hl)) a w hs K Q hK
theorem runs_front {l:List Nat} {σ σ':St} {fs:List (Nat×Fx)} (h:Runs P B ops l σ fs σ') {i:Nat}:∀ {pre post:List (Nat×Fx)} {fx:Fx},fs=pre++(i,fx)::post->(∀ p∈pre,indep p.2 fx=true) ->
  ∃ l',Runs P B ops (i::l') σ ((i,fx)::(pre++post)) σ':=by
 induction h with
 | nil σ=>intro pre post fx e _;simp at e
 | cons j o l σ σ' fj fs ho he hr ih =>
  intro pre post fx e hp;cases pre with
  | nil =>
   simp only [ycb,List.cons.injEq,zkG] at e;obtain ⟨⟨rfl,rfl⟩,rfl⟩:=e;exact ⟨l,.cons j o l σ σ' fj fs ho he hr⟩
  | cons p pre =>
   simp only [ycq,List.cons.injEq] at e;obtain ⟨rfl,e⟩:=e;obtain ⟨l',a3⟩:=ih e fun q hq=>hp q (yay _ hq);obtain ⟨h1,h2,h3⟩:=indep_spec (hp (j,fj) yb3);cases a3 with
   | cons _ oi _ _ _ _ _ hoi hei hr2 =>
    have a0:EffG P B ops oi fx.rd σ fx.wr:=hei.agree fun l hl=>(zmp fun p hp e=>h1 p hp (e ▸ hl)).symm;have a2:EffG P B ops o fj.rd (app σ fx.wr) fj.wr:=he.agree fun l hl=>zmp fun p hp e=>h3 p hp (e ▸ hl);refine ⟨j::l',.cons i oi _ σ σ' fx _ hoi a0 (.cons j o _ _ σ' fj _ ho a2 ?_)⟩;rw [<- app_comm h2];exact hr2
end
end
section
theorem befStep_spec {acc:List Nat} {o:Oper} {j:Nat} (h:(zpy acc o).testBit j=true):∃ e∈o.after.toList,Region.binds .any e=true∧(j=e.on∨(acc.getD e.on 0).testBit j=true):=by
 unfold zpy at h
 have key:∀ (l:List Edge) (s:Nat),(l.foldl (fun s e=>if Region.binds .any e=true then s ||| 2^e.on ||| acc.getD e.on 0 else s) s).testBit j=true ->
   s.testBit j=true∨∃ e∈l,Region.binds .any e=true∧(j=e.on∨(acc.getD e.on 0).testBit j=true):=by
  intro l
  induction l with
  | nil=>intro s h;exact .inl h
  | cons e l ih =>
   intro s h;rw [List.foldl_cons] at h;rcases ih _ h with h1 | ⟨e',he',h2⟩
   ·by_cases hb:Region.binds .any e=true
    ·rw [if_pos hb,yd1,yd1,ydy,ydy] at h1;rcases h1 with (h1 | h1) | h1
     ·exact .inl h1
     ·rw [Nat.testBit_two_pow] at h1;exact .inr ⟨e,by simp,hb,.inl (of_decide_eq_true h1).symm⟩
     ·exact .inr ⟨e,by simp,hb,.inr h1⟩
    ·rw [if_neg hb] at h1;exact .inl h1
   ·exact .inr ⟨e',by simp [he'],h2⟩
 rcases key _ 0 h with h1 | h1
 ·simp at h1
 ·exact h1
theorem befs_spec (ops:List Oper):∀ (i:Nat) (o:Oper),ops[i]?=some o->∀ j,((befs ops).getD i 0).testBit j=true->∃ e∈o.after.toList,Region.binds .any e=true∧(j=e.on∨((befs ops).getD e.on 0).testBit j=true):=by
 have key:∀ (rest a2:List Oper) (a0:List Nat),a0.length=a2.length->(∀ (i:Nat) (o:Oper),a2[i]?=some o->∀ j,(a0.getD i 0).testBit j=true->∃ e∈o.after.toList,Region.binds .any e=true∧(j=e.on∨(a0.getD e.on 0).testBit j=true)) ->
   (∀ (i:Nat) (o:Oper),(a2++rest)[i]?=some o->∀ j,((rest.foldl (fun a0 o=>a0++[zpy a0 o]) a0).getD i 0).testBit j=true->∃ e∈o.after.toList,Region.binds .any e=true∧(j=e.on∨((rest.foldl (fun a0 o=>a0++[zpy a0 o]) a0).getD e.on 0).testBit j=true)):=by
  intro rest
  induction rest with
  | nil=>intro a2 a0 _ h;simpa using h
  | cons o rest ih =>
   intro a2 a0 hl h;have e:a2++o::rest=(a2++[o])++rest:=by simp
   rw [e]
   have grow:∀ p j,(a0.getD p 0).testBit j=true->((a0++[zpy a0 o]).getD p 0).testBit j=true:=fun p j hj=>by
    by_cases hp:p<a0.length
    ·rw [ya7,yaq,if_pos hp,<- ya7];exact hj
    ·rw [ya7,ybe (by omega)] at hj;simp at hj
   refine ih (a2++[o]) (a0++[zpy a0 o]) (by simp [hl]) fun i o' a3 j hj=>?_;rw [yaq] at a3;split at a3
   ·rename_i hi;rw [ya7,yaq,if_pos (by omega),<- ya7] at hj;obtain ⟨e1,h1,h2,h3⟩:=h i o' a3 j hj;exact ⟨e1,h1,h2,h3.imp id (grow _ _)⟩
   ·rename_i hi
    have a4:i=a0.length:=by
     have:=(zkI.1 a3).1;simp at this;omega
    subst a4;have:o'=o:=by simpa [hl] using a3.symm
    subst this;rw [ya7,yaq,if_neg (by omega)] at hj;simp at hj;obtain ⟨e1,h1,h2,h3⟩:=befStep_spec hj;exact ⟨e1,h1,h2,h3.imp id (grow _ _)⟩
 intro i o ho j hj;exact key ops [] [] rfl (by simp) i o (by simpa using ho) j hj
theorem zr8 {bs:List Nat} {f:Mk} {i:Nat}:∀ {fs:List Mk} {j:Nat},drawRow bs f i j fs=true->∀ (k:Nat) g,fs[k]?=some g->indepM f g=true∨(bs.getD (j+k) 0).testBit i=true
 | [],j,_,k,g,h=>by simp at h
 | g0::fs,j,h,k,g,hg=>by
  simp only [drawRow,yar,ydy] at h;cases k with
  | zero=>simp at hg;subst hg;exact h.1
  | succ k =>
   have:=zr8 h.2 k g (by simpa using hg);rw [show j+1+k=j+(k+1) from by omega] at this;exact this
theorem zsh {bs:List Nat}:∀ {fs:List Mk} {i:Nat},zue bs i fs=true->∀ (p q:Nat) f g,p<q->fs[p]?=some f->fs[q]?=some g->indepM f g=true∨(bs.getD (i+q) 0).testBit (i+p)=true
 | [],i,_,p,q,f,g,_,hf,_=>by simp at hf
 | f0::fs,i,h,p,q,f,g,hpq,hf,hg=>by
  simp only [zue,yar] at h;cases q with
  | zero=>omega
  | succ q =>
   cases p with
   | zero =>
    simp at hf;subst hf;have:=zr8 h.1 q g (by simpa using hg);rw [show i+1+q=i+(q+1) from by omega] at this;exact this
   | succ p =>
    have:=zsh h.2 p q f g (by omega) (by simpa using hf) (by simpa using hg);rw [show i+1+q=i+(q+1) from by omega,show i+1+p=i+(p+1) from by omega] at this;exact this
theorem ztg:∀ {l:List Oper} {i:Nat},edgeOk i l=true->∀ (k:Nat) o,l[k]?=some o->∀ e∈o.after.toList,Region.binds .any e=true->e.on<i+k
 | [],i,_,k,o,h=>by simp at h
 | o0::l,i,h,k,o,ho=>by
  simp only [edgeOk,yar,ybf,ydy,ydc] at h;cases k with
  | zero =>
   simp at ho;subst ho;intro e he hb;rcases h.1 e he with h1 | h1
   ·rw [hb] at h1;cases h1
   ·exact ze7 h1
  | succ k =>
   intro e he hb;have:=ztg h.2 k o (by simpa using ho) e he hb;omega
section
variable {P:Program} {B:Base} {ops:Array Oper}
theorem runs_idx {l:List Nat} {σ σ':St} {fs:List (Nat×Fx)} (h:Runs P B ops l σ fs σ'):fs.map (·.1)=l∧∀ i∈l,i<ops.size:=by
 induction h with
 | nil σ=>exact ⟨rfl,by simp⟩
 | cons i o l σ σ' fx fs ho he hr ih =>
  refine ⟨by simp [ih.1],fun j hj=>?_⟩;rcases yau.1 hj with rfl | hj
  ·exact (ybm.1 ho).1
  ·exact ih.2 j hj
def Apart (ops:Array Oper) (fs:List (Nat×Fx)):Prop :=
 fs.Pairwise fun p q=>indep p.2 q.2=true∨((befs ops.toList).getD q.1 0).testBit p.1=true
theorem getD_two {l:Array Bool} {i:Nat} (h:i<l.size) (d d':Bool):l.getD i d=l.getD i d':=by simp [h]
theorem runs_any {Q:Exit->Act->World->Prop} (hed:edgeOk 0 ops.toList=true):∀ (fuel:Nat) (listed:Array Bool) (l:List Nat) (σ σ':St) (fs:List (Nat×Fx)) (a:Act) (w:World),listed.size=ops.size->l.length=fuel->(∀ i,i∈l↔listed.getD i true=false) ->
  (∀ k o,ops[k]?=some o->listed.getD k false=true->∀ j,((befs ops.toList).getD k 0).testBit j=true->listed.getD j false=true)->Apart ops fs->l.Pairwise (·<·)->Runs P B ops l σ fs σ'->Sat B σ a w->(∀ a' w',Sat B σ' a' w'->Q .normal a' w') ->
  wpAny P .any ops Q fuel listed a w
 | 0,listed,l,σ,σ',fs,a,w,hsz,hlen,hmem,hdn,hap,hnd,hr,hs,hQ=>by
  have hl:l=[]:=yav hlen;subst hl;cases hr with
  | nil _ =>
   refine ⟨?_,hQ a w hs⟩;rw [List.eq_nil_iff_forall_not_mem];intro i hi;exact absurd ((hmem i).2 (mem_ready.1 hi).1) (by simp)
 | fuel+1,listed,l,σ,σ',fs,a,w,hsz,hlen,hmem,hdn,hap,hnd,hr,hs,hQ=>by
  obtain ⟨hidx,hlt⟩:=runs_idx hr
  have hon:∀ i o,ops[i]?=some o->∀ e∈o.after.toList,Region.binds .any e=true->e.on<i:=fun i o ho e he hb=>by
   have:=ztg hed i o (by rw [yao];exact ho) e he hb;omega
  refine ⟨fun hnil=>?_,fun i hi=>?_⟩
  ·exfalso;cases l with
   | nil=>simp at hlen
   | cons i l =>
    have hi:=hlt i (by simp)
    have hrd:i∈Region.ready .any ops listed:=by
     rw [mem_ready];refine ⟨(hmem i).1 (by simp),ops[i],ycn hi,fun e he hb=>?_⟩;have h1:=hon i ops[i] (ycn hi) e (by simpa using he) hb
     have h2:e.on∉i::l:=fun hm=>by
      rcases yau.1 hm with h | h
      ·omega
      ·have:=(ybi.1 hnd).1 _ h;omega
     rw [getD_two (by omega) false true];cases hc:listed.getD e.on true with
     | true=>rfl
     | false=>exact absurd ((hmem _).2 hc) h2
    rw [hnil] at hrd;cases hrd
  ·obtain ⟨b6,o,ho,b4⟩:=mem_ready.1 hi;have a7:i∈l:=(hmem i).2 b6;have a6:=hlt i a7
   have a8:∀ j,((befs ops.toList).getD i 0).testBit j=true->listed.getD j false=true:=fun j hj=>by
    obtain ⟨e,he,hb,h1⟩:=befs_spec ops.toList i o (by rw [yao];exact ho) j hj;have hl:=b4 e (by simpa using he) hb;have c0:=hon i o ho e he hb;rcases h1 with rfl | h1
    ·exact hl
    ·exact hdn e.on ops[e.on] (ycn (by omega)) hl j h1
   obtain ⟨a0,fx,post,a2⟩:∃ a0 fx post,fs=a0++(i,fx)::post:=by
    rw [<- hidx] at a7;obtain ⟨p,hp,e⟩:=yap.1 a7;obtain ⟨a0,post,b7⟩:=List.append_of_mem hp;exact ⟨a0,p.2,post,by rw [b7,<- e]⟩
   have b5:∀ p∈a0,indep p.2 fx=true:=fun p hp=>by
    unfold Apart at hap;rw [a2,ycy] at hap;rcases hap.2.2 p hp (i,fx) yb3 with h1 | h1
    ·exact h1
    ·have h2:=a8 p.1 h1;have b2:p.1∈l:=by rw [<- hidx,a2];exact yap.2 ⟨p,yai _ hp,rfl⟩
     have h3:=(hmem p.1).1 b2;rw [getD_two (by rw [hsz];exact hlt _ b2) true false,h2] at h3;cases h3
   obtain ⟨l',a9⟩:=runs_front hr a2 b5;have a3:=(runs_idx a9).1;simp only [yan,List.cons.injEq,true_and] at a3;have a4:l=a0.map (·.1)++i::post.map (·.1):=by rw [<- hidx,a2];simp
   have a5:l'=a0.map (·.1)++post.map (·.1):=by rw [<- a3];simp
   have b3:List.Sublist l' l:=by
    rw [a4,a5];exact List.Sublist.append (List.Sublist.refl _) (ydb _ _)
   have b0:i∉l':=by
    rw [a4,ycy] at hnd;obtain ⟨_,h2,h3⟩:=hnd;rw [a5,yal];rintro (h | h)
    ·have:=h3 i h i (by simp);omega
    ·have:=(ybi.1 h2).1 i h;omega
   cases a9 with
   | cons _ oi _ _ _ _ _ hoi hei hr2 =>
    refine wanted_wp hoi (hei σ (fun _ _=>rfl) a w hs _ Q fun a' w' b8=>?_);refine runs_any hed fuel (listed.setIfInBounds i true) l' _ σ' (a0++post) a' w' (by simp [hsz]) ?_ (fun j=>?_) (fun k ok b9 hk j hj=>?_) ?_ (hnd.sublist b3) hr2 b8 hQ
    ·rw [a4] at hlen;rw [a5];simp at hlen ⊢;omega
    ·by_cases e:j=i
     ·subst e;constructor
      ·intro h;exact absurd h b0
      ·intro h;rw [getD_two (by simp [hsz];exact a6) true false,show (listed.setIfInBounds j true).getD j false=true by simp [hsz,a6]] at h;cases h
     ·rw [getD_set_ne true (Ne.symm e),<- hmem j,a4,a5];simp [e]
    ·by_cases e:k=i
     ·subst e;exact getD_set_true (a8 j hj)
     ·rw [getD_set_ne false (Ne.symm e)] at hk;exact getD_set_true (hdn k ok b9 hk j hj)
    ·unfold Apart at hap ⊢;rw [a2] at hap;exact hap.sublist (List.Sublist.append (List.Sublist.refl _) (ydb _ _))
theorem apart_of {fs:List (Nat×Fx)} {n:Nat} (hidx:fs.map (·.1)=List.range n) (h:zue (befs ops.toList) 0 (fs.map fun p=>fxm p.2)=true):Apart ops fs:=by
 unfold Apart;rw [yca];intro p q hp hq a0;have h1:=zsh h p q (fxm fs[p].2) (fxm fs[q].2) a0 (by simp [hp]) (by simp [hq])
 have idx:∀ r (hr:r<fs.length),fs[r].1=r:=fun r hr=>by
  have:(fs.map (·.1))[r]?=some fs[r].1:=by simp [hr]
  rw [hidx] at this;have a2:fs.length=n:=by have:=congrArg List.length hidx;simpa using this
  rw [yb6 (by omega)] at this;injection this with this
  exact this.symm
 rw [idx p hp,idx q hq];unfold indep;simpa only [yae] using h1
theorem aRegion_ok (hm:P.follows .mixedOrders=true) {C:FuncId->List Arg->Rs->Prop} (hC:∀ g xs r,C g xs r->SpX P g xs r) {own:List Nat} {id:Nat} {draw:Bool} {σ:St} {K:Exit->St->Prop}
  (h:aOps P C B.n own ops.toList ops.toList [] σ fun fs σ'=>Chk (!draw||drawOk ops.toList fs) (K .normal σ')) {a:Act} {w:World} (hs:Sat B σ a w) {Q:Exit->Act->World->Prop} (hQ:∀ e σ' a' w',K e σ'->Sat B σ' a' w'->Q e a' w'):(Code.region id ops draw).wp P Q a w:=by
 obtain ⟨fs,σ',hr,hk⟩:=aOps_runs (B:=B) (ops:=ops) hC ops.toList 0 [] σ _ (fun j=>by simp) h;rw [<- List.range_eq_range'] at hr;rw [ycb] at hk;obtain ⟨a0,a3⟩:=hk.ok;have a4:ops.toList.length=ops.size:=by simp
 rw [a4] at hr;cases draw with
 | false=>exact wp_region (runs_wp hr hs fun a' w' a2=>hQ .normal σ' a' w' a3 a2)
 | true =>
  simp only [yc7,Bool.false_or] at a0;unfold drawOk at a0;rw [yar] at a0;refine wp_region_any hm ?_;have a5:=(runs_idx hr).1;refine runs_any a0.1 ops.size (Array.replicate ops.size false) (List.range ops.size) σ σ' fs a _ (by simp) (by simp) (fun i=>?_) (fun k o ho hk=>?_) (apart_of a5 a0.2) List.pairwise_lt_range hr ?_ fun a' w' a2=>hQ .normal σ' a' w' a3 a2
  ·by_cases h:i<ops.size
   ·simp [h]
   ·simp [h]
  ·have:k<ops.size:=(ybm.1 ho).1;simp [this] at hk
  ·obtain ⟨ρ,hs⟩:=hs;exact ⟨ρ,(hs.world (w':={ w with drawn:=w.drawn+1 }) ⟨rfl,rfl,rfl,yam _,fun _ _=>rfl⟩).1⟩
end
end
end Go.Proofs.YtkiajpbdicaceaaGreatDoor.Sym

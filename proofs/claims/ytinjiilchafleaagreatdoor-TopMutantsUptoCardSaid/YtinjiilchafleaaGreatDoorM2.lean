/- Parts of the proof. -/
import Derived.Test.YtinjiilchafleaaGreatDoorM1
import Derived.Maps.Own
import Derived.Laws.StructEq
import Derived.ChangeKeysEq
import Derived.Great.BuildSlice
import Derived.Orders
set_option linter.all false
set_option maxRecDepth 100000
set_option maxHeartbeats 4000000
open Go.RowKit
namespace Go.Proofs.YtinjiilchafleaaGreatDoor.Sym
section
theorem mkObj_eqs (σ τ:St) (nm:Nat) (k:Kd):(∀ o,(app σ (zew τ nm k)).kd o=if o=nm then k else σ.kd o)∧(∀ o,(app σ (zew τ nm k)).gn o=if o=nm then τ.gn nm+1 else σ.gn o)∧(∀ o,(app σ (zew τ nm k)).ig o=σ.ig o) ∧
  (∀ t,(app σ (zew τ nm k)).av t=σ.av t)∧∀ o i,(app σ (zew τ nm k)).ce o i=σ.ce o i:=by
 unfold zew;simp only [zca,zfy];exact ⟨fun o=>by rw [zfn,kd_gen],fun o=>by rw [zgu,gn_gen],fun o=>by rw [zj7,ig_gen],fun o=>by rw [zjq,av_gen],fun o i=>by rw [zka,ce_gen]⟩
theorem mkK_eqs (σ τ:St) (nm:Nat) (k:Kd):(∀ o,(app σ (zhc τ nm k)).kd o=if o=nm then k else σ.kd o)∧(∀ o,(app σ (zhc τ nm k)).gn o=if o=nm then τ.gn nm+1 else σ.gn o)∧(∀ o,(app σ (zhc τ nm k)).ig o=if o=nm∧zse k=true then τ.ig nm+1 else σ.ig o) ∧
  (∀ t,(app σ (zhc τ nm k)).av t=σ.av t)∧∀ o i,(app σ (zhc τ nm k)).ce o i=σ.ce o i:=by
 have hn:zse k=false->(∀ o,(app σ (zew τ nm k)).kd o=if o=nm then k else σ.kd o)∧(∀ o,(app σ (zew τ nm k)).gn o=if o=nm then τ.gn nm+1 else σ.gn o)∧(∀ o,(app σ (zew τ nm k)).ig o=if o=nm∧zse k=true then τ.ig nm+1 else σ.ig o) ∧
  (∀ t,(app σ (zew τ nm k)).av t=σ.av t)∧∀ o i,(app σ (zew τ nm k)).ce o i=σ.ce o i:=fun hg=>by
  obtain ⟨h1,h2,h3,h4,h5⟩:=mkObj_eqs σ τ nm k;exact ⟨h1,h2,fun o=>by rw [if_neg (fun e=>by rw [hg] at e;cases e.2)];exact h3 o,h4,h5⟩
 cases k with
 | dead=>exact hn rfl
 | box t m=>exact hn rfl
 | row e m es=>exact hn rfl
 | map l=>exact hn rfl
 | bag t e m l q=>exact hn rfl
 | mapI l c=>exact hn rfl
 | que e m es=>exact hn rfl
 | grid e e' m gs q =>
  show (∀ o,(app (upd σ (.ign nm) (.n (τ.ig nm+1))) (zew τ nm _)).kd o=_)∧(∀ o,(app (upd σ (.ign nm) (.n (τ.ig nm+1))) (zew τ nm _)).gn o=_)∧(∀ o,(app (upd σ (.ign nm) (.n (τ.ig nm+1))) (zew τ nm _)).ig o=_) ∧
   (∀ t,(app (upd σ (.ign nm) (.n (τ.ig nm+1))) (zew τ nm _)).av t=_)∧∀ o i,(app (upd σ (.ign nm) (.n (τ.ig nm+1))) (zew τ nm _)).ce o i=_
  obtain ⟨h1,h2,h3,h4,h5⟩:=mkObj_eqs (upd σ (.ign nm) (.n (τ.ig nm+1))) τ nm (.grid e e' m gs q);refine ⟨fun o=>by rw [h1,kd_ign],fun o=>by rw [h2,gn_ign],fun o=>?_,fun t=>by rw [h4,av_ign],fun o i=>by rw [h5,ce_ign]⟩;rw [h3,ig_ign];by_cases e1:o=nm
  ·rw [if_pos e1,if_pos ⟨e1,rfl⟩]
  ·rw [if_neg e1,if_neg (fun h=>e1 h.1)]
def innK (k:Kd) (inn old:List Value):List Value:=match k with
 | .grid _ _ _ _ _=>inn
 | .bag _ _ _ _ _=>inn
 | .mapI _ _=>inn
 | _=>old
theorem fpk_innK (v:Value) (k:Kd) (inn old:List Value):fpk v (innK k inn old) k=fpk v inn k:=by cases k<;>rfl
theorem hold_innK {w:World} {S:Nat->Prop} {v:Value} {inn old:List Value}:∀ {k:Kd},zd5 w S v inn k->zd5 w S v (innK k inn old) k
 | .dead,h=>h
 | .box _ _,h=>h
 | .row _ _ _,h=>h
 | .grid _ _ _ _ _,h=>h
 | .map _,h=>h
 | .bag _ _ _ _ _,h=>h
 | .mapI _ _,h=>h
 | .que _ _ _,h=>h
def setK (ρ:Ly) (σ':St) (nm:Nat) (v:Value) (inn:List Value) (k:Kd):Ly:=⟨fun o=>if o=nm then v else ρ o,fun o=>if o=nm then innK k inn (ρ.inn nm) else ρ.inn o,σ'.ig⟩
section
variable {P:Program} {B:Base} {o:Oper} {σ:St} {K:Fx->Prop}
theorem adopt_one {a:Act} {w:World} {ρ:Ly} (h:SatR B σ a w ρ) {S':Nat->Prop} {v:Value} {k:Kd} {inn:List Value} {nm:Nat} {τ:St} (hg:σ.gn nm=τ.gn nm) (hi:σ.ig nm=τ.ig nm) (hh:zd5 w S' v inn k) (hS:∀ b,S' b->Imm B σ ρ w b) (hz:∀ b∈fpk v inn k,B.Z b) :
  ∃ ρ':Ly,SatR { B with Z:=fun b=>B.Z b∧b∉fpk v inn k } (app σ (zhc τ nm k)) a w ρ'∧(∀ u x,RepI w (Imm B σ ρ w) u x->RepI w (Imm { B with Z:=fun b=>B.Z b∧b∉fpk v inn k } (app σ (zhc τ nm k)) ρ' w) u x) ∧
   (∀ u x,RepA w (Imm B σ ρ w) ρ σ.gn u x->RepA w (Imm { B with Z:=fun b=>B.Z b∧b∉fpk v inn k } (app σ (zhc τ nm k)) ρ' w) ρ' (app σ (zhc τ nm k)).gn u x) ∧
   (∀ b,Imm B σ ρ w b->Imm { B with Z:=fun b=>B.Z b∧b∉fpk v inn k } (app σ (zhc τ nm k)) ρ' w b)∧ρ' nm=v∧∀ o,o≠nm->ρ' o=ρ o:=by
 obtain ⟨e1,e2,e3,e4,e5⟩:=mkK_eqs σ τ nm k;have a3:∀ t m,k≠.box t m:=fun t m e=>by subst e;exact hh.elim
 have a2:∀ b,Owns (app σ (zhc τ nm k)) (setK ρ (app σ (zhc τ nm k)) nm v inn k) nm b->b∈fpk v inn k:=fun b hb=>by
  unfold Owns at hb;rw [e1,if_pos rfl] at hb;simp only [setK,if_pos] at hb;rw [fpk_innK] at hb;exact hb
 obtain ⟨h1,h2,h3,h4⟩:=h.stepZ (σ':=app σ (zhc τ nm k)) (ρ':=setK ρ (app σ (zhc τ nm k)) nm v inn k) (w':=w) (fun o=>o=nm) (fun b=>B.Z b∧b∉fpk v inn k) e4
  (fun o hd=>⟨by rw [e1,if_neg hd],by rw [e2,if_neg hd],fun i=>e5 o i,by simp [setK,hd],by simp [setK,hd],by show (app σ (zhc τ nm k)).ig o=_;rw [e3,if_neg (fun e=>hd e.1)];exact (h.igs o).symm⟩)
  (fun o hd=>by
   subst hd
   refine ⟨⟨by rw [e2,if_pos rfl,hg];omega,fun e=>by rw [e2,if_pos rfl,hg] at e;omega⟩,?_,fun e=>?_⟩
   ·show _<=(app σ (zhc τ o k)).ig o
    rw [e3,h.igs,hi]
    split<;>omega
   ·have e:(app σ (zhc τ o k)).ig o=ρ.ig o:=e
    rw [e3,h.igs,hi] at e
    cases hgk:zse k with
    | true=>rw [hgk,if_pos ⟨rfl,rfl⟩] at e;omega
    | false =>
     simp only [setK,if_pos]
     cases k<;>first | rfl | exact hh.elim | cases hgk)
  (fun o=>rfl) (Belo.refl _ _ _) (fun o b hd ho=>by subst hd;exact .inr (.inl (hz b (a2 b ho)))) (fun o p b hd hp _ _=>hd.trans hp.symm)
  (fun b hb=>⟨(h.res b hb.1).1.2,.inr (.inl hb.1),fun o hd ho=>by subst hd;exact hb.2 (a2 b ho)⟩) fun hI hA o hd=>by
   subst hd;rw [e1,if_pos rfl];refine zm5.of_hold a3 ?_;simp only [setK,if_pos];refine hold_innK (hh.mono (fun _ _=>rfl) fun u x hr=>hI u x (hr.mono hS fun _ _ _ h=>h))
 exact ⟨_,h1,h2,h3,h4,by simp [setK],fun o ho=>by simp [setK,ho]⟩
theorem zk3 (σ:St):∀ (a b:List (Nat×Kd)),zdz σ (a++b)=zdz σ a++zdz σ b
 | [],b=>rfl
 | p::a,b=>by rw [ycy,zdz,zk3 σ a b,zdz,ybp]
theorem znx {a:Act} {w:World} {S':Nat->Prop} (τ:St) (f:Nat->Nat):∀ {l:List Oc} {i:Nat} {us:List Value} {F:List Nat} {B:Base} {σ:St} {ρ:Ly},SatR B σ a w ρ->zl4 w S' us l F->(∀ b,S' b->Imm B σ ρ w b)->F.Nodup->(∀ b∈F,B.Z b) ->
  ((zck τ f i l).2.map (·.1)).Nodup->(∀ p∈(zck τ f i l).2,σ.gn p.1=τ.gn p.1∧σ.ig p.1=τ.ig p.1) ->
  ∃ (ρ':Ly) (Z':Nat->Prop),SatR { B with Z:=Z' } (app σ (zdz τ (zck τ f i l).2)) a w ρ'∧(∀ b,B.Z b->b∉F->Z' b)∧Reps w (Imm { B with Z:=Z' } (app σ (zdz τ (zck τ f i l).2)) ρ' w) ρ' (app σ (zdz τ (zck τ f i l).2)).gn us (zck τ f i l).1 ∧
   (∀ u x,RepA w (Imm B σ ρ w) ρ σ.gn u x->RepA w (Imm { B with Z:=Z' } (app σ (zdz τ (zck τ f i l).2)) ρ' w) ρ' (app σ (zdz τ (zck τ f i l).2)).gn u x) ∧
   (∀ b,Imm B σ ρ w b->Imm { B with Z:=Z' } (app σ (zdz τ (zck τ f i l).2)) ρ' w b)∧(∀ o,o∉(zck τ f i l).2.map (·.1)->ρ' o=ρ o∧(app σ (zdz τ (zck τ f i l).2)).gn o=σ.gn o∧(app σ (zdz τ (zck τ f i l).2)).ig o=σ.ig o∧(app σ (zdz τ (zck τ f i l).2)).kd o=σ.kd o)
 | [],i,us,F,B,σ,ρ,h,hok,hS,hnd,hz,hn,hgs=>by
  match us,hok with
  | [],hok=>exact ⟨ρ,B.Z,h,fun _ hb _=>hb,⟨rfl,by simp⟩,fun _ _ hr=>hr,fun _ hb=>hb,fun _ _=>⟨rfl,rfl,rfl,rfl⟩⟩
 | c::l,i,us,F,B,σ,ρ,h,hok,hS,hnd,hz,hn,hgs=>by
  match us,hok with
  | u::us,⟨F1,F2,h1,h2,h3⟩ =>
   subst h3;rw [ybi] at hnd;cases c with
   | im x =>
    obtain ⟨hx,rfl⟩:=h1;obtain ⟨ρ',Z',g1,g2,g3,g4,g5,g6⟩:=znx τ f (l:=l) (i:=i+1) h h2 hS hnd.2.1 (fun b hb=>hz b (by simp [hb])) hn hgs;refine ⟨ρ',Z',g1,g2,⟨by simp [zck,ocPl,g3.1],fun j y z hy hz=>?_⟩,g4,g5,g6⟩;cases j with
    | zero =>
     simp [zck,ocPl] at hy hz;subst hy hz;exact .im _ _ (hx.mono (fun b hb=>g5 b (hS b hb)) fun _ _ _ h=>h)
    | succ j=>exact g3.2 j y z (by simpa using hy) (by simpa [zck,ocPl] using hz)
   | ow k =>
    obtain ⟨ho1,inn,hh,rfl⟩:=h1
    have hn':(f i∉(zck τ f (i+1) l).2.map (·.1))∧((zck τ f (i+1) l).2.map (·.1)).Nodup:=by
     have:(zck τ f i (.ow k::l)).2=(f i,k)::(zck τ f (i+1) l).2:=rfl;rw [this,yar,ybm] at hn;exact hn
    have b0:=hgs (f i,k) (by show _∈(f i,k)::_;simp);obtain ⟨ρ1,a1,a2,a3,a4,a5,a6⟩:=adopt_one h (nm:=f i) (τ:=τ) b0.1 b0.2 hh hS fun b hb=>hz b (by simp [hb]);obtain ⟨e1,e2,e3,e4,e5⟩:=mkK_eqs σ τ (f i) k;have b5:∀ p∈(zck τ f (i+1) l).2,p.1≠f i:=fun p hp e=>hn'.1 (yag.2 ⟨p,hp,e⟩)
    obtain ⟨ρ',Z',g1,g2,g3,g4,g5,g6⟩:=znx τ f (l:=l) (i:=i+1) a1 h2 (fun b hb=>a4 b (hS b hb)) hnd.2.1 (fun b hb=>⟨hz b (by simp [hb]),fun hf=>hnd.2.2 b hf b hb rfl⟩) hn'.2 (fun p hp=>by
     rw [e2,e3,if_neg (b5 p hp),if_neg (fun e=>b5 p hp e.1)]
     exact hgs p (by show p∈(f i,k)::_;simp [hp]))
    have a9:app σ (zdz τ (zck τ f i (.ow k::l)).2)=app (app σ (zhc τ (f i) k)) (zdz τ (zck τ f (i+1) l).2):=by
     show app σ (zhc τ (f i) k++zdz τ (zck τ f (i+1) l).2)=_;rw [zay]
    rw [a9];refine ⟨ρ',Z',g1,fun b hb a8=>g2 b ⟨hb,fun hf=>a8 (by simp [hf])⟩ (fun hf=>a8 (by simp [hf])),⟨by show _=((_:AV)::(zck τ f (i+1) l).1).length;simp [g3.1],fun j y z hy hz=>?_⟩,fun v x hr=>g4 v x (a3 v x hr),fun b hb=>g5 b (a4 b hb),fun o ho=>?_⟩
    ·cases j with
     | zero =>
      have hz:(AV.osl (f i) (τ.gn (f i)+1))=z:=by simpa [zck,ocPl] using hz
      simp at hy;subst hy hz;obtain ⟨b1,b2,_,_⟩:=g6 (f i) hn'.1;refine .osl _ _ _ ho1 ?_ fun _=>?_
      ·rw [b2,e2,if_pos rfl];omega
      ·rw [b1,a5]
     | succ j=>exact g3.2 j y z (by simpa using hy) (by simpa [zck,ocPl] using hz)
    ·have a7:o≠f i∧o∉(zck τ f (i+1) l).2.map (·.1):=by
      have:(zck τ f i (.ow k::l)).2=(f i,k)::(zck τ f (i+1) l).2:=rfl;rw [this,yar] at ho;exact ⟨fun e=>ho (by simp [e]),fun hm=>ho (yaw _ hm)⟩
     obtain ⟨b1,b2,b3,b4⟩:=g6 o a7.2;exact ⟨by rw [b1,a6 o a7.1],by rw [b2,e2,if_neg a7.1],by rw [b3,e3,if_neg (fun e=>a7.1 e.1)],by rw [b4,e1,if_neg a7.1]⟩
def LkR (w:World) (S:Nat->Prop) (ρ:Ly) (γ:Nat->Nat) (p:Value) (qs:List Nat):LK->Prop
 | .box t al=>∃ (q:Nat) (us:List Value),qs=[q]∧p=.pointer (some ⟨q,0,none⟩)∧w.heap[q]?=some (.cells us.toArray t (0,0))∧(∀ u∈us,u.oneCell'=true)∧Reps w S ρ γ us al
 | .obj k=>flatK k=true∧∃ inn,zd5 w S p inn k∧qs=fpk p inn k
def BxR (w:World) (S:Nat->Prop) (ρ:Ly) (γ:Nat->Nat):List (Nat×LK)->List Value->List Nat->Prop
 | [],[],qs=>qs=[]
 | (_,x)::bl,p::ps,qs=>∃ q1 q2,LkR w S ρ γ p q1 x∧BxR w S ρ γ bl ps q2∧qs=q1++q2
 | _,_,_=>False
theorem LkR.mono {w:World} {S S':Nat->Prop} {ρ ρ':Ly} {γ γ':Nat->Nat} (hA:∀ u x,RepA w S ρ γ u x->RepA w S' ρ' γ' u x) {p:Value} {qs:List Nat}:∀ {x:LK},LkR w S ρ γ p qs x->LkR w S' ρ' γ' p qs x
 | .box t al,⟨q,us,h1,h2,h3,h4,h5⟩=>⟨q,us,h1,h2,h3,h4,⟨h5.1,fun i u x hu hx=>hA _ _ (h5.2 i u x hu hx)⟩⟩
 | .obj k,⟨h1,inn,h2,h3⟩=>⟨h1,inn,h2.mono (fun _ _=>rfl) fun u x hr=>(hA u (.im x) (.im _ _ hr)).im_inv,h3⟩
theorem BxR.mono {w:World} {S S':Nat->Prop} {ρ ρ':Ly} {γ γ':Nat->Nat} (hA:∀ u x,RepA w S ρ γ u x->RepA w S' ρ' γ' u x):∀ {bl:List (Nat×LK)} {ps:List Value} {qs:List Nat},BxR w S ρ γ bl ps qs->BxR w S' ρ' γ' bl ps qs
 | [],[],_,h=>h
 | _::_,_::_,_,⟨q1,q2,h1,h2,h3⟩=>⟨q1,q2,h1.mono hA,h2.mono hA,h3⟩
 | [],_::_,_,h=>h.elim
 | _::_,[],_,h=>h.elim
theorem zp3 {a:Act} {w:World} {S':Nat->Prop} (τ:St):∀ {bx:yad} {ys:List Arg} {ps:List Value} {F:List Nat} {bl:List (Nat×LK)} {ss:List (Nat×Kd)} {B:Base} {σ:St} {ρ:Ly},bxPl τ bx ys=some (bl,ss)->SatR B σ a w ρ->zeq w S' ps ys F->(∀ b,S' b->Imm B σ ρ w b)->F.Nodup->(∀ b∈F,B.Z b) ->
  (ss.map (·.1)).Nodup->(∀ p∈ss,σ.gn p.1=τ.gn p.1∧σ.ig p.1=τ.ig p.1) ->
  ∃ (ρ':Ly) (Z':Nat->Prop) (qs:List Nat),SatR { B with Z:=Z' } (app σ (zdz τ ss)) a w ρ'∧(∀ b,B.Z b->b∉F->Z' b)∧(∀ q∈qs,Z' q∧q∈F)∧qs.Nodup∧BxR w (Imm { B with Z:=Z' } (app σ (zdz τ ss)) ρ' w) ρ' (app σ (zdz τ ss)).gn bl ps qs∧bl.map (·.1)=bx.map (·.1) ∧
   (∀ u x,RepA w (Imm B σ ρ w) ρ σ.gn u x->RepA w (Imm { B with Z:=Z' } (app σ (zdz τ ss)) ρ' w) ρ' (app σ (zdz τ ss)).gn u x) ∧
   (∀ b,Imm B σ ρ w b->Imm { B with Z:=Z' } (app σ (zdz τ ss)) ρ' w b)∧(∀ o,o∉ss.map (·.1)->ρ' o=ρ o∧(app σ (zdz τ ss)).gn o=σ.gn o∧(app σ (zdz τ ss)).ig o=σ.ig o∧(app σ (zdz τ ss)).kd o=σ.kd o)
 | [],[],ps,F,bl,ss,B,σ,ρ,e,h,hok,hS,hnd,hz,hn,hgs=>by
  simp only [bxPl,zkF,zkG] at e;obtain ⟨rfl,rfl⟩:=e
  match ps,hok with
  | [],hok=>exact ⟨ρ,B.Z,[],h,fun _ hb _=>hb,by simp,yco,rfl,rfl,fun _ _ hr=>hr,fun _ hb=>hb,fun _ _=>⟨rfl,rfl,rfl,rfl⟩⟩
 | [],y::ys,ps,F,bl,ss,B,σ,ρ,e,h,hok,hS,hnd,hz,hn,hgs=>by simp [bxPl] at e
 | (b,i)::bx,[],ps,F,bl,ss,B,σ,ρ,e,h,hok,hS,hnd,hz,hn,hgs=>by simp [bxPl] at e
 | (b,i)::bx,.im _::ys,ps,F,bl,ss,B,σ,ρ,e,h,hok,hS,hnd,hz,hn,hgs=>by simp [bxPl] at e
 | (b,i)::bx,.ow _::ys,ps,F,bl,ss,B,σ,ρ,e,h,hok,hS,hnd,hz,hn,hgs=>by simp [bxPl] at e
 | (b,i)::bx,.lent k::ys,ps,F,bl,ss,B,σ,ρ,e,h,hok,hS,hnd,hz,hn,hgs=>by
  unfold bxPl at e;split at e
  ·rename_i l s2 hfk e2;simp only [zkF,zkG] at e;obtain ⟨rfl,rfl⟩:=e
   match ps,hok with
   | p::ps,⟨F1,F2,⟨p1,inn,p2,p3⟩,p6,p7⟩ =>
    subst p7;rw [ybi] at hnd;obtain ⟨hnF1,hnF2,hdis⟩:=hnd;obtain ⟨ρ',Z',qs,g1,g2,g3,g4,g5,g6,g7,g8,g9⟩:=zp3 τ e2 h p6 hS hnF2 (fun c hc=>hz c (by simp [hc])) hn hgs;refine ⟨ρ',Z',F1++qs,g1,fun c hc hnc=>g2 c hc fun hf=>hnc (by simp [hf]),fun c hc=>?_,ybi.2 ⟨hnF1,g4,fun x hx y hy=>hdis x hx y (g3 y hy).2⟩,⟨F1,qs,⟨hfk,inn,p2.mono (fun _ _=>rfl) fun u x hr=>hr.mono (fun c hc=>g8 c (hS c hc)) fun _ _ _ h=>h,p3⟩,g5,rfl⟩,by simp [g6],g7,g8,g9⟩;rcases yap.1 hc with hc | hc
    ·exact ⟨g2 c (hz c (by simp [hc])) fun hf=>hdis c hc c hf rfl,by simp [hc]⟩
    ·exact ⟨(g3 c hc).1,by simp [(g3 c hc).2]⟩
  ·cases e
 | (b,i)::bx,.box t cs::ys,ps,F,bl,ss,B,σ,ρ,e,h,hok,hS,hnd,hz,hn,hgs=>by
  unfold bxPl at e;split at e
  ·rename_i al s1 l s2 e1 e2;simp only [zkF,zkG] at e;obtain ⟨rfl,rfl⟩:=e
   match ps,hok with
   | p::ps,⟨F1,F2,⟨q,us,F',p1,p2,p3,p4,p5⟩,p6,p7⟩ =>
    subst p5 p7;have hs1:s1=(zck τ (cellNm τ b i) 0 cs).2:=by rw [e1]
    have a8:al=(zck τ (cellNm τ b i) 0 cs).1:=by rw [e1]
    rw [yay,ybi] at hn;rw [ycy,ybm,ybi] at hnd;obtain ⟨hq,a7,hnF2,hdis⟩:=hnd;rw [yap,not_or] at hq;obtain ⟨ρ1,Z1,a1,a2,a3,a4,a5,a6⟩:=znx τ (cellNm τ b i) (l:=cs) (i:=0) h p4 hS a7 (fun c hc=>hz c (by simp [hc])) (by rw [<- hs1];exact hn.1) (fun p hp=>hgs p (yan _ (by rw [hs1];exact hp)));rw [<- hs1] at a1 a3 a4 a5 a6;rw [<- a8] at a3
    obtain ⟨ρ',Z',qs,g1,g2,g3,g4,g5,g6,g7,g8,g9⟩:=zp3 τ e2 a1 p6 (fun c hc=>a5 c (hS c hc)) hnF2 (fun c hc=>a2 c (hz c (by simp [hc])) fun hf=>hdis c hf c hc rfl) hn.2.1 (fun p hp=>by
     obtain ⟨b1,b2,b3,_⟩:=a6 p.1 fun hm=>hn.2.2 p.1 hm p.1 (yag.2 ⟨p,hp,rfl⟩) rfl
     rw [b2,b3]
     exact hgs p (yai _ hp))
    rw [zk3,zay];refine ⟨ρ',Z',q::qs,g1,fun c hc hnc=>g2 c (a2 c hc fun hf=>hnc (by simp [hf])) fun hf=>hnc (by simp [hf]),fun c hc=>?_,ybm.2 ⟨fun hm=>hq.2 (g3 q hm).2,g4⟩,⟨[q],qs,⟨q,us,rfl,p1,p2,p3,⟨a3.1,fun j u x hu hx=>g7 _ _ (a3.2 j u x hu hx)⟩⟩,g5,rfl⟩,by simp [g6],fun v x hr=>g7 v x (a4 v x hr),fun c hc=>g8 c (a5 c hc),fun o ho=>?_⟩
    ·rcases yau.1 hc with rfl | hc
     ·exact ⟨g2 _ (a2 _ (hz _ (by simp)) hq.1) hq.2,by simp⟩
     ·exact ⟨(g3 c hc).1,by simp [(g3 c hc).2]⟩
    ·rw [yay,yap,not_or] at ho;obtain ⟨b1,b2,b3,b4⟩:=a6 o ho.1;obtain ⟨c1,c2,c3,c4⟩:=g9 o ho.2;exact ⟨c1.trans b1,c2.trans b2,c3.trans b3,c4.trans b4⟩
  ·cases e
theorem adopt_lent {a:Act} {w:World} {b:Nat} {x:LK} {p:Value} {qs:List Nat} {B:Base} {σ:St} {ρ:Ly} (h:SatR B σ a w ρ) (hx:LkR w (Imm B σ ρ w) ρ σ.gn p qs x) (hz:∀ q∈qs,B.Z q) (hρ:ρ b=p) :
  SatR { B with Z:=fun c=>B.Z c∧c∉qs } (app σ (lkWr b x)) a w ρ∧(∀ u y,RepA w (Imm B σ ρ w) ρ σ.gn u y->RepA w (Imm { B with Z:=fun c=>B.Z c∧c∉qs } (app σ (lkWr b x)) ρ w) ρ (app σ (lkWr b x)).gn u y):=by
 cases x with
 | box t al =>
  obtain ⟨q,us,e1,e2,e3,e4,e5⟩:=hx;subst e1;have hρb:ρ b=.pointer (some ⟨q,0,none⟩):=hρ.trans e2;have a4:∀ o,(app (upd σ (.knd b) (.kd (.box t al.length))) (zgw b 0 al)).kd o=if o=b then .box t al.length else σ.kd o:=fun o=>by rw [zpv,zfn]
  have a6:(app (upd σ (.knd b) (.kd (.box t al.length))) (zgw b 0 al)).gn=σ.gn:=by rw [zs0];exact funext fun o=>zgu σ b o _
  have a2:∀ c,Owns (app (upd σ (.knd b) (.kd (.box t al.length))) (zgw b 0 al)) ρ b c->c=q:=fun c hc=>by
   unfold Owns at hc;rw [a4,if_pos rfl,hρb] at hc;simpa [fpk,zbw] using hc
  obtain ⟨h1,h2,h3,h4⟩:=h.stepZ (σ':=app (upd σ (.knd b) (.kd (.box t al.length))) (zgw b 0 al)) (ρ':=ρ) (w':=w) (fun o=>o=b) (fun c=>B.Z c∧c∉[q]) (fun o=>by rw [zs6,zjq])
   (fun o hd=>⟨by rw [a4,if_neg hd],by rw [a6],fun i=>by rw [zof,if_neg (fun z=>hd z.1),zka],rfl,rfl,rfl⟩) (fun o _=>⟨⟨by rw [a6];exact yao _,fun _=>rfl⟩,yao _,fun _=>rfl⟩)
   (fun o=>by rw [celWr_ig,zj7];exact h.igs o) (Belo.refl _ _ _) (fun o c hd ho=>by subst hd;rw [a2 c ho];exact .inr (.inl (hz q (by simp)))) (fun o p c hd hp _ _=>hd.trans hp.symm)
   (fun c hc=>⟨(h.res c hc.1).1.2,.inr (.inl hc.1),fun o hd ho=>by subst hd;exact hc.2 (by rw [a2 c ho];simp)⟩) fun hI hA o hd=>by
    subst hd;rw [a4,if_pos rfl];refine ⟨q,us,hρb,e3,e5.1,e4,fun i u hu=>?_⟩;have hi:i<al.length:=by rw [<- e5.1];exact (zkI.1 hu).1
    obtain ⟨c,hc⟩:∃ c,al[i]?=some c:=⟨_,zkM hi⟩;rw [zof,if_pos ⟨rfl,by omega,by omega⟩,ydr,zks hc];exact hA _ _ (e5.2 i u c hu hc)
  exact ⟨h1,h3⟩
 | obj k =>
  obtain ⟨e1,inn,e2,e3⟩:=hx;have a8:∀ t m,k≠.box t m:=fun t m e=>by subst e;cases e1
  have a7:∀ a3,fpk p a3 k=qs:=fun a3=>by rw [e3];cases k<;>first | rfl | cases e1
  have a5:∀ a3,zd5 w (Imm B σ ρ w) p a3 k:=fun a3=>by cases k<;>first | exact e2 | cases e1
  have a2:∀ c,Owns (upd σ (.knd b) (.kd k)) ρ b c->c∈qs:=fun c hc=>by
   unfold Owns at hc;rw [zfn,if_pos rfl,hρ,a7] at hc;exact hc
  obtain ⟨h1,h2,h3,h4⟩:=h.stepZ (σ':=upd σ (.knd b) (.kd k)) (ρ':=ρ) (w':=w) (fun o=>o=b) (fun c=>B.Z c∧c∉qs) (fun o=>zjq σ b o _)
   (fun o hd=>⟨by rw [zfn,if_neg hd],zgu σ b o _,fun i=>zka σ b o i _,rfl,rfl,rfl⟩) (fun o _=>⟨⟨by rw [zgu];exact yao _,fun _=>rfl⟩,yao _,fun _=>rfl⟩)
   (fun o=>by rw [zj7];exact h.igs o) (Belo.refl _ _ _) (fun o c hd ho=>by subst hd;exact .inr (.inl (hz c (a2 c ho)))) (fun o p c hd hp _ _=>hd.trans hp.symm)
   (fun c hc=>⟨(h.res c hc.1).1.2,.inr (.inl hc.1),fun o hd ho=>by subst hd;exact hc.2 (a2 c ho)⟩) fun hI hA o hd=>by
    subst hd;rw [zfn,if_pos rfl];refine zm5.of_hold a8 ?_;rw [hρ];exact (a5 _).mono (fun _ _=>rfl) hI
  exact ⟨h1,h3⟩
theorem zpp {a:Act} {w:World}:∀ {bl:List (Nat×LK)} {ps:List Value} {qs:List Nat} {B:Base} {σ:St} {ρ:Ly},SatR B σ a w ρ->BxR w (Imm B σ ρ w) ρ σ.gn bl ps qs->qs.Nodup->(∀ q∈qs,B.Z q)->(bl.map (·.1)).Nodup->(∀ (j:Nat) (b:Nat) (p:Value),(bl.map (·.1))[j]?=some b->ps[j]?=some p->ρ b=p) ->
  ∃ Z':Nat->Prop,SatR { B with Z:=Z' } (app σ (bxWr bl)) a w ρ∧(∀ b,B.Z b->b∉qs->Z' b)∧(∀ u x,RepA w (Imm B σ ρ w) ρ σ.gn u x->RepA w (Imm { B with Z:=Z' } (app σ (bxWr bl)) ρ w) ρ (app σ (bxWr bl)).gn u x)
 | [],ps,qs,B,σ,ρ,h,hb,hnd,hz,hn,hρ=>by
  match ps,hb with
  | [],hb=>exact ⟨B.Z,h,fun _ hb _=>hb,fun _ _ hr=>hr⟩
 | (b,x)::bl,[],qs,B,σ,ρ,h,hb,hnd,hz,hn,hρ=>hb.elim
 | (b,x)::bl,p::ps,qs,B,σ,ρ,h,⟨q1,q2,e1,e2,e3⟩,hnd,hz,hn,hρ=>by
  subst e3;rw [ybi] at hnd;rw [yar,ybm] at hn;obtain ⟨h1,h3⟩:=adopt_lent h e1 (fun q hq=>hz q (by simp [hq])) (hρ 0 b p rfl rfl);obtain ⟨Z',g1,g2,g3⟩:=zpp h1 (e2.mono h3) hnd.2.1 (fun c hc=>⟨hz c (by simp [hc]),fun e=>hnd.2.2 c e c hc rfl⟩) hn.2 fun j c v hc hv=>hρ (j+1) c v (by simpa using hc) (by simpa using hv)
  have happ:app σ (bxWr ((b,x)::bl))=app (app σ (lkWr b x)) (bxWr bl):=by
   show app σ (lkWr b x++bxWr bl)=_;rw [zay]
  rw [happ];exact ⟨Z',g1,fun c hc a2=>g2 c ⟨hc,fun e=>a2 (by simp [e])⟩ fun hm=>a2 (by simp [hm]),fun u x hr=>g3 u x (h3 u x hr)⟩
theorem zs8 (bs:yad):∀ (σ:St),(app σ (fwr bs)).ig=σ.ig:=by
 induction bs with
 | nil=>intro σ;rfl
 | cons b bs ih =>
  intro σ;show (app (upd σ (.knd b.1) (.kd .dead)) (fwr bs)).ig=_;rw [ih];exact funext fun t=>zj7 σ b.1 t _
theorem zjd {a:Act} {w w':World} {ρ:Ly} (h:SatR B σ a w ρ) (gs:yad) (hgsn:(gs.map (·.1)).Nodup) {S':Nat->Prop} {v:Value} {ps:List Value} {τ:St} {tp:Bool} {d:Nat} {l:List Oc} {ys:List Arg} {F':List Nat} {bx:yad} {bl:List (Nat×LK)} {ss':List (Nat×Kd)} {va:AV}
  (hb:Belo (fun b=>b∈zdo σ ρ gs) w.heap.size w w') (hS:∀ b,S' b->(Imm B σ ρ w b∨w.heap.size<=b∨b∈zdo σ ρ gs)∧b<w'.heap.size∧b∉F') (hr:zpi w' S' v ps (.mk tp l ys) F') (hnd:F'.Nodup) (hF':∀ b∈F',(w.heap.size<=b∨b∈zdo σ ρ gs)∧b<w'.heap.size)
  (hbl:bxPl τ bx ys=some (bl,ss')) (hps:ps=bx.map fun p=>ρ p.1) (hbn:(bx.map (·.1)).Nodup) (hva:resV tp (zck τ (ze3 tp d) 0 l).1=some va) (hnm:(((zck τ (ze3 tp d) 0 l).2++ss').map (·.1)).Nodup) (hnb:∀ x∈((zck τ (ze3 tp d) 0 l).2++ss').map (·.1),x∉bl.map (·.1))
  (hτ:∀ p∈(zck τ (ze3 tp d) 0 l).2++ss',σ.gn p.1=τ.gn p.1∧σ.ig p.1=τ.ig p.1) :
  ∃ ρ',SatR B (app (app (app σ (fwr gs)) (zdz τ ((zck τ (ze3 tp d) 0 l).2++ss'))) (bxWr bl)) a w' ρ'∧RepA w' (Imm B (app (app (app σ (fwr gs)) (zdz τ ((zck τ (ze3 tp d) 0 l).2++ss'))) (bxWr bl)) ρ' w') ρ' (app (app (app σ (fwr gs)) (zdz τ ((zck τ (ze3 tp d) 0 l).2++ss'))) (bxWr bl)).gn v va ∧
   (∀ u x,RepA w (Imm B σ ρ w) ρ σ.gn u x->RepA w' (Imm B (app (app (app σ (fwr gs)) (zdz τ ((zck τ (ze3 tp d) 0 l).2++ss'))) (bxWr bl)) ρ' w') ρ' (app (app (app σ (fwr gs)) (zdz τ ((zck τ (ze3 tp d) 0 l).2++ss'))) (bxWr bl)).gn u x) ∧
   ∀ (j:Nat) (b:Nat) (p:Value),(bl.map (·.1))[j]?=some b->ps[j]?=some p->ρ' b=p:=by
 have a8:∀ o,o∈gs.map (·.1)->∀ b,¬ Owns (app σ (fwr gs)) ρ o b:=fun o ho b d3=>(zs1 d3).2 ho
 obtain ⟨h1,d7,d4,d5⟩:=h.stepZ (σ':=app σ (fwr gs)) (ρ':=ρ) (w':=w') (fun o=>o∈gs.map (·.1)) (fun b=>B.Z b∨b∈F') (fun t=>fwr_av gs t σ) (fun o hd=>⟨by rw [zlm,if_neg hd],by rw [zos],fun i=>fwr_ce gs o i σ,rfl,rfl,rfl⟩)
  (fun o _=>⟨⟨by rw [zos];exact yao _,fun _=>rfl⟩,yao _,fun _=>rfl⟩) (fun o=>by rw [zs8];exact h.igs o)
  ⟨hb.os,hb.tape,hb.output,hb.size,fun k hk hn=>hb.block k hk fun hm=>by
   obtain ⟨p,hp,ho⟩:=zd8.1 hm
   exact hn (.inr ⟨p.1,yag.2 ⟨p,hp,rfl⟩,ho⟩)⟩
  (fun o b hd ho=>absurd ho (a8 o hd b)) (fun o p b hd hp ho _=>absurd ho (a8 o hd b))
  (fun b a7=>by
   rcases a7 with a7 | a7
   ·exact ⟨ych (h.res b a7).1.2 hb.size,.inr (.inl a7),fun o hd=>a8 o hd b⟩
   ·obtain ⟨h2,h3⟩:=hF' b a7
    refine ⟨h3,?_,fun o hd=>a8 o hd b⟩
    rcases h2 with h2 | h2
    ·exact .inl h2
    ·obtain ⟨p,hp,ho⟩:=zd8.1 h2
     exact .inr (.inr ⟨p.1,yag.2 ⟨p,hp,rfl⟩,ho⟩))
  fun _ _ o hd=>by rw [zlm,if_pos hd];trivial
 have c9:∀ b,S' b->Imm { B with Z:=fun b=>B.Z b∨b∈F' } (app σ (fwr gs)) ρ w' b:=fun b a7=>by
  obtain ⟨h2,h3,h4⟩:=hS b a7;rcases h2 with h2 | h2 | h2
  ·exact d5 b h2
  ·refine ⟨.inr (.inl (yce h.bel.size h2)),h3,fun o ho=>?_,fun hz=>?_⟩
   ·have:=(h.own o b (zs1 ho).1).2;omega
   ·rcases hz with hz | hz
    ·have:=(h.res b hz).1.2;omega
    ·exact h4 hz
  ·obtain ⟨p,hp,ho⟩:=zd8.1 h2;refine ⟨.inr (h.own p.1 b ho).1,h3,fun q hq=>?_,fun hz=>?_⟩
   ·obtain ⟨h5,h6⟩:=zs1 hq;have:=h.dis q p.1 b h5 ho;subst this;exact h6 (yag.2 ⟨p,hp,rfl⟩)
   ·rcases hz with hz | hz
    ·exact (h.res b hz).2 p.1 ho
    ·exact h4 hz
 obtain ⟨us,F1,F2,hv,hl,hy,rfl⟩:=hr;rw [ybi] at hnd;rw [yay,ybi] at hnm
 obtain ⟨ρ2,Z2,a1,a2,a3,a4,a5,a6⟩:=znx τ (ze3 tp d) (l:=l) (i:=0) h1 hl c9 hnd.1 (fun b a7=>.inr (yan _ a7)) hnm.1 fun p hp=>by
  rw [zos,zs8];exact hτ p (yan _ hp)
 obtain ⟨ρ3,Z3,qs,b1,b2,b3,b4,b5,b6,b7,b8,b9⟩:=zp3 τ hbl a1 hy (fun b a7=>a5 b (c9 b a7)) hnd.2.1 (fun b a7=>a2 b (.inr (yai _ a7)) fun hf=>hnd.2.2 b hf b a7 rfl) hnm.2.1 fun p hp=>by
  obtain ⟨c1,c2,c3,_⟩:=a6 p.1 fun hm=>hnm.2.2 p.1 hm p.1 (yag.2 ⟨p,hp,rfl⟩) rfl;rw [c2,c3,zos,zs8];exact hτ p (yai _ hp)
 have c8:app (app (app σ (fwr gs)) (zdz τ (zck τ (ze3 tp d) 0 l).2)) (zdz τ ss')=app (app σ (fwr gs)) (zdz τ ((zck τ (ze3 tp d) 0 l).2++ss')):=by rw [zk3,zay]
 rw [c8] at b1 b5 b7 b8 b9
 have b0:∀ (j:Nat) (b:Nat) (p:Value),(bl.map (·.1))[j]?=some b->ps[j]?=some p->ρ3 b=p:=fun j b p a7 hp=>by
  have c6:b∈bl.map (·.1):=zkH a7;rw [b6,yam] at a7;rw [hps,yam] at hp;cases hc:bx[j]? with
  | none=>rw [hc] at a7;cases a7
  | some y =>
   rw [hc] at a7 hp;simp only [yal,zkF] at a7 hp;have c7:b∉(zck τ (ze3 tp d) 0 l).2.map (·.1):=fun hm=>hnb b (by rw [yay];exact yan _ hm) c6;have d1:b∉ss'.map (·.1):=fun hm=>hnb b (by rw [yay];exact yai _ hm) c6;rw [(b9 b d1).1,(a6 b c7).1,<- hp,a7]
 obtain ⟨Z4,c1,c2,c3⟩:=zpp b1 b5 b4 (fun q hq=>(b3 q hq).1) (by rw [b6];exact hbn) b0
 have d0:RepA w' (Imm { B with Z:=Z4 } (app (app (app σ (fwr gs)) (zdz τ ((zck τ (ze3 tp d) 0 l).2++ss'))) (bxWr bl)) ρ3 w') ρ3 (app (app (app σ (fwr gs)) (zdz τ ((zck τ (ze3 tp d) 0 l).2++ss'))) (bxWr bl)).gn v va:=by
  have a9:Reps w' (Imm { B with Z:=Z4 } (app (app (app σ (fwr gs)) (zdz τ ((zck τ (ze3 tp d) 0 l).2++ss'))) (bxWr bl)) ρ3 w') ρ3 (app (app (app σ (fwr gs)) (zdz τ ((zck τ (ze3 tp d) 0 l).2++ss'))) (bxWr bl)).gn us (zck τ (ze3 tp d) 0 l).1 :=
   ⟨a3.1,fun i u x hu hx=>c3 _ _ (b7 _ _ (a3.2 i u x hu hx))⟩
  cases tp with
  | true =>
   simp only [resV,zkF] at hva;subst hva;rw [hv];exact .tup _ _ a9.1 a9.2
  | false =>
   simp only [resV] at hva;split at hva
   ·rename_i al d2;injection hva with hva
    subst hva;have hv:us=[v]:=hv;subst hv;exact a9.2 0 v al rfl (by rw [d2];rfl)
   ·cases hva
 obtain ⟨e1,e2,e3,_⟩:=c1.stepZ (σ':=app (app (app σ (fwr gs)) (zdz τ ((zck τ (ze3 tp d) 0 l).2++ss'))) (bxWr bl)) (ρ':=ρ3) (w':=w') (fun _=>False) B.Z (fun _=>rfl) (fun _ _=>⟨rfl,rfl,fun _=>rfl,rfl,rfl,rfl⟩) (fun _ hd=>hd.elim) c1.igs (Belo.refl _ _ _) (fun _ _ hd=>hd.elim) (fun _ _ _ hd=>hd.elim)
  (fun b a7=>by
   have c0:b∉F1++F2:=fun hf=>by
    rcases (hF' b hf).1 with h5 | h5
    ·have:=(h.res b a7).1.2;omega
    ·obtain ⟨p,hp,ho⟩:=zd8.1 h5
     exact (h.res b a7).2 p.1 ho
   rw [yap,not_or] at c0
   have d6:Z4 b:=c2 b (b2 b (a2 b (.inl a7) c0.1) c0.2) fun hq=>c0.2 (b3 b hq).2
   exact ⟨ych (h.res b a7).1.2 hb.size,.inr (.inl d6),fun _ hd=>hd.elim⟩) fun _ _ _ hd=>hd.elim
 exact ⟨ρ3,e1,e3 _ _ d0,fun u x hr=>e3 _ _ (c3 _ _ (b7 _ _ (a4 _ _ (d4 _ _ hr)))),b0⟩
theorem objG_same {σ':St} {p:Nat} (h:σ'.kd p=σ.kd p):objG σ' p=objG σ p:=by unfold objG;rw [h]
theorem zdy.mem {σ':St} {gs:yad} (h:zdy σ σ' gs) {p:Nat×Nat} (hp:p∈gs):σ'.gn p.1=σ.gn p.1∧σ'.kd p.1=σ.kd p.1∧zq8 σ' p.1=zq8 σ p.1 :=
 have hh:=zdy.head (p:=p) (c:=[]) fun l hl=>h l (by
  unfold frd at *
  rw [ya5,ycz,ybk] at hl
  exact ybv.2 ⟨p,hp,hl⟩)
 ⟨hh.1,hh.2.1,hh.2.2.1⟩
theorem cellG0_same {σ':St} {own:List Nat} {d i j:Nat} {c:AV} {x:Oc} {gs:yad} (e:zw1 σ own d i j c=some (x,gs)) (h:∀ p∈gs,σ'.kd p.1=σ.kd p.1):zw1 σ' own d i j c=some (x,gs):=by
 unfold zw1 at e ⊢;split at e
 ·exact e
 ·rename_i p g;split at e
  ·rename_i k hk;injection e with e
   injection e with e1 e2
   subst e1 e2;rw [objG_same (h (p,g) (by simp)),hk]
  ·cases e
 ·cases e
theorem cellG_same {σ':St} {own:List Nat} {d i j:Nat} {c:AV} {x:Oc} {gs:yad} (e:cellG σ own d i j c=some (x,gs)) (h:∀ p∈gs,σ'.kd p.1=σ.kd p.1):cellG σ' own d i j c=some (x,gs):=by
 unfold cellG at e ⊢;split at e
 ·rename_i hh;exact e
 ·rename_i hh;exact cellG0_same e h
theorem zs9 {σ':St} {own:List Nat} {d i:Nat}:∀ {cs:List AV} {j:Nat} {xs:List Oc} {gs:yad},zry σ own d i j cs=some (xs,gs)->(∀ p∈gs,σ'.kd p.1=σ.kd p.1)->zry σ' own d i j cs=some (xs,gs)
 | [],_,_,_,e,_=>e
 | c::cs,j,xs,gs,e,h=>by
  simp only [zry] at e ⊢;split at e
  ·rename_i x g1 xs1 gs1 h1 h2;simp only [zkF,zkG] at e;obtain ⟨rfl,rfl⟩:=e;rw [cellG_same h1 fun p hp=>h p (yan _ hp),zs9 h2 fun p hp=>h p (yai _ hp)]
  ·cases e
theorem argG_same {σ':St} {own:List Nat} {d i:Nat} {c:AV} {x:Arg} {bs gs:yad} (e:argG σ own d i c=some (x,bs,gs)) (hb:zdy σ σ' bs) (hg:zdy σ σ' gs):argG σ' own d i c=some (x,bs,gs):=by
 unfold argG at e ⊢;split at e
 ·rename_i ho;split at e
  ·rename_i b g;split at e
   ·rename_i k hk;simp only [zkF,zkG] at e;obtain ⟨rfl,rfl,rfl⟩:=e;rw [objG_same (hg.mem (p:=(b,g)) (by simp)).2.1,hk]
   ·cases e
  ·rename_i b g;split at e
   ·rename_i t m hk;split at e
    ·rename_i cs a3 a2;simp only [zkF,zkG] at e;obtain ⟨rfl,rfl,rfl⟩:=e;obtain ⟨h1,h2,h3⟩:=hg.mem (p:=(b,g)) (by simp);simp only [h2,hk];rw [h3,zs9 a2 fun p hp=>(hg.mem (yaw _ hp)).2.1]
    ·cases e
   ·cases e
  ·exact e
  ·cases e
 ·rename_i ho;split at e
  ·exact e
  ·split at e
   ·rename_i y bs' hy;simp only [zkF,zkG] at e;obtain ⟨rfl,rfl,rfl⟩:=e;rw [zn2 hy hb]
   ·cases e
theorem zls {σ':St} {own:List Nat} {d:Nat}:∀ {cs:List AV} {i:Nat} {xs:List Arg} {bs gs:yad},zk7 σ own d i cs=some (xs,bs,gs)->zdy σ σ' bs->zdy σ σ' gs->zk7 σ' own d i cs=some (xs,bs,gs)
 | [],i,xs,bs,gs,e,_,_=>e
 | c::cs,i,xs,bs,gs,e,hb,hg=>by
  simp only [zk7] at e ⊢;split at e
  ·rename_i x b1 g1 xs1 bs1 gs1 h1 h2;simp only [zkF,zkG] at e;obtain ⟨rfl,rfl,rfl⟩:=e;rw [argG_same h1 hb.left hg.left,zls h2 hb.right hg.right]
  ·cases e
theorem zoh {ρ:Ly} {bs gs:yad} (h:∀ p∈gs,p.1∉bs.map (·.1)):zdo (app σ (fwr bs)) ρ gs=zdo σ ρ gs:=by
 unfold zdo
 induction gs with
 | nil=>rfl
 | cons p gs ih =>
  rw [ya5,ya5,zlm,if_neg (h p (by simp)),ih fun q hq=>h q (by simp [hq])]
theorem zje:∀ {l:List (Nat×Kd)} {p:Nat×Kd},p∈l->Loc.gen p.1∈zm3 l∧Loc.ign p.1∈zm3 l
 | q::l,p,h=>by
  rcases yau.1 h with rfl | h
  ·exact ⟨by simp [zm3],by simp [zm3]⟩
  ·obtain ⟨h1,h2⟩:=zje h;exact ⟨by simp [zm3,h1],by simp [zm3,h2]⟩
theorem zio {σ':St} {b:Nat} (h:σ' (.ign b)=σ (.ign b)):σ'.ig b=σ.ig b:=by unfold St.ig;rw [h]
theorem resOk_flat {w:World} {S S':Nat->Prop} {v:Value} {ps:List Value} {r:Rs} {F:List Nat} (hf:flatRs r) (h:zpi w S v ps r F):zpi w S' v ps r F:=by
 cases r with
 | mk tp l ys =>
  obtain ⟨us,F1,F2,h1,h2,h3,h4⟩:=h;exact ⟨us,F1,F2,h1,h2.flat hf.1,h3.flat hf.2,h4⟩
theorem zq6 {τ:St}:∀ {bx:yad} {ys:List Arg} {bl:List (Nat×LK)} {ss:List (Nat×Kd)},bxPl τ bx ys=some (bl,ss)->bl.map (·.1)=bx.map (·.1)
 | [],[],bl,ss,e=>by simp only [bxPl,zkF,zkG] at e;obtain ⟨rfl,rfl⟩:=e;rfl
 | [],_::_,_,_,e=>by simp [bxPl] at e
 | (b,i)::bx,[],_,_,e=>by simp [bxPl] at e
 | (b,i)::bx,.im _::ys,_,_,e=>by simp [bxPl] at e
 | (b,i)::bx,.ow _::ys,_,_,e=>by simp [bxPl] at e
 | (b,i)::bx,.lent k::ys,bl,ss,e=>by
  unfold bxPl at e;split at e
  ·rename_i l s2 hfk e2;simp only [zkF,zkG] at e;obtain ⟨rfl,rfl⟩:=e;simp [zq6 e2]
  ·cases e
 | (b,i)::bx,.box t cs::ys,bl,ss,e=>by
  unfold bxPl at e;split at e
  ·rename_i al s1 l s2 e1 e2;simp only [zkF,zkG] at e;obtain ⟨rfl,rfl⟩:=e;simp [zq6 e2]
  ·cases e
theorem zq0 {own:List Nat} {d:Nat}:∀ {cs:List AV} {i:Nat} {xs:List Arg} {bs gs:yad},zk7 σ own d i cs=some (xs,bs,gs)->((bxG own d i cs).map (·.1)).Sublist (gs.map (·.1))
 | [],i,xs,bs,gs,e=>by simp [bxG]
 | c::cs,i,xs,bs,gs,e=>by
  simp only [zk7] at e;split at e
  ·rename_i x b1 g1 xs1 bs1 gs1 h1 h2;simp only [zkF,zkG] at e;obtain ⟨rfl,rfl,rfl⟩:=e;have ih:=zq0 h2
   have up:((bxG own d (i+1) cs).map (·.1)).Sublist ((g1++gs1).map (·.1)):=by
    rw [yay];exact ih.trans (yc7 _ _)
   unfold argG at h1;unfold bxG;split at h1
   ·split at h1
    ·rename_i b g;split at h1
     ·simp only [zkF,zkG] at h1;obtain ⟨rfl,rfl,rfl⟩:=h1;simp only;split
      ·simp only [yar,ycy];refine List.Sublist.cons_cons _ ?_;exact ih
      ·exact up
     ·cases h1
    ·rename_i b g;split at h1
     ·split at h1
      ·simp only [zkF,zkG] at h1;obtain ⟨rfl,rfl,rfl⟩:=h1;simp only [yar,ycy];refine List.Sublist.cons_cons _ ?_;rw [yay];exact ih.trans (yc7 _ _)
      ·cases h1
     ·cases h1
    ·exact up
    ·cases h1
   ·exact up
  ·cases e
theorem agL_len:∀ (cs:List AV),(agL cs).length=cs.length
 | []=>rfl
 | _::l=>congrArg (·+1) (agL_len l)
theorem argG_nm {own:List Nat} {d i:Nat} {a:AV} {x:Arg} {bs gs:yad} (h:argG σ own d i a=some (x,bs,gs)):x≠.lent .dead:=by
 rintro rfl;unfold argG at h;split at h
 ·split at h
  ·split at h
   ·rename_i k hk;simp only [zkF,zkG] at h;unfold lentG at h;split at h
    ·obtain ⟨h1,_⟩:=h;injection h1 with h1
     exact (zlz hk).2.1 h1
    ·cases h.1
   ·cases h
  ·split at h
   ·split at h
    ·simp at h
    ·cases h
   ·cases h
  ·split at h
   ·split at h
    ·simp at h
    ·cases h
   ·cases h
  ·cases h
 ·split at h
  ·split at h
   ·simp at h
   ·cases h
  ·split at h
   ·simp at h
   ·cases h
theorem argsG_nm {own:List Nat} {d i:Nat} {al0:List AV} {xs:List Arg} {bs gs:yad} (h:zk7 σ own d i al0=some (xs,bs,gs)):nmX xs=true:=by
 cases al0 with
 | nil =>
  simp only [zk7,zkF,zkG] at h;rw [<- h.1];rfl
 | cons a l =>
  simp only [zk7] at h;split at h
  ·rename_i h1 _;simp only [zkF,zkG] at h;rw [<- h.1];have:=argG_nm h1;unfold nmX;split
   ·rename_i e;injection e with e
    exact absurd e this
   ·rfl
  ·cases h
theorem aCall_ok {C:FuncId->List Arg->Rs->Prop} (hC:∀ g xs r,C g xs r->SpX P g xs r) {own:List Nat} {c:Call} {f:Operand} (hop:o.op=.call c) (hcal:c.callee=.value f) (hd:zdh B.n o=true) (h:aCall own o σ K C f c.args.toList):∃ fx,K fx∧Eff P B o fx.rd σ fx.wr:=by
 unfold aCall at h;split at h
 ·rename_i d g caps a8 hf;split at h
  ·rename_i xs bs gs b8;obtain ⟨e2,h⟩:=h.ok;obtain ⟨a2,b3⟩:=zg4 e2;obtain ⟨c7,r,hr,h⟩:=h.out;obtain ⟨a7,e6⟩:=(hC g xs r hr).sp (argsG_nm b8);cases r with
   | mk tp l ys =>
   simp only at h;split at h
   ·rename_i al ss bl ss' d5 c6;split at h
    ·rename_i va d0;obtain ⟨d9,h⟩:=h.ok;obtain ⟨b5,b6⟩:=zg4 d9;have d8:al=(zck σ (ze3 tp d) 0 l).1:=by rw [d5]
     have e5:ss=(zck σ (ze3 tp d) 0 l).2:=by rw [d5]
     subst d8 e5;have b2:=((zq0 b8).nodup a2);have c9:∀ t,some d=some t->t<B.n:=fun t e=>by injection e with e;subst e;exact zdi hd a8
     have a9:∀ (σ':St),(∀ x∈opd f++opdL c.args.toList++frd σ (bs++gs)++zm3 ((zck σ (ze3 tp d) 0 l).2++ss'),σ' x=σ x)->∀ (a:Act) (w:World) (ρ:Ly),SatR B σ' a w ρ->∀ (K':Act->World->Prop) (Q:Exit->Act->World->Prop),
       (∀ v w' F',Belo (fun b=>b∈zdo σ' ρ gs) w.heap.size w w'->zpi w' (fun b=>(Imm B (app σ' (fwr bs)) ρ w b∨w.heap.size<=b∨b∈zdo σ' ρ gs)∧b<w'.heap.size∧b∉F') v ((bxG own d 0 (c.args.toList.map (evA σ)++caps)).map fun p=>ρ p.1) (.mk tp l ys) F' ->
        F'.Nodup->(∀ b∈F',(w.heap.size<=b∨b∈zdo σ' ρ gs)∧b<w'.heap.size)->(∀ p∈(zck σ (ze3 tp d) 0 l).2++ss',σ'.gn p.1=σ.gn p.1∧σ'.ig p.1=σ.ig p.1)->K' (a.put (some d) v) w')->o.wp P a w K' Q:=by
      intro σ' hag a w ρ hs K' Q hK;have d3:=zaq (zaq (zaq hag));have d1:=za7 (zaq (zaq hag));have a4:zdy σ σ' (bs++gs):=za7 (zaq hag);have b0:=za7 hag
      have c0:∀ p∈bs++gs,σ'.gn p.1=p.2:=fun p hp=>by
       rw [<- c7 p hp];exact (a4.mem hp).1
      obtain ⟨us,e4,e0⟩:∃ us:List Value,a.eval f=.func (.func g) #[] us.toArray∧Reps w (Imm B σ' ρ w) ρ σ'.gn us caps:=by
       have h1:=za5 hs f;rw [zaj d3] at h1;split at hf
       ·rename_i g' a5 b7;simp only [zkF,zkG] at hf;obtain ⟨rfl,rfl⟩:=hf;rw [b7] at h1;have h1:=h1.im_inv;generalize a.eval f=v at h1;cases h1 with
        | fn _ us _ hl hr =>
         refine ⟨us,rfl,by simpa using hl,fun i u y hu hy=>?_⟩;simp only [yam] at hy;cases hc:a5[i]? with
         | none=>rw [hc] at hy;cases hy
         | some c =>
          rw [hc] at hy;simp only [yal,zkF] at hy;rw [<- hy];exact .im _ _ (hr i u c hu hc)
       ·rename_i g' a5 b7;simp only [zkF,zkG] at hf;obtain ⟨rfl,rfl⟩:=hf;rw [b7] at h1;generalize a.eval f=v at h1;cases h1 with
        | fn _ us _ hl hr=>exact ⟨us,rfl,hl,hr⟩
       ·cases hf
      have a3:=(evL_ok hs d1).app e0;have c8:=zls b8 a4.left a4.right;have d2:=zpx hs (bs0:=bs) (fun p hp=>c0 p (yan _ hp)) a3 c8 (fun _ h=>h) fun p hp=>c0 p (yai _ hp);obtain ⟨d6,_⟩:=bxG_ok hs a3 c8 fun p hp=>c0 p (yai _ hp)
      have a6:=e6 w (Imm B (app σ' (fwr bs)) ρ w) _ _ (fun b hb=>hb.2.1) d2 (zev hs a2) fun b hb=>by
       obtain ⟨p,hp,ho⟩:=zd8.1 hb;refine ⟨fun hi=>hi.2.2.1 p.1 ?_,(hs.own p.1 b ho).2⟩;unfold Owns at ho ⊢;rw [zlm,if_neg (b3 p.1 (yag.2 ⟨p,hp,rfl⟩))];exact ho
      have run:(execOp a.eval o).run P w=.ok (.enter g (c.args.toList.map a.eval++us).toArray) w:=by
       have e:(c.args.map a.eval)++us.toArray=(c.args.toList.map a.eval++us).toArray:=by
        apply yef;simp
       simp [execOp,hop,resolve,hcal,e4,Deferred.ofValue,invoke,a7,<- e]
      unfold Oper.wp;rw [run,Oper.upon_enter];refine a6.mono ?_;rintro e w' ⟨v,F',rfl,d4,b4,e1,d7⟩;show K' (a.put o.dst v) w';rw [a8];rw [d6] at b4
      exact hK v w' F' d4 b4 e1 d7 fun p hp=>by
       obtain ⟨h5,h6⟩:=zje hp;exact ⟨zd7 (b0 _ h5),zio (b0 _ h6)⟩
     split at h
     ·obtain ⟨b9,h⟩:=h.out;refine ⟨_,h,fun σ' hag a w ⟨ρ,hs⟩ K' Q hK=>a9 σ' hag a w ρ hs K' Q fun v w' F' h1 h2 h3 h4 h5=>hK _ _ ?_⟩;obtain ⟨ρ',g1,g2,_⟩:=zjd hs gs a2 (S':=fun _=>False) h1 (fun b hb=>hb.elim) (resOk_flat b9 h2) h3 h4 c6 rfl b2 d0 b5 b6 h5;refine ⟨ρ',?_⟩;show SatR B (app σ' (fwr gs++(zdz σ ((zck σ (ze3 tp d) 0 l).2++ss')++(bxWr bl++[(.tmp d,.av va)])))) _ _ _;rw [zay,zay,zay];exact g1.put (d:=some d) c9 g2
     ·refine ⟨_,h,fun σ' hag a w ⟨ρ,hs⟩ K' Q hK=>a9 σ' hag a w ρ hs K' Q fun v w' F' h1 h2 h3 h4 h5=>hK _ _ ?_⟩;have e3:=zoh (σ:=σ') (ρ:=ρ) (bs:=bs) (gs:=gs) fun p hp=>b3 p.1 (yag.2 ⟨p,hp,rfl⟩);rw [<- e3] at h1 h2 h4;obtain ⟨ρ',g1,g2,_⟩:=zjd (hs.kills bs).1 gs a2 h1 (fun b hb=>hb) h2 h3 h4 c6 rfl b2 d0 b5 b6 fun p hp=>by rw [zos,zs8];exact h5 p hp
      refine ⟨ρ',?_⟩;show SatR B (app σ' (fwr bs++(fwr gs++(zdz σ ((zck σ (ze3 tp d) 0 l).2++ss')++(bxWr bl++[(.tmp d,.av va)]))))) _ _ _;rw [zay,zay,zay,zay];exact g1.put (d:=some d) c9 g2
    ·exact h.elim
   ·exact h.elim
  ·exact h.elim
 ·exact h.elim
theorem aCallA_ok {C:FuncId->List Arg->Rs->Prop} (hC:∀ g xs r,C g xs r->SpX P g xs r) {own:List Nat} {c:Call} {f:Operand} (hop:o.op=.call c) (hcal:c.callee=.value f) (hd:zdh B.n o=true) (h:aCallA own o σ K C f c.args.toList):∃ fx,K fx∧Eff P B o fx.rd σ fx.wr:=by
 unfold aCallA at h;split at h
 ·rename_i d g caps cs rest b2 hf e5;split at h
  ·rename_i xs bs gs d0;obtain ⟨e2,h⟩:=h.ok;obtain ⟨a6,b4⟩:=zg4 e2;obtain ⟨d1,r,hr,h⟩:=h.out;obtain ⟨b0,e3⟩:SpA P g (agT (own.contains (8500000+d))) (agL cs).length xs r:=hC g _ r hr;cases r with
   | mk tp l ys =>
   simp only at h;split at h
   ·rename_i al ss bl ss' d7 e8;split at h
    ·rename_i va a4;obtain ⟨e1,h⟩:=h.ok;obtain ⟨c7,d5⟩:=zg4 e1;have e7:al=(zck σ (ze3 tp d) 0 l).1:=by rw [d7]
     have f6:ss=(zck σ (ze3 tp d) 0 l).2:=by rw [d7]
     subst e7 f6;have c9:=((zq0 d0).nodup a6);have e0:∀ t,some d=some t->t<B.n:=fun t e=>by injection e with e;subst e;exact zdi hd b2
     have b8:∀ (σ':St),(∀ x∈opd f++opdL c.args.toList++frd σ (bs++gs)++zm3 ((zck σ (ze3 tp d) 0 l).2++ss'),σ' x=σ x)->∀ (a:Act) (w:World) (ρ:Ly),SatR B σ' a w ρ->∀ (K':Act->World->Prop) (Q:Exit->Act->World->Prop),
       (∀ v u w' F',RetA (agT (own.contains (8500000+d))) v u->Belo (fun b=>b∈zdo σ' ρ gs) w.heap.size w w'->zpi w' (fun b=>(Imm B (app σ' (fwr bs)) ρ w b∨w.heap.size<=b∨b∈zdo σ' ρ gs)∧b<w'.heap.size∧b∉F') u ((bxG own d 0 (cs++(rest++caps))).map fun p=>ρ p.1) (.mk tp l ys) F' ->
        F'.Nodup->(∀ b∈F',(w.heap.size<=b∨b∈zdo σ' ρ gs)∧b<w'.heap.size)->(∀ p∈(zck σ (ze3 tp d) 0 l).2++ss',σ'.gn p.1=σ.gn p.1∧σ'.ig p.1=σ.ig p.1)->K' (a.put (some d) v) w')->o.wp P a w K' Q:=by
      intro σ' hag a w ρ hs K' Q hK;have d4:=zaq (zaq (zaq hag));have d3:=za7 (zaq (zaq hag));have a7:zdy σ σ' (bs++gs):=za7 (zaq hag);have b3:=za7 hag
      have b6:∀ p∈bs++gs,σ'.gn p.1=p.2:=fun p hp=>by
       rw [<- d1 p hp];exact (a7.mem hp).1
      obtain ⟨us,f5,e9⟩:∃ us:List Value,a.eval f=.func (.func g) #[] us.toArray∧Reps w (Imm B σ' ρ w) ρ σ'.gn us caps:=by
       have h1:=za5 hs f;rw [zaj d4] at h1;split at hf
       ·rename_i g' a8 a3;simp only [zkF,zkG] at hf;obtain ⟨rfl,rfl⟩:=hf;rw [a3] at h1;have h1:=h1.im_inv;generalize a.eval f=v at h1;cases h1 with
        | fn _ us _ hl hr =>
         refine ⟨us,rfl,by simpa using hl,fun i u y hu hy=>?_⟩;simp only [yam] at hy;cases hc:a8[i]? with
         | none=>rw [hc] at hy;cases hy
         | some c =>
          rw [hc] at hy;simp only [yal,zkF] at hy;rw [<- hy];exact .im _ _ (hr i u c hu hc)
       ·rename_i g' a8 a3;simp only [zkF,zkG] at hf;obtain ⟨rfl,rfl⟩:=hf;rw [a3] at h1;generalize a.eval f=v at h1;cases h1 with
        | fn _ us _ hl hr=>exact ⟨us,rfl,hl,hr⟩
       ·cases hf
      have a3:=evL_ok hs d3;rw [e5] at a3
      obtain ⟨u0,vr,d9,h0,a2,d8⟩:∃ u0 vr,c.args.toList.map a.eval=.agg u0.toArray::vr∧Reps w (Imm B σ' ρ w) ρ σ'.gn u0 cs∧(∀ u∈u0,u.oneCell'=true)∧Reps w (Imm B σ' ρ w) ρ σ'.gn vr rest:=by
       generalize c.args.toList.map a.eval=vs at a3
       match vs,a3 with
       | [],a3=>have:=a3.1;simp at this
       | v::vr,a3 =>
        have h1:=a3.2 0 v (.agg cs) rfl rfl;cases h1 with
        | agg us _ hl h1 hr=>exact ⟨us,vr,rfl,⟨hl,hr⟩,h1,by simpa using a3.1,fun i u x hu hx=>a3.2 (i+1) u x (by simpa using hu) (by simpa using hx)⟩
      have a5:=h0.app (d8.app e9);have d2:=zls d0 a7.left a7.right;have c6:=zpx hs (bs0:=bs) (fun p hp=>b6 p (yan _ hp)) a5 d2 (fun _ h=>h) fun p hp=>b6 p (yai _ hp);obtain ⟨e4,_⟩:=bxG_ok hs a5 d2 fun p hp=>b6 p (yai _ hp)
      have a9:=e3 w (Imm B (app σ' (fwr bs)) ρ w) _ _ _ (fun b hb=>hb.2.1) c6 (by rw [agL_len];exact h0.1) a2 (zev hs a6) fun b hb=>by
       obtain ⟨p,hp,ho⟩:=zd8.1 hb;refine ⟨fun hi=>hi.2.2.1 p.1 ?_,(hs.own p.1 b ho).2⟩;unfold Owns at ho ⊢;rw [zlm,if_neg (b4 p.1 (yag.2 ⟨p,hp,rfl⟩))];exact ho
      have run:(execOp a.eval o).run P w=.ok (.enter g (c.args.toList.map a.eval++us).toArray) w:=by
       have e:(c.args.map a.eval)++us.toArray=(c.args.toList.map a.eval++us).toArray:=by
        apply yef;simp
       simp [execOp,hop,resolve,hcal,f5,Deferred.ofValue,invoke,b0,<- e]
      rw [d9] at run;unfold Oper.wp;rw [run,Oper.upon_enter];refine a9.mono ?_;rintro e w' ⟨v,u,F',rfl,c0,d6,b5,f3,e6⟩;show K' (a.put o.dst v) w';rw [b2];rw [e4] at b5
      exact hK v u w' F' c0 d6 b5 f3 e6 fun p hp=>by
       obtain ⟨h5,h6⟩:=zje hp;exact ⟨zd7 (b3 _ h5),zio (b3 _ h6)⟩
     refine ⟨_,h,fun σ' hag a w ⟨ρ,hs⟩ K' Q hK=>b8 σ' hag a w ρ hs K' Q fun v u w' F' h0 h1 h2 h3 h4 h5=>hK _ _ ?_⟩;have f4:=zoh (σ:=σ') (ρ:=ρ) (bs:=bs) (gs:=gs) fun p hp=>b4 p.1 (yag.2 ⟨p,hp,rfl⟩);rw [<- f4] at h1 h2 h4
     obtain ⟨b7,b9,c8⟩:∃ b7,resV tp (zck σ (ze3 tp d) 0 l).1=some b7∧∀ (w:World) (S:Nat->Prop) (ρ:Ly) (γ:Nat->Nat),RepA w S ρ γ u b7->RepA w S ρ γ v va:=by
      generalize own.contains (8500000+d)=fl at a4 h0;cases fl with
      | false=>exact ⟨va,a4,fun _ _ _ _ hr=>by have h0:v=u:=h0;rw [h0];exact hr⟩
      | true =>
       obtain ⟨us',rfl,rfl,ho⟩:∃ us:List Value,u=.tuple us.toArray∧v=.agg us.toArray∧∀ x∈us,x.oneCell'=true:=h0;cases tp with
       | false=>cases a4
       | true =>
        have a4:some (AV.agg (zck σ (ze3 true d) 0 l).1)=some va:=a4;injection a4 with a4
        subst a4;refine ⟨_,rfl,fun w S ρ γ hr=>?_⟩;generalize hq:Value.tuple us'.toArray=q at hr;cases hr with
        | tup us2 _ hl hr2 =>
         have e:us2=us':=by
          injection hq with hq
          have:=congrArg Array.toList hq;simpa using this.symm
         subst e;exact .agg _ _ hl ho hr2
     obtain ⟨ρ',g1,g2,_⟩:=zjd (hs.kills bs).1 gs a6 h1 (fun b hb=>hb) h2 h3 h4 e8 rfl c9 b9 c7 d5 fun p hp=>by rw [zos,zs8];exact h5 p hp
     refine ⟨ρ',?_⟩;show SatR B (app σ' (fwr bs++(fwr gs++(zdz σ ((zck σ (ze3 tp d) 0 l).2++ss')++(bxWr bl++[(.tmp d,.av va)]))))) _ _ _;rw [zay,zay,zay,zay];exact g1.put (d:=some d) e0 (c8 _ _ _ _ g2)
    ·exact h.elim
   ·exact h.elim
  ·exact h.elim
 ·exact h.elim
theorem aCallR_ok {C:FuncId->List Arg->Rs->Prop} (hC:∀ g xs r,C g xs r->SpX P g xs r) {own:List Nat} {c:Call} {f:Operand} (hop:o.op=.call c) (hcal:c.callee=.value f) (hd:zdh B.n o=true) (h:aCallR own o σ K C f c.args.toList):∃ fx,K fx∧Eff P B o fx.rd σ fx.wr:=by
 unfold aCallR at h;split at h
 ·rename_i d g caps b0 hf;split at h
  ·rename_i xs bs gs c9;obtain ⟨d9,h⟩:=h.ok;obtain ⟨a4,b3⟩:=zg4 d9;obtain ⟨d0,r,hr,h⟩:=h.out;obtain ⟨a9,e0⟩:SpR P g xs r:=hC g _ r hr;cases r with
   | mk tp l ys =>
   simp only at h;split at h
   ·rename_i al ss bl ss' d6 e4;split at h
    ·rename_i va a2;obtain ⟨d8,h⟩:=h.ok;obtain ⟨c6,d4⟩:=zg4 d8;have e3:al=(zck σ (ze3 tp d) 0 l).1:=by rw [d6]
     have e9:ss=(zck σ (ze3 tp d) 0 l).2:=by rw [d6]
     subst e3 e9;have c8:=((zq0 c9).nodup a4);have d7:∀ t,some d=some t->t<B.n:=fun t e=>by injection e with e;subst e;exact zdi hd b0
     have b7:∀ (σ':St),(∀ x∈opd f++opdL c.args.toList++frd σ (bs++gs)++zm3 ((zck σ (ze3 tp d) 0 l).2++ss'),σ' x=σ x)->∀ (a:Act) (w:World) (ρ:Ly),SatR B σ' a w ρ->∀ (K':Act->World->Prop) (Q:Exit->Act->World->Prop),
       (∀ v u w' F',RetA 1 v u->Belo (fun b=>b∈zdo σ' ρ gs) w.heap.size w w'->zpi w' (fun b=>(Imm B (app σ' (fwr bs)) ρ w b∨w.heap.size<=b∨b∈zdo σ' ρ gs)∧b<w'.heap.size∧b∉F') u ((bxG own d 0 (c.args.toList.map (evA σ)++caps)).map fun p=>ρ p.1) (.mk tp l ys) F' ->
        F'.Nodup->(∀ b∈F',(w.heap.size<=b∨b∈zdo σ' ρ gs)∧b<w'.heap.size)->(∀ p∈(zck σ (ze3 tp d) 0 l).2++ss',σ'.gn p.1=σ.gn p.1∧σ'.ig p.1=σ.ig p.1)->K' (a.put (some d) v) w')->o.wp P a w K' Q:=by
      intro σ' hag a w ρ hs K' Q hK;have d3:=zaq (zaq (zaq hag));have d2:=za7 (zaq (zaq hag));have a6:zdy σ σ' (bs++gs):=za7 (zaq hag);have b2:=za7 hag
      have b5:∀ p∈bs++gs,σ'.gn p.1=p.2:=fun p hp=>by
       rw [<- d0 p hp];exact (a6.mem hp).1
      obtain ⟨us,e8,e5⟩:∃ us:List Value,a.eval f=.func (.func g) #[] us.toArray∧Reps w (Imm B σ' ρ w) ρ σ'.gn us caps:=by
       have h1:=za5 hs f;rw [zaj d3] at h1;split at hf
       ·rename_i g' a7 a5;simp only [zkF,zkG] at hf;obtain ⟨rfl,rfl⟩:=hf;rw [a5] at h1;have h1:=h1.im_inv;generalize a.eval f=v at h1;cases h1 with
        | fn _ us _ hl hr =>
         refine ⟨us,rfl,by simpa using hl,fun i u y hu hy=>?_⟩;simp only [yam] at hy;cases hc:a7[i]? with
         | none=>rw [hc] at hy;cases hy
         | some c =>
          rw [hc] at hy;simp only [yal,zkF] at hy;rw [<- hy];exact .im _ _ (hr i u c hu hc)
       ·rename_i g' a7 a5;simp only [zkF,zkG] at hf;obtain ⟨rfl,rfl⟩:=hf;rw [a5] at h1;generalize a.eval f=v at h1;cases h1 with
        | fn _ us _ hl hr=>exact ⟨us,rfl,hl,hr⟩
       ·cases hf
      have a5:=evL_ok hs d2;have a3:=a5.app e5;have d1:=zls c9 a6.left a6.right;have c0:=zpx hs (bs0:=bs) (fun p hp=>b5 p (yan _ hp)) a3 d1 (fun _ h=>h) fun p hp=>b5 p (yai _ hp);obtain ⟨e1,_⟩:=bxG_ok hs a3 d1 fun p hp=>b5 p (yai _ hp)
      have a8:=e0 w (Imm B (app σ' (fwr bs)) ρ w) _ _ (fun b hb=>hb.2.1) c0 (zev hs a4) fun b hb=>by
       obtain ⟨p,hp,ho⟩:=zd8.1 hb;refine ⟨fun hi=>hi.2.2.1 p.1 ?_,(hs.own p.1 b ho).2⟩;unfold Owns at ho ⊢;rw [zlm,if_neg (b3 p.1 (yag.2 ⟨p,hp,rfl⟩))];exact ho
      have run:(execOp a.eval o).run P w=.ok (.enter g (c.args.toList.map a.eval++us).toArray) w:=by
       have e:(c.args.map a.eval)++us.toArray=(c.args.toList.map a.eval++us).toArray:=by
        apply yef;simp
       simp [execOp,hop,resolve,hcal,e8,Deferred.ofValue,invoke,a9,<- e]
      unfold Oper.wp;rw [run,Oper.upon_enter];refine a8.mono ?_;rintro e w' ⟨v,u,F',rfl,b9,d5,b4,e6,e2⟩;show K' (a.put o.dst v) w';rw [b0];rw [e1] at b4
      exact hK v u w' F' b9 d5 b4 e6 e2 fun p hp=>by
       obtain ⟨h5,h6⟩:=zje hp;exact ⟨zd7 (b2 _ h5),zio (b2 _ h6)⟩
     refine ⟨_,h,fun σ' hag a w ⟨ρ,hs⟩ K' Q hK=>b7 σ' hag a w ρ hs K' Q fun v u w' F' h0 h1 h2 h3 h4 h5=>hK _ _ ?_⟩;have e7:=zoh (σ:=σ') (ρ:=ρ) (bs:=bs) (gs:=gs) fun p hp=>b3 p.1 (yag.2 ⟨p,hp,rfl⟩);rw [<- e7] at h1 h2 h4
     obtain ⟨b6,b8,c7⟩:∃ b6,resV tp (zck σ (ze3 tp d) 0 l).1=some b6∧∀ (w:World) (S:Nat->Prop) (ρ:Ly) (γ:Nat->Nat),RepA w S ρ γ u b6->RepA w S ρ γ v va:=by
      obtain ⟨us',rfl,rfl,ho⟩:∃ us:List Value,u=.tuple us.toArray∧v=.agg us.toArray∧∀ x∈us,x.oneCell'=true:=h0;cases tp with
      | false=>cases a2
      | true =>
       have a2:some (AV.agg (zck σ (ze3 true d) 0 l).1)=some va:=a2;injection a2 with a2
       subst a2;refine ⟨_,rfl,fun w S ρ γ hr=>?_⟩;generalize hq:Value.tuple us'.toArray=q at hr;cases hr with
       | tup us2 _ hl hr2 =>
        have e:us2=us':=by
         injection hq with hq
         have:=congrArg Array.toList hq;simpa using this.symm
        subst e;exact .agg _ _ hl ho hr2
     obtain ⟨ρ',g1,g2,_⟩:=zjd (hs.kills bs).1 gs a4 h1 (fun b hb=>hb) h2 h3 h4 e4 rfl c8 b8 c6 d4 fun p hp=>by rw [zos,zs8];exact h5 p hp
     refine ⟨ρ',?_⟩;show SatR B (app σ' (fwr bs++(fwr gs++(zdz σ ((zck σ (ze3 tp d) 0 l).2++ss')++(bxWr bl++[(.tmp d,.av va)]))))) _ _ _;rw [zay,zay,zay,zay];exact g1.put (d:=some d) d7 (c7 _ _ _ _ g2)
    ·exact h.elim
   ·exact h.elim
  ·exact h.elim
 ·exact h.elim
end
end
section
def cellV (w:World) (v:Value) (j:Nat):Value:=match v with
 | .pointer (some a)=>match w.heap[a.block]? with
  | some (.cells us _ _)=>us.toList.getD j undef
  | _=>undef
 | _=>undef
theorem fillCs_ok {w:World} {S:Nat->Prop} {h:Nat->Bool} {V:Nat->Value}:∀ {us:List Value} {cs:List Oc} {j:Nat} {F:List Nat},(∀ k u,us[k]?=some u->V (j+k)=u∧u.oneCell'=true)->zl4 w S us cs F->zl4 w S us (fillCs h V j cs) F
 | [],[],_,_,_,hk=>hk
 | [],_::_,_,_,_,hk=>hk.elim
 | _::_,[],_,_,_,hk=>hk.elim
 | u::us,c::cs,j,F,hv,⟨F1,F2,h1,h2,h3⟩=>by
  refine ⟨F1,F2,?_,fillCs_ok (fun k x hx=>by rw [ybf,yca 1 k];exact hv (k+1) x (by simpa using hx)) h2,h3⟩;unfold fillC;split
  ·split
   ·rename_i hc;cases c with
    | ow k=>cases hc
    | im x =>
     obtain ⟨_,h1⟩:=h1;obtain ⟨this,a2⟩:=hv 0 u rfl;rw [ybs] at this;rw [this];exact ⟨.ex _ a2,h1⟩
   ·exact h1
  ·exact h1
theorem fillX_ok {w:World} {S:Nat->Prop} {own:List Nat} {d:Nat} {V:Nat->Nat->Value}:∀ {vs:List Value} {xs:List Arg} {i:Nat} {F:List Nat},(∀ k v j,vs[k]?=some v->V (i+k) j=cellV w v j)->zeq w S vs xs F->zeq w S vs (fillX own d V i xs) F
 | [],[],_,_,_,hk=>hk
 | [],_::_,_,_,_,hk=>hk.elim
 | _::_,[],_,_,_,hk=>hk.elim
 | v::vs,x::xs,i,F,hv,⟨F1,F2,h1,h2,h3⟩=>by
  refine ⟨F1,F2,?_,fillX_ok (fun k x j hx=>by rw [ybf,yca 1 k];exact hv (k+1) x j (by simpa using hx)) h2,h3⟩;cases x with
  | im x=>exact h1
  | ow k=>exact h1
  | lent k=>exact h1
  | box t cs =>
   obtain ⟨q,us,F',e1,e2,e3,e4,e5⟩:=h1;refine ⟨q,us,F',e1,e2,e3,fillCs_ok (fun k u hu=>?_) e4,e5⟩;have:=hv 0 v (0+k) rfl;rw [ybs] at this;refine ⟨?_,e3 u (zkH hu)⟩;rw [this,e1];unfold cellV;simp only [e2];rw [yae,ybd,hu];rfl
theorem fillX_vs {own:List Nat} {d:Nat} {V:Nat->Nat->Value}:∀ {vs:List Value} {xs:List Arg} {i:Nat},bxVs vs (fillX own d V i xs)=bxVs vs xs
 | [],[],_=>rfl
 | [],_::_,_=>rfl
 | _::_,[],_=>rfl
 | v::vs,x::xs,i=>by
  have ih:=fillX_vs (own:=own) (d:=d) (V:=V) (vs:=vs) (xs:=xs) (i:=i+1);cases x with
  | im x=>exact ih
  | ow k=>exact ih
  | lent k=>show v::_=v::_;rw [ih]
  | box t cs=>show v::_=v::_;rw [ih]
theorem zvg {w:World} {S:Nat->Prop} {h:Nat->Bool} {V:Nat->Value}:∀ {us:List Value} {cs:List Oc} {j:Nat} {F:List Nat},zl4 w S us (fillCs h V j cs) F->zl4 w S us cs F∧∀ k c,cs[k]?=some c->h (j+k)=true->isAny c=true->us[k]?=some (V (j+k))
 | [],[],_,_,hk=>⟨hk,fun k c hc=>by simp at hc⟩
 | [],_::_,_,_,hk=>hk.elim
 | _::_,[],_,_,hk=>hk.elim
 | u::us,c::cs,j,F,⟨F1,F2,h1,h2,h3⟩=>by
  obtain ⟨r1,r2⟩:=zvg h2
  have key:OcOk w S u c F1∧(h j=true->isAny c=true->u=V j):=by
   unfold fillC at h1;split at h1
   ·rename_i hh;split at h1
    ·rename_i hc;obtain ⟨h4,h5⟩:=h1;cases c with
     | ow k=>cases hc
     | im x =>
      cases x with
      | any=>cases h4;exact ⟨⟨.any _,h5⟩,fun _ _=>rfl⟩
      | _=>cases hc
    ·rename_i hc;exact ⟨h1,fun _ h6=>by rw [hc] at h6;cases h6⟩
   ·rename_i hh;exact ⟨h1,fun h6 _=>by rw [hh] at h6;cases h6⟩
  refine ⟨⟨F1,F2,key.1,r1,h3⟩,fun k c' hc hh ha=>?_⟩;cases k with
  | zero =>
   simp at hc;subst hc;rw [key.2 hh ha];rfl
  | succ k =>
   have:=r2 k c' (by simpa using hc) (by rw [ybf,yca 1 k];exact hh) ha;rw [ybf,yca 1 k] at this;simpa using this
theorem zwv {w:World} {S:Nat->Prop} {own:List Nat} {d:Nat} {V:Nat->Nat->Value}:∀ {bx:yad} {ps:List Value} {ys:List Arg} {F:List Nat},zeq w S ps (fillY own d V bx ys) F->zeq w S ps ys F ∧
  ∀ p∈hlY own d bx ys,∃ (k i:Nat) (t:TypeId) (cs:List Oc) (q:Nat) (us:List Value),bx[k]?=some (p.1,i)∧ys[k]?=some (.box t cs)∧p.2<cs.length∧ps[k]?=some (.pointer (some ⟨q,0,none⟩))∧w.heap[q]?=some (.cells us.toArray t (0,0))∧us[p.2]?=some (V i p.2)
 | [],ps,ys,F,hk=>⟨hk,fun p hp=>by cases ys<;>simp [hlY] at hp⟩
 | _::_,ps,[],F,hk=>⟨hk,fun p hp=>by simp [hlY] at hp⟩
 | (b,i)::bx,[],y::ys,F,hk=>hk.elim
 | (b,i)::bx,v::ps,y::ys,F,⟨F1,F2,h1,h2,h3⟩=>by
  obtain ⟨r1,r2⟩:=zwv h2
  have up:∀ p∈hlY own d bx ys,∃ (k i':Nat) (t:TypeId) (cs:List Oc) (q:Nat) (us:List Value),((b,i)::bx)[k]?=some (p.1,i')∧(y::ys)[k]?=some (.box t cs)∧p.2<cs.length∧(v::ps)[k]?=some (.pointer (some ⟨q,0,none⟩))∧w.heap[q]?=some (.cells us.toArray t (0,0))∧us[p.2]?=some (V i' p.2):=fun p hp=>by
   obtain ⟨k,i',t,cs,q,us,a1,a2,a3⟩:=r2 p hp;exact ⟨k+1,i',t,cs,q,us,by simpa using a1,by simpa using a2,by simpa using a3⟩
  cases y with
  | im x=>exact ⟨⟨F1,F2,h1,r1,h3⟩,up⟩
  | ow k=>exact ⟨⟨F1,F2,h1,r1,h3⟩,up⟩
  | lent k=>exact ⟨⟨F1,F2,h1,r1,h3⟩,up⟩
  | box t cs =>
   obtain ⟨q,us,F',e1,e2,e3,e4,e5⟩:=h1;obtain ⟨e6,e7⟩:=zvg e4;refine ⟨⟨F1,F2,⟨q,us,F',e1,e2,e3,e6,e5⟩,r1,h3⟩,fun p hp=>?_⟩;unfold hlY at hp;rcases yap.1 hp with hp | hp
   ·have hcell:∀ (cs:List Oc) (j:Nat),p∈hlC own d i b j cs->∃ m c,p=(b,j+m)∧cs[m]?=some c∧holeH own d i (j+m)=true∧isAny c=true:=by
     intro cs
     induction cs with
     | nil=>intro j hp;simp [hlC] at hp
     | cons c cs ih =>
      intro j hp
      have a6:p∈hlC own d i b (j+1) cs->∃ m c',p=(b,j+m)∧(c::cs)[m]?=some c'∧holeH own d i (j+m)=true∧isAny c'=true:=fun hp=>by
       obtain ⟨m,c',a1,a2,a3,a4⟩:=ih (j+1) hp;exact ⟨m+1,c',by rw [a1,ybf,yca 1 m],by simpa using a2,by rw [<- yca 1 m,<- ybf];exact a3,a4⟩
      unfold hlC at hp;split at hp
      ·rename_i hh ha;rcases yau.1 hp with rfl | hp
       ·exact ⟨0,c,rfl,rfl,hh,ha⟩
       ·exact a6 hp
      ·exact a6 hp
    obtain ⟨m,c,rfl,a2,a3,a4⟩:=hcell cs 0 hp;rw [yae] at a3 ⊢;have a5:=e7 m c a2 (by rw [yae];exact a3) a4;rw [yae] at a5;exact ⟨0,i,t,cs,q,us,rfl,rfl,(zkI.1 a2).1,by rw [e1];rfl,e2,a5⟩
   ·exact up p hp
theorem memB_iff {b:Nat}:∀ {l:List Nat},memB b l=true↔b∈l
 | []=>by simp [memB]
 | x::l=>by
  unfold memB;split
  ·rename_i h;simp [yaf h]
  ·rename_i h;have hne:b≠x:=fun e=>by rw [e,Nat.beq_refl] at h;cases h
   rw [memB_iff];simp [hne]
theorem memC_iff {b j:Nat}:∀ {l:yad},memC b j l=true↔(b,j)∈l
 | []=>by simp [memC]
 | x::l=>by
  unfold memC;split
  ·rename_i h;rw [yaq] at h;have h1:=yaf h.1;have h2:=yaf h.2;have:(b,j)=x:=by rw [<- h1,<- h2]
   simp [this]
  ·rename_i h
   have a2:(b,j)≠x:=fun e=>by
    rw [<- e] at h;simp at h
   rw [memC_iff];simp [a2]
section
variable {P:Program} {B:Base} {o:Oper} {σ:St} {K:Fx->Prop}
theorem keepW_at (bs:List Nat) (hs:yad) (l:Loc):∀ (wr:List (Loc×Ct)) (σ:St),app σ (keepW bs hs wr) l=if keepL bs hs l=true then app σ wr l else σ l
 | [],σ=>by show σ l=_;split<;>rfl
 | p::wr,σ=>by
  unfold keepW;split
  ·rename_i hp;show app (upd σ p.1 p.2) (keepW bs hs wr) l=_;rw [keepW_at bs hs l wr];by_cases hl:keepL bs hs l=true
   ·rw [if_pos hl,if_pos hl];rfl
   ·rw [if_neg hl,if_neg hl,ze4,if_neg (fun e=>hl (by rw [e];exact hp))]
  ·rename_i hp;rw [keepW_at bs hs l wr];by_cases hl:keepL bs hs l=true
   ·rw [if_pos hl,if_pos hl];have hne:l≠p.1:=fun e=>by rw [e,hp] at hl;cases hl
    -- a write elsewhere
    have:∀ (wr:List (Loc×Ct)) (σ1 σ2:St),(∀ x,x≠p.1->σ1 x=σ2 x)->∀ x,x≠p.1->app σ1 wr x=app σ2 wr x:=by
     intro wr
     induction wr with
     | nil=>intro σ1 σ2 h x hx;exact h x hx
     | cons q wr ih =>
      intro σ1 σ2 h x hx;refine ih (upd σ1 q.1 q.2) (upd σ2 q.1 q.2) (fun y hy=>?_) x hx;rw [ze4,ze4];split
      ·rfl
      ·exact h y hy
    exact this wr σ (upd σ p.1 p.2) (fun x hx=>by rw [ze4,if_neg hx]) l hne
   ·rw [if_neg hl,if_neg hl]
theorem argsG_box {own:List Nat} {d:Nat} {b i:Nat}:∀ {cs:List AV} {i0:Nat} {xs:List Arg} {bs gs:yad},zk7 σ own d i0 cs=some (xs,bs,gs)->(b,i)∈bxG own d i0 cs->objG σ b=none->∃ k g,i=i0+k∧cs[k]?=some (.own b g 0)∧(b,g)∈gs
 | [],i0,xs,bs,gs,e,hm,_=>by simp [bxG] at hm
 | c::cs,i0,xs,bs,gs,e,hm,hn=>by
  simp only [zk7] at e;split at e
  ·rename_i x b1 g1 xs1 bs1 gs1 h1 h2;simp only [zkF,zkG] at e;obtain ⟨rfl,rfl,rfl⟩:=e
   have up:(b,i)∈bxG own d (i0+1) cs->∃ k g,i=i0+k∧(c::cs)[k]?=some (.own b g 0)∧(b,g)∈g1++gs1:=fun hm=>by
    obtain ⟨k,g,a1,a2,a3⟩:=argsG_box h2 hm hn;exact ⟨k+1,g,by omega,by simpa using a2,yai _ a3⟩
   unfold argG at h1;unfold bxG at hm;split at h1
   ·rename_i ho;rw [ho] at hm;split at h1
    ·rename_i b' g';split at h1
     ·rename_i k hk;simp only at hm;split at hm
      ·rcases yau.1 hm with e | hm
       ·simp only [zkG] at e;rw [<- e.1,hn] at hk;cases hk
       ·exact up hm
      ·exact up hm
     ·cases h1
    ·rename_i b' g';split at h1
     ·split at h1
      ·simp only [zkF,zkG] at h1;obtain ⟨rfl,rfl,rfl⟩:=h1;simp only at hm;rcases yau.1 hm with e | hm
       ·simp only [zkG] at e;obtain ⟨rfl,rfl⟩:=e;exact ⟨0,g',rfl,rfl,by simp⟩
       ·exact up hm
      ·cases h1
     ·cases h1
    ·exact up hm
    ·cases h1
   ·rename_i ho;rw [ho] at hm;exact up hm
  ·cases e
theorem zsy {τ:St}:∀ {bx:yad} {ys:List Arg} {bl:List (Nat×LK)} {ss:List (Nat×Kd)},bxPl τ bx ys=some (bl,ss)->∀ {k b i:Nat} {t:TypeId} {cs:List Oc},bx[k]?=some (b,i)->ys[k]?=some (.box t cs)->∃ al,bl[k]?=some (b,.box t al)∧al.length=cs.length
 | [],_,_,_,_,k,b,i,t,cs,h1,_=>by simp at h1
 | _::_,[],_,_,e,k,b,i,t,cs,h1,h2=>by simp at h2
 | (b0,i0)::bx,y::ys,bl,ss,e,k,b,i,t,cs,h1,h2=>by
  cases y with
  | im x=>simp [bxPl] at e
  | ow x=>simp [bxPl] at e
  | lent x =>
   unfold bxPl at e;split at e
   ·rename_i l s2 hfk e2;simp only [zkF,zkG] at e;obtain ⟨rfl,rfl⟩:=e;cases k with
    | zero=>simp at h2
    | succ k =>
     obtain ⟨al,a1,a2⟩:=zsy e2 (k:=k) (by simpa using h1) (by simpa using h2);exact ⟨al,by simpa using a1,a2⟩
   ·cases e
  | box t0 cs0 =>
   unfold bxPl at e;split at e
   ·rename_i al s1 l s2 e1 e2;simp only [zkF,zkG] at e;obtain ⟨rfl,rfl⟩:=e;cases k with
    | zero =>
     simp at h1 h2;obtain ⟨rfl,rfl⟩:=h1;obtain ⟨rfl,rfl⟩:=h2;refine ⟨al,rfl,?_⟩;have:al=(zck τ (cellNm τ b0 i0) 0 cs0).1:=by rw [e1]
     rw [this]
     have a3:∀ (f:Nat->Nat) (cs:List Oc) (j:Nat),(zck τ f j cs).1.length=cs.length:=by
      intro f cs
      induction cs with
      | nil=>intro j;rfl
      | cons c cs ih=>intro j;show (_::(zck τ f (j+1) cs).1).length=_;rw [zkL,ih];rfl
     exact a3 _ _ _
    | succ k =>
     obtain ⟨a4,a1,a2⟩:=zsy e2 (k:=k) (by simpa using h1) (by simpa using h2);exact ⟨a4,by simpa using a1,a2⟩
   ·cases e
theorem zno:∀ {bl:List (Nat×LK)},sameBx σ bl=true->∀ {b:Nat} {t:TypeId} {al:List AV},(b,LK.box t al)∈bl->σ.kd b=.box t al.length
 | [],_,b,t,al,h=>by simp at h
 | (b0,.obj k)::bl,e,b,t,al,h=>by
  rcases yau.1 h with h | h
  ·simp at h
  ·exact zno (bl:=bl) e h
 | (b0,.box t0 al0)::bl,e,b,t,al,h=>by
  unfold sameBx at e;rw [yaq] at e;rcases yau.1 h with h | h
  ·simp only [zkG,LK.box.injEq] at h;obtain ⟨rfl,rfl,rfl⟩:=h;have e1:=e.1;split at e1
   ·rename_i t' m hk;rw [yaq] at e1;rw [hk,yaf e1.1,yaf e1.2]
   ·cases e1
  ·exact zno e.2 h
theorem bxN_mem:∀ {bl:List (Nat×LK)} {b:Nat},b∈bxN bl->∃ t al,(b,LK.box t al)∈bl
 | [],b,h=>by simp [bxN] at h
 | (b0,.obj k)::bl,b,h=>by
  obtain ⟨t,al,h⟩:=bxN_mem (bl:=bl) h;exact ⟨t,al,by simp [h]⟩
 | (b0,.box t al)::bl,b,h=>by
  have h:b∈b0::bxN bl:=h;rcases yau.1 h with rfl | h
  ·exact ⟨t,al,by simp⟩
  ·obtain ⟨t,al,h⟩:=bxN_mem h;exact ⟨t,al,by simp [h]⟩
theorem bxN_of:∀ {bl:List (Nat×LK)} {b:Nat} {t:TypeId} {al:List AV},(b,LK.box t al)∈bl->b∈bxN bl
 | [],b,t,al,h=>by simp at h
 | (b0,.obj k)::bl,b,t,al,h=>by
  rcases yau.1 h with h | h
  ·simp at h
  ·exact bxN_of (bl:=bl) h
 | (b0,.box t0 al0)::bl,b,t,al,h=>by
  show b∈b0::bxN bl;rcases yau.1 h with h | h
  ·simp only [zkG] at h;simp [h.1]
  ·simp [bxN_of h]
theorem bxWr_kd:∀ {bl:List (Nat×LK)} {σ:St} {b:Nat} {t:TypeId} {al:List AV},(bl.map (·.1)).Nodup->(b,LK.box t al)∈bl->(app σ (bxWr bl)).kd b=.box t al.length
 | [],σ,b,t,al,_,h=>by simp at h
 | (b0,x)::bl,σ,b,t,al,hn,h=>by
  rw [yar,ybm] at hn
  have happ:app σ (bxWr ((b0,x)::bl))=app (app σ (lkWr b0 x)) (bxWr bl):=by
   show app σ (lkWr b0 x++bxWr bl)=_;rw [zay]
  rw [happ]
  have a2:∀ (bl:List (Nat×LK)) (σ:St),b0∉bl.map (·.1)->(app σ (bxWr bl)).kd b0=σ.kd b0:=by
   intro bl
   induction bl with
   | nil=>intro σ _;rfl
   | cons p bl ih =>
    intro σ hm;rw [yar,yau,not_or] at hm;show (app σ (lkWr p.1 p.2++bxWr bl)).kd b0=_;rw [zay,ih _ hm.2];cases p.2 with
    | box t al =>
     show (app (upd σ (.knd p.1) (.kd (.box t al.length))) (zgw p.1 0 al)).kd b0=_;rw [zpv,zfn,if_neg hm.1]
    | obj k =>
     show (upd σ (.knd p.1) (.kd k)).kd b0=_;rw [zfn,if_neg hm.1]
  rcases yau.1 h with h | h
  ·simp only [zkG] at h;obtain ⟨rfl,rfl⟩:=h;rw [a2 bl _ hn.1];show (app (upd σ (.knd b) (.kd (.box t al.length))) (zgw b 0 al)).kd b=_;rw [zpv,zfn,if_pos rfl]
  ·exact bxWr_kd hn.2 h
theorem fillX_nm {own:List Nat} {d i:Nat} {V:Nat->Nat->Value} {xs:List Arg} (h:nmX xs=true):nmX (fillX own d V i xs)=true:=by
 cases xs with
 | nil=>rfl
 | cons x l =>
  cases x with
  | im _=>rfl
  | ow _=>rfl
  | box _ _=>rfl
  | lent k=>cases k<;>first | rfl | cases h
theorem aCallH_ok {C:FuncId->List Arg->Rs->Prop} (hC:∀ g xs r,C g xs r->SpX P g xs r) {own:List Nat} {c:Call} {f:Operand} (hop:o.op=.call c) (hcal:c.callee=.value f) (hd:zdh B.n o=true) (h:aCallH own o σ K C f c.args.toList):∃ fx,K fx∧Eff P B o fx.rd σ fx.wr:=by
 unfold aCallH at h;split at h
 ·rename_i d g caps e9 hf;split at h
  ·rename_i xs bs gs d7;obtain ⟨l3,h⟩:=h.ok;obtain ⟨c0,c6⟩:=zg4 l3;obtain ⟨i0,tp,l,ys,hr,h⟩:=h.out;have k8:=fun V=>(hC g _ _ (hr V)).sp (fillX_nm (argsG_nm d7));split at h
   ·rename_i al ss bl ss' i7 d4;split at h
    ·rename_i va l0;obtain ⟨c9,h⟩:=h.ok;rw [yaq] at c9;obtain ⟨c9,b6⟩:=c9;obtain ⟨h7,h4⟩:=zg4 c9;have l6:al=(zck σ (ze3 tp d) 0 l).1:=by rw [i7]
     have k7:ss=(zck σ (ze3 tp d) 0 l).2:=by rw [i7]
     subst l6 k7;have f6:=((zq0 d7).nodup c0);have k9:∀ t,some d=some t->t<B.n:=fun t e=>by injection e with e;subst e;exact zdi hd e9
     refine ⟨_,h,fun σ' hag a w ⟨ρ,hs⟩ K' Q hK=>?_⟩;have i5:=zaq (zaq (zaq hag));have i3:=za7 (zaq (zaq hag));have b0:zdy σ σ' (bs++gs):=za7 (zaq hag);have d9:=za7 hag
     have d0:∀ p∈bs++gs,σ'.gn p.1=p.2:=fun p hp=>by
      rw [<- i0 p hp];exact (b0.mem hp).1
     obtain ⟨us,k6,j7⟩:∃ us:List Value,a.eval f=.func (.func g) #[] us.toArray∧Reps w (Imm B σ' ρ w) ρ σ'.gn us caps:=by
      have h1:=za5 hs f;rw [zaj i5] at h1;split at hf
      ·rename_i g' c7 g5;simp only [zkF,zkG] at hf;obtain ⟨rfl,rfl⟩:=hf;rw [g5] at h1;have h1:=h1.im_inv;generalize a.eval f=v at h1;cases h1 with
       | fn _ us _ hl hr =>
        refine ⟨us,rfl,by simpa using hl,fun i u y hu hy=>?_⟩;simp only [yam] at hy;cases hc:c7[i]? with
        | none=>rw [hc] at hy;cases hy
        | some c =>
         rw [hc] at hy;simp only [yal,zkF] at hy;rw [<- hy];exact .im _ _ (hr i u c hu hc)
      ·rename_i g' c7 g5;simp only [zkF,zkG] at hf;obtain ⟨rfl,rfl⟩:=hf;rw [g5] at h1;generalize a.eval f=v at h1;cases h1 with
       | fn _ us _ hl hr=>exact ⟨us,rfl,hl,hr⟩
      ·cases hf
     have a9:=(evL_ok hs i3).app j7;have f8:=zls d7 b0.left b0.right;have g7:=zpx hs (bs0:=bs) (fun p hp=>d0 p (yan _ hp)) a9 f8 (fun _ h=>h) fun p hp=>d0 p (yai _ hp);obtain ⟨j5,_⟩:=bxG_ok hs a9 f8 fun p hp=>d0 p (yai _ hp);generalize j0:c.args.toList.map a.eval++us=vs at *
     let V:Nat->Nat->Value:=fun i j=>cellV w (vs.getD i undef) j
     have f9:=fillX_ok (own:=own) (d:=d) (V:=V) (i:=0) (fun k v j hv=>by
      show cellV w (vs.getD (0+k) undef) j=_
      rw [yae,ybd,hv];rfl) g7
     obtain ⟨d6,l5⟩:=k8 V
     have d5:=l5 w (Imm B (app σ' (fwr bs)) ρ w) _ _ (fun b hb=>hb.2.1) f9 (zev hs c0) fun b hb=>by
      obtain ⟨p,hp,ho⟩:=zd8.1 hb;refine ⟨fun hi=>hi.2.2.1 p.1 ?_,(hs.own p.1 b ho).2⟩;unfold Owns at ho ⊢;rw [zlm,if_neg (c6 p.1 (yag.2 ⟨p,hp,rfl⟩))];exact ho
     have run:(execOp a.eval o).run P w=.ok (.enter g vs.toArray) w:=by
      have e:(c.args.map a.eval)++us.toArray=vs.toArray:=by
       rw [<- j0];apply yef;simp
      simp [execOp,hop,resolve,hcal,k6,Deferred.ofValue,invoke,d6,<- e]
     unfold Oper.wp;rw [run,Oper.upon_enter];refine d5.mono ?_;rintro e w' ⟨v,F',rfl,e8,e0,j9,h9⟩;show K' (a.put o.dst v) w';rw [e9];rw [fillX_vs,j5] at e0;obtain ⟨j1,F1,F2,r1,r2,r3,r4⟩:=e0;obtain ⟨r5,r6⟩:=zwv r3;have l7:=zoh (σ:=σ') (ρ:=ρ) (bs:=bs) (gs:=gs) fun p hp=>c6 p.1 (yag.2 ⟨p,hp,rfl⟩);rw [<- l7] at e8 h9 r2 r5
     have h5:∀ p∈(zck σ (ze3 tp d) 0 l).2++ss',(app σ' (fwr bs)).gn p.1=σ.gn p.1∧(app σ' (fwr bs)).ig p.1=σ.ig p.1:=fun p hp=>by
      obtain ⟨h5,h6⟩:=zje hp;rw [zos,zs8];exact ⟨zd7 (d9 _ h5),zio (d9 _ h6)⟩
     obtain ⟨ρ',g1,g2,g3,g4⟩:=zjd (hs.kills bs).1 gs c0 e8 (fun b hb=>hb) ⟨j1,F1,F2,r1,r2,r5,r4⟩ j9 h9 d4 rfl f6 l0 h7 h4 h5;have b9:=zq6 d4;have i4:(bl.map (·.1)).Nodup:=by rw [b9];exact f6
     -- the state with i9 i8
     generalize g8:fwr bs++(fwr gs++(zdz σ ((zck σ (ze3 tp d) 0 l).2++ss')++bxWr bl))=wr;generalize j3:hlY own d (bxG own d 0 (c.args.toList.map (evA σ)++caps)) ys=hl at r6
     have hσ1:app (app (app (app σ' (fwr bs)) (fwr gs)) (zdz σ ((zck σ (ze3 tp d) 0 l).2++ss'))) (bxWr bl)=app σ' wr:=by
      rw [<- g8,zay,zay,zay]
     have d8:∀ b∈bxN bl,∃ t m,σ'.kd b=.box t m∧(app σ' wr).kd b=.box t m∧∀ al,(b,LK.box t al)∈bl->al.length=m:=fun b hb=>by
      obtain ⟨t,al,hm⟩:=bxN_mem hb;have e1:=zno b6 hm;have l4:b∈gs.map (·.1):=(zq0 d7).subset (by rw [<- b9];exact yag.2 ⟨_,hm,rfl⟩);obtain ⟨p,hp,rfl⟩:=yag.1 l4;refine ⟨t,al.length,?_,?_,fun l8 j6=>?_⟩
      ·rw [(b0.mem (yai _ hp)).2.1,e1]
      ·rw [<- hσ1];exact bxWr_kd i4 hm
      ·have:=zno b6 j6;rw [e1] at this;injection this with _ this
       exact this.symm
     rw [hσ1] at g1 g2 g3;have b7:=keepW_at (bxN bl) hl;have k5:∀ t,(app σ' (keepW (bxN bl) hl wr)).av t=(app σ' wr).av t:=fun t=>by unfold St.av;rw [b7,if_pos (show keepL (bxN bl) hl (.tmp t)=true from rfl)]
     have g9:(app σ' (keepW (bxN bl) hl wr)).gn=(app σ' wr).gn:=funext fun t=>by unfold St.gn;rw [b7,if_pos (show keepL (bxN bl) hl (.gen t)=true from rfl)]
     have j2:∀ t,(app σ' (keepW (bxN bl) hl wr)).ig t=(app σ' wr).ig t:=fun t=>by unfold St.ig;rw [b7,if_pos (show keepL (bxN bl) hl (.ign t)=true from rfl)]
     have g6:(app σ' (keepW (bxN bl) hl wr)).kd=(app σ' wr).kd:=funext fun t=>by
      by_cases ht:t∈bxN bl
      ·obtain ⟨t1,m,e1,e2,_⟩:=d8 t ht;rw [e2,<- e1];unfold St.kd;rw [b7,if_neg (by show ¬ (!memB t (bxN bl))=true;rw [memB_iff.2 ht];simp)]
      ·unfold St.kd
       rw [b7,if_pos (by
        show (!memB t (bxN bl))=true
        cases hb:memB t (bxN bl) with
        | false=>rfl
        | true=>exact absurd (memB_iff.1 hb) ht)]
     have h0:∀ b j,(b,j)∉hl->(app σ' (keepW (bxN bl) hl wr)).ce b j=(app σ' wr).ce b j:=fun b j hn=>by
      unfold St.ce
      rw [b7,if_pos (by
       show (!memC b j hl)=true
       cases hb:memC b j hl with
       | false=>rfl
       | true=>exact absurd (memC_iff.1 hb) hn)]
     have i6:∀ b j,(b,j)∈hl->(app σ' (keepW (bxN bl) hl wr)).ce b j=σ'.ce b j:=fun b j hm=>by
      unfold St.ce;rw [b7,if_neg (by show ¬ (!memC b j hl)=true;rw [memC_iff.2 hm];simp)]
     have b8:∀ o b,Owns (app σ' (keepW (bxN bl) hl wr)) ρ' o b↔Owns (app σ' wr) ρ' o b:=fun o b=>by unfold Owns;rw [g6]
     have j4:∀ p∈hl,p.1∈bxN bl:=fun p hp=>by
      obtain ⟨k,i,t,cs,q,c8,a1,a2,_⟩:=r6 p hp;obtain ⟨al,a3,_⟩:=zsy d4 a1 a2;exact bxN_of (zkH a3)
     obtain ⟨s1,s2,s3,_⟩:=g1.stepZ (σ':=app σ' (keepW (bxN bl) hl wr)) (ρ':=ρ') (w':=w') (fun o=>o∈bxN bl) B.Z k5
      (fun o hd=>⟨by rw [g6],by rw [g9],fun i=>h0 o i fun hm=>hd (j4 _ hm),rfl,rfl,rfl⟩) (fun o _=>⟨⟨by rw [g9];exact yao _,fun _=>rfl⟩,yao _,fun _=>rfl⟩)
      (fun o=>by rw [j2];exact g1.igs o) (Belo.refl _ _ _) (fun o b hd ho=>.inr (.inr ⟨o,hd,(b8 o b).1 ho⟩)) (fun o p b _ _ h1 h2=>g1.dis o p b ((b8 o b).1 h1) ((b8 p b).1 h2))
      (fun b hb=>⟨(g1.res b hb).1.2,.inr (.inl hb),fun o _ ho=>(g1.res b hb).2 o ((b8 o b).1 ho)⟩) fun hI hA o hd=>by
       obtain ⟨t,m,k1,k2,k3⟩:=d8 o hd;rw [g6,k2];have ho:=g1.obs o;rw [k2] at ho;obtain ⟨q,c8,b1,b2,b3,b4,b5⟩:=ho;refine ⟨q,c8,b1,b2,b3,b4,fun j u hu=>?_⟩;by_cases hm:(o,j)∈hl
       ·rw [i6 o j hm];obtain ⟨k,i,t',cs,q',us'',a1,a2,a3,a4,a5,a6⟩:=r6 (o,j) hm;obtain ⟨al,c1,c2⟩:=zsy d4 a1 a2
        -- the box's place
        have e1:=g4 k o _ (by rw [yam,c1];rfl) a4;rw [b1] at e1;injection e1 with e1
        injection e1 with e1
        injection e1 with e1
        subst e1;rw [b2] at a5;injection a5 with a5
        injection a5 with a5 a7 a8
        have:c8=us'':=by simpa using a5
        subst this;have a6:c8[j]?=some (V i j):=a6;rw [hu] at a6;injection a6 with a6
        -- what it held before
        have k0:(o,i)∈bxG own d 0 (c.args.toList.map (evA σ)++caps):=zkH a1;have j8:objG σ' o=none:=by unfold objG;rw [k1]
        obtain ⟨k',g',d1,d2,d3⟩:=argsG_box f8 k0 j8;rw [yae] at d1;subst d1
        obtain ⟨v0,h8⟩:∃ v0,vs[i]?=some v0:=by
         have l9:=(zkI.1 d2).1;have:=a9.1;exact ⟨_,zkM (by omega)⟩
        have hg':=d0 (o,g') (yai _ d3);obtain ⟨q0,f7,e1,e2,e3,e4,e5,e6,e7⟩:=zjx hs (a9.2 i v0 _ h8 d2) hg' k1
        have hj:j<m:=by
         have h1:=k3 al (by
          have:=zkH c1
          have h2:=zno b6 this
          have h3:=(b0.mem (p:=(o,g')) (yai _ d3)).2.1
          rw [k1] at h3
          rw [h2] at h3
          injection h3 with h3 _
          subst h3
          exact this)
         have a3:j<cs.length:=a3;omega
        have hV:f7[j]?=some (V i j):=by
         show _=some (cellV w (vs.getD i undef) j);rw [ybd,h8];show _=some (cellV w v0 j);rw [e1];unfold cellV;simp only [e3];rw [ybd];have:j<f7.length:=by omega
         rw [zkM this];rfl
        have hk:=(hs.kills bs).1.obs o;rw [zlm,if_neg (c6 o (yag.2 ⟨_,d3,rfl⟩)),k1] at hk;obtain ⟨q1,us1,f1,f2,f3,f4,f5⟩:=hk;rw [e2] at f1;injection f1 with f1
        injection f1 with f1
        injection f1 with f1
        subst f1;rw [e3] at f2;injection f2 with f2
        injection f2 with f2 _ _
        have:f7=us1:=by simpa using f2
        subst this;have fin:=f5 j _ hV;rw [fwr_ce] at fin;rw [a6];exact hA _ _ (g3 _ _ fin)
       ·rw [h0 o j hm];exact hA _ _ (b5 j u hu)
     refine hK _ _ ⟨ρ',?_⟩;show SatR B (app σ' (keepW (bxN bl) (hlY own d (bxG own d 0 (c.args.toList.map (evA σ)++caps)) ys) (fwr bs++(fwr gs++(zdz σ ((zck σ (ze3 tp d) 0 l).2++ss')++bxWr bl)))++[(.tmp d,.av va)])) _ _ _;rw [g8,j3,zay];exact s1.put (d:=some d) k9 (s3 _ _ g2)
    ·exact h.elim
   ·exact h.elim
  ·exact h.elim
 ·exact h.elim
end
end
section
open Go.RowKit Go.ChangeMaps
theorem ba_eq {a b:ByteArray} (h:(a==b)=true):a=b:=by
 have h:ByteArray.beq a b=true:=h;unfold ByteArray.beq at h;cases a;cases b;simp at h;rw [h]
theorem ba_rfl (a:ByteArray):(a==a)=true:=by
 show ByteArray.beq a a=true;unfold ByteArray.beq;simp
section
variable {P:Program} {B:Base} {o:Oper} {σ:St} {K:Fx->Prop}
theorem aNilCheck_ok {x:Operand} (hop:o.op=.nilCheck x) (hd:zdh B.n o=true) (h:zu0 o σ K x):∃ fx,K fx∧Eff P B o fx.rd σ fx.wr:=by
 unfold zu0 at h;split at h
 ·rename_i b g i hx;obtain ⟨hg,h⟩:=h.out;refine ⟨_,h,Eff.pure hd fun σ' hag a w ρ hs=>?_⟩;have h1:=za5 hs x;rw [zaj (zaq hag),hx] at h1;have hg':=(zd7 (za7 hag (.gen b) (by simp))).trans hg;generalize hv:a.eval x=v at h1;have h2:=h1;cases h1 with
  | own _ _ _ _ a2 hgg hh =>
   obtain ⟨q,e1,e2⟩:=hh hg';refine ⟨v,?_,h2⟩;subst e2;simp [execOp,hop,hv]
 ·rename_i cs hx;refine ⟨_,h,Eff.pure hd fun σ' hag a w ρ hs=>?_⟩;have h1:=za5 hs x;rw [zaj hag,hx] at h1;have h2:=h1;have h1:=h1.im_inv;generalize hv:a.eval x=v at h1 h2;refine ⟨v,?_,h2⟩;cases h1 with
  | ref b q us _ _ _ _ _ _=>simp [execOp,hop,hv]
 ·rename_i f cs hx;refine ⟨_,h,Eff.pure hd fun σ' hag a w ρ hs=>?_⟩;have h1:=za5 hs x;rw [zaj hag,hx] at h1;have h2:=h1;have h1:=h1.im_inv;generalize hv:a.eval x=v at h1 h2;refine ⟨v,?_,h2⟩;cases h1 with
  | fn _ us _ _ _=>simp [execOp,hop,hv]
 ·rename_i f cs hx;refine ⟨_,h,Eff.pure hd fun σ' hag a w ρ hs=>?_⟩;have h1:=za5 hs x;rw [zaj hag,hx] at h1;have h2:=h1;generalize hv:a.eval x=v at h1 h2;refine ⟨v,?_,h2⟩;cases h1 with
  | fn _ us _ _ _=>simp [execOp,hop,hv]
 ·exact h.elim
theorem zgq {α:Type} (z:List α):∀ (l j:Nat),(List.replicate l z).flatten[j]?=if j<l*z.length then z[j%z.length]? else none
 | 0,j=>by simp
 | l+1,j=>by
  rw [List.replicate_succ,ybc,yat,zgq z l];by_cases h:j<z.length
  ·rw [if_pos h,if_pos (by rw [Nat.add_mul];omega),Nat.mod_eq_of_lt h]
  ·have e:j%z.length=(j-z.length)%z.length:=Nat.mod_eq_sub_mod (by omega);rw [if_neg h,e];by_cases h2:j-z.length<l*z.length
   ·rw [if_pos h2,if_pos (by rw [Nat.add_mul];omega)]
   ·rw [if_neg h2,if_neg (by rw [Nat.add_mul];omega)]
theorem made_take (z:Array Value) (l c:Nat) (h:l<=c) (hz:0<z.size):(madeCells z (c*z.size)).toList.take (l*z.size)=(List.replicate l z.toList).flatten:=by
 apply ycl;intro j;rw [zgq,yax];have hm:l*z.size<=c*z.size:=ya4 _ h;simp only [yb7];by_cases hj:j<l*z.size
 ·rw [if_pos hj,if_pos hj];have a2:j%z.size<z.size:=ydv _ hz;unfold madeCells;rw [yb8,yam,Array.toList_range,yb5 (by omega)];simp only [yal];rw [getElem!_pos z (j%z.size) a2,yas,ycu a2]
 ·rw [if_neg hj,if_neg hj]
theorem cap_bytes {c by_:Nat} (h:za1 c by_):(by_:Int)*(c:Int)<=281474976710656:=by
 have h1:=h.1;have:((by_*c:Nat):Int)<=281474976710656:=by rw [yds];omega
 rwa [yen] at this
theorem mkZ_rep {w:World} {S:Nat->Prop} (own:List Nat) (d:Nat) (v:Value):RepI w S v (mkZ own d v):=by
 unfold mkZ;split
 ·exact .val v
 ·exact zma (.val v)
theorem aMakeSlice_ok {own:List Nat} {t:TypeId} {len cap:Operand} (hop:o.op=.makeSlice t len cap) (hd:zdh B.n o=true) (h:zrk P own o σ K t len cap):∃ fx,K fx∧Eff P B o fx.rd σ fx.wr:=by
 unfold zrk at h;split at h
 ·rename_i d et a3 d9;have d0:=zee d9;split at h
  ·rename_i l c k z by_ hl hc hk hz d6;obtain ⟨a5,h⟩:=h.ok;simp only [yaq] at a5;have e0:=zey a5.1.1;obtain ⟨i,zv,hi,b9,b5,a9,d2⟩:=zjt a5.1.2 hk d6
   have c7:zv.cells.toList=z:=by
    unfold zeroOf at hz;simp only [hi,b9,yal,zkF] at hz;exact hz
   have e6:∀ u∈z,u.oneCell'=true:=fun u hu=>ya9.1 a5.2 u hu;have a2:z.length=k:=by rw [<- c7];simpa using d2
   obtain ⟨⟨h0,d5,b0⟩,h⟩:=h.out;have d4:(c.toNat:Int)=c:=ydc (by omega);have b3:l.toNat<=c.toNat:=by omega
   have d7:c.toNat<=17592186044416:=b0.2
   have zfe:∀ σ' a w ρ,SatR B σ' a w ρ->(∀ y∈opd len++opd cap,σ' y=σ y)->(execOp a.eval o).run P w=.ok (.value (.slice (some ⟨w.heap.size,0,none⟩) l.toNat c.toNat)) (w.alloc (.cells (madeCells zv.cells (c.toNat*k)) et)):=fun σ' a w ρ hs hag=>by
    have h1:=za5 hs len;rw [zaj (zaq hag)] at h1;have h2:=za5 hs cap;rw [zaj (za7 hag)] at h2;have hb:=cap_bytes b0;rw [<- a9,d4] at hb;have hr:=run_make (P:=P) w t et i zv d0 hi b9 .i64 .i64 l c h0 d5 hb (by omega);rw [b5] at hr;simp [execOp,hop,zc1 hl h1,zc1 hc h2,hr]
   have a6:∀ w:World,(w.alloc (.cells (madeCells zv.cells (c.toNat*k)) et)).ownsRow 0 et k (.slice (some ⟨w.heap.size,0,none⟩) l.toNat c.toNat) l.toNat (List.replicate l.toNat z).flatten:=fun w=>by
    refine ⟨?_,.inr ⟨w.heap.size,c.toNat,_,rfl,yak _,heap_alloc_new w _,b3,by unfold maxLen;omega,size_madeCells _ _,?_⟩⟩
    ·rw [zbz (k:=k) (fun x hx=>by rw [ybo hx];exact a2),ybj]
    ·rw [<- c7,<- d2];exact made_take zv.cells _ _ b3 (by omega)
   have a7:∀ u∈(List.replicate l.toNat z).flatten,u.oneCell'=true:=fun u hu=>by
    obtain ⟨x,hx,c0⟩:=ydm.1 hu;rw [ybo hx] at c0;exact e6 u c0
   have m:∀ (σ':St) (w:World) (ρ:Ly),zsd σ' w (w.alloc (.cells (madeCells zv.cells (c.toNat*k)) et)) ρ none (.slice (some ⟨w.heap.size,0,none⟩) l.toNat c.toNat) none:=fun σ' w ρ =>
    ⟨World.grownBy_alloc w _ none,(fun b e=>by cases e),fun b e=>.inr (by simp only [zbw,zkF] at e;omega)⟩
   split at h
   ·split at h
    ·rename_i e' e8;split at h
     ·rename_i k' e9;obtain ⟨a4,h⟩:=h.ok;simp only [yaq] at a4;have c9:k=1:=by simpa using a4.1.1
      have c6:=zey a4.2
      have b6:z=[.slice none 0 0]:=by
       have:=a4.1.2;split at this
       ·rfl
       ·cases this
      have h:=h.out;refine ⟨_,h,fun σ' hag a w ⟨ρ,hs⟩ K' Q hK=>?_⟩;unfold Oper.wp;rw [zfe σ' a w ρ hs (zaq hag),Oper.upon_value,a3];have hg:σ'.gn d=σ.gn d:=zd7 (za7 hag (.gen d) (by simp));have c8:σ'.ig d=σ.ig d:=zio (za7 hag (.ign d) (by simp));obtain ⟨e1,e2,e3,e4,e5⟩:=mkK_eqs σ' σ d (.grid et e' k' (List.replicate l.toNat [IV.sl []]) none)
      let v:Value:=.slice (some ⟨w.heap.size,0,none⟩) l.toNat c.toNat
      let σ2:=app σ' (zhc σ d (.grid et e' k' (List.replicate l.toNat [IV.sl []]) none))
      let ρ2:Ly:=setK ρ σ2 d v (List.replicate l.toNat (.slice none 0 0)) (.grid et e' k' (List.replicate l.toNat [IV.sl []]) none)
      have b8:fpv v (List.replicate l.toNat (.slice none 0 0))=[w.heap.size]:=by
       unfold fpv;simp only [ybr,v,zbw];congr 1;exact List.filterMap_eq_nil_iff.2 fun x hx=>by rw [ybo hx];rfl
      have d1:∀ b,Owns σ2 ρ2 d b->b=w.heap.size:=fun b hb=>by
       unfold Owns at hb;rw [e1,if_pos rfl] at hb;simp only [ρ2,setK,if_pos] at hb;have hb:b∈fpv v (List.replicate l.toNat (.slice none 0 0)):=hb;rw [b8] at hb;simpa using hb
      have a8:=World.grownBy_alloc w (.cells (madeCells zv.cells (c.toNat*k)) et) none
      obtain ⟨b2,_,_⟩:=hs.step (σ':=σ2) (ρ':=ρ2) (w':=w.alloc (.cells (madeCells zv.cells (c.toNat*k)) et)) (fun o=>o=d) e4
       (fun o hd=>⟨by show σ2.kd o=_;rw [e1,if_neg hd],by show σ2.gn o=_;rw [e2,if_neg hd],fun i=>e5 o i,by simp [ρ2,setK,hd],by simp [ρ2,setK,hd],by show σ2.ig o=_;rw [e3,if_neg (fun e=>hd e.1)];exact (hs.igs o).symm⟩)
       (fun o hd=>by
        subst hd
        refine ⟨⟨by rw [e2,if_pos rfl,hg];omega,fun e=>by rw [e2,if_pos rfl,hg] at e;omega⟩,?_,fun e=>?_⟩
        ·show _<=σ2.ig o
         rw [e3,hs.igs,c8,if_pos ⟨rfl,rfl⟩];omega
        ·have e:σ2.ig o=ρ.ig o:=e
         rw [e3,hs.igs,c8,if_pos ⟨rfl,rfl⟩] at e;omega)
       (fun o=>rfl) ⟨a8.os,a8.tape,a8.output,a8.size,fun b hb _=>a8.block b hb (by simp)⟩ (fun o b hd ho=>by subst hd;rw [d1 b ho];exact .inl (yao _)) (fun o p b hd hp _ _=>hd.trans hp.symm) fun hI hA o hd=>by
        subst hd;rw [e1,if_pos rfl];show zkr _ _ (ρ2 o) (ρ2.inn o) _ _ _ _ _;simp only [ρ2,setK,if_pos];refine ⟨by show (fpv v (List.replicate l.toNat (.slice none 0 0))).Nodup;rw [b8];simp,by simp [innK],(List.replicate l.toNat z).flatten,by simp;omega,?_,a7,fun i u hu=>.inr ⟨?_,[],?_,?_⟩⟩
        ·have:=a6 w;rw [c9] at this;rw [ybj];rw [c9];exact this
        ·have hu:(List.replicate l.toNat (.slice none 0 0))[i]?=some u:=hu;rw [zgq,b6];rw [ycg] at hu;split at hu
         ·rename_i b4;injection hu with hu
          subst hu;simp [b4,Nat.mod_one]
         ·cases hu
        ·have hu:(List.replicate l.toNat (Value.slice none 0 0))[i]?=some u:=hu;rw [ycg] at hu ⊢;split at hu
         ·rename_i b4;rw [if_pos b4]
         ·cases hu
        ·have hu:(List.replicate l.toNat (Value.slice none 0 0))[i]?=some u:=hu;rw [ycg] at hu;split at hu
         ·injection hu with hu
          subst hu;exact ⟨[],c6,by simp,by simp,World.ownsRow_nil _ _ _ _,rfl,by simp,by simp⟩
         ·cases hu
      refine hK _ _ ⟨ρ2,?_⟩;rw [zay];refine b2.put (d:=some d) (fun t e=>by injection e with e;subst e;exact zdi hd a3) (.osl _ _ _ rfl ?_ fun _=>?_)
      ·show _<=σ2.gn d;rw [e2,if_pos rfl];exact yao _
      ·simp [ρ2,setK,v]
     ·exact h.elim
    ·exact h.elim
   ·split at h
    ·have h:=h.out;refine ⟨_,h,fun σ' hag a w ⟨ρ,hs⟩ K' Q hK=>?_⟩;unfold Oper.wp;rw [zfe σ' a w ρ hs hag,Oper.upon_value,a3];have d3:Below w.heap.size w (w.alloc (.cells (madeCells zv.cells (c.toNat*k)) et)):=(Below.refl _ _).alloc (yao _) _;obtain ⟨d8,hI⟩:=hs.world d3;refine hK _ _ ⟨ρ,?_⟩;show SatR B (app σ' [(.tmp d,.av (.im (.sl (List.replicate l.toNat (z.map fun v=>nz1 (.val v))))))]) _ _ _;refine d8.put (d:=some d) (fun t e=>by injection e with e;subst e;exact zdi hd a3) (.im _ _ ?_);refine .sl w.heap.size 0 c.toNat k l.toNat _ (List.replicate l.toNat z).flatten (by rw [ybj]) (fun x hx=>by rw [ybo hx,zkK,a2]) b3 (by omega) ⟨.inr (.inl hs.bel.size),by simp,fun p e7=>?_,fun hz=>?_⟩ ?_ a7 (fun i u hu=>?_) fun i u x hu hx=>?_
     ·have:=(hs.own p _ e7).2;omega
     ·have:=(hs.res _ hz).1.2;omega
     ·rw [zbz (k:=k) (fun x hx=>by rw [ybo hx];exact a2),zbz (k:=k) (fun x hx=>by rw [ybo hx,zkK,a2])];simp
     ·have:=(a6 w).cells (g:=w.heap.size) rfl i u hu;rw [addr_add,yae] at this;rw [yae];exact this
     ·rw [zgq] at hu hx;rw [zkK] at hx;split at hu
      ·rename_i b7;rw [if_pos b7,yam,hu] at hx;injection hx with hx
       subst hx;exact zma (.val u)
      ·cases hu
    ·have h:=h.out;refine ⟨_,h,fun σ' hag a w ⟨ρ,hs⟩ K' Q hK=>?_⟩;unfold Oper.wp;rw [zfe σ' a w ρ hs (zaq hag),Oper.upon_value,a3];refine hK _ _ ⟨setρ ρ d (.slice (some ⟨w.heap.size,0,none⟩) l.toNat c.toNat),?_⟩;have hg:σ'.gn d=σ.gn d:=zd7 (za7 hag (.gen d) (by simp))
     have b2:=hs.new (d:=d) (k:=.row et k (List.replicate l.toNat (z.map fun v=>mkZ own d v))) (cs:=[]) (m σ' w ρ) rfl fun hI _=>by
      refine ⟨(List.replicate l.toNat z).flatten,e0,fun x hx=>by rw [ybo hx,zkK,a2],by rw [ybj];omega,?_,?_,a7,fun i u x hu hx=>?_⟩
      ·simp only [setρ,if_pos,ybj];exact a6 w
      ·rw [zbz (k:=k) (fun x hx=>by rw [ybo hx];exact a2),zbz (k:=k) (fun x hx=>by rw [ybo hx,zkK,a2])];simp
      ·rw [zgq] at hu hx;rw [zkK] at hx;split at hu
       ·rename_i b7;rw [if_pos b7,yam,hu] at hx;injection hx with hx
        subst hx;exact mkZ_rep own d u
       ·cases hu
     have:=zm6 (σ:=σ) (σ':=σ') (k:=.row et k (List.replicate l.toNat (z.map fun v=>mkZ own d v))) (cs:=[]) (v:=.osl d (σ.gn d+1)) hg;simp only [zgw,ybk] at this;show SatR B (app σ' (zew σ d (.row et k (List.replicate l.toNat (z.map fun v=>mkZ own d v)))++[(.tmp d,.av (.osl d (σ.gn d+1)))])) _ _ _;rw [this,<- hg];exact zl5 b2 rfl (zdi hd a3)
  ·exact h.elim
 ·exact h.elim
theorem aMakeMap_ok {t:TypeId} {r:Option Operand} (hop:o.op=.makeMap t r) (hd:zdh B.n o=true) (h:aMakeMap o σ K t r):∃ fx,K fx∧Eff P B o fx.rd σ fx.wr:=by
 unfold aMakeMap at h;split at h
 ·rename_i d a2;refine ⟨_,h,fun σ' hag a w ⟨ρ,hs⟩ K' Q hK=>?_⟩;have hg:σ'.gn d=σ.gn d:=zd7 (hag (.gen d) (by simp))
  have run:(execOp a.eval o).run P w=.ok (.value (.map (some w.heap.size))) (w.alloc (.map #[] 0)):=by
   simp [execOp,hop,Instr.makeMap]
  unfold Oper.wp;rw [run,Oper.upon_value,a2]
  have m:zsd σ' w (w.alloc (.map #[] 0)) ρ none (.map (some w.heap.size)) none :=
   ⟨World.grownBy_alloc w _ none,(fun b e=>by cases e),fun b e=>.inr (by simp only [zbw,zkF] at e;omega)⟩
  refine hK _ _ ⟨setρ ρ d (.map (some w.heap.size)),?_⟩;have a3:=hs.new (d:=d) (k:=.map []) (cs:=[]) m rfl fun hI _=>⟨w.heap.size,0,#[],by simp [setρ],heap_alloc_new w _,rfl,zrt.nil 0⟩;have:=zm6 (σ:=σ) (σ':=σ') (k:=.map []) (cs:=[]) (v:=.osl d (σ.gn d+1)) hg;simp only [zgw,ybk] at this;rw [this,<- hg];exact zl5 a3 rfl (zdi hd a2)
 ·exact h.elim
theorem zni {w:World} {S:Nat->Prop} {ρ:Ly} {γ:Nat->Nat} {v:Value} {x:AV} {u:Value} (e:asVal x=some u) (h:RepA w S ρ γ v x):v=u:=by
 unfold asVal at e;split at e
 ·injection e with e
  subst e;have h:=h.im_inv;cases h;rfl
 ·cases e
theorem zln {t k e:TypeId} (h:zud P t=some (k,e)):P.underlying t=some (.map k e):=by
 unfold zud at h;split at h
 ·rename_i k' e' hu;simp only [zkF,zkG] at h;rw [hu,h.1,h.2]
 ·cases h
theorem zuw {kt:TypeId} {D:TypeDesc} (h:keyD P kt=some D):P.underlying kt=some D∧((∃ k,D=.int k)∨D=.string∨D=.bool):=by
 unfold keyD at h;split at h
 ·rename_i k hu;injection h with h;subst h;exact ⟨hu,.inl ⟨k,rfl⟩⟩
 ·rename_i hu;injection h with h;subst h;exact ⟨hu,.inr (.inl rfl)⟩
 ·rename_i hu;injection h with h;subst h;exact ⟨hu,.inr (.inr rfl)⟩
 ·cases h
theorem znp {kt:TypeId} {D:TypeDesc} (h:keyD P kt=some D) (em:Bool) (v:Value) (w:World):(Instr.checkKey em 10000 kt v).run P w=.ok () w:=by
 obtain ⟨hu,hD⟩:=zuw h;unfold Instr.checkKey;rw [Sem.run_bind,run_underlying hu];simp only [Result.andThen_ok];rcases hD with ⟨k,rfl⟩ | rfl | rfl<;>rfl
theorem zwj (D:TypeDesc) (k:Value):∀ (es:List MapEntry) (i:Nat),(Instr.findNow D k es i).map (·.map (·.2))=findV D k (es.map fun e=>(e.key,e.val))
 | [],i=>rfl
 | e::es,i=>by
  unfold Instr.findNow;rw [yar];unfold findV;simp only;cases Instr.sameNow D k e.key with
  | none=>rfl
  | some b=>cases b with
   | true=>rfl
   | false=>exact zwj D k es (i+1)
theorem zqj {kt:TypeId} {D:TypeDesc} (h:keyD P kt=some D) {k:Value} {es:List MapEntry} {r:Option (Nat×Value)} (hf:Instr.findNow D k es 0=some r) (w:World):(Instr.findKey kt k es).run P w=.ok r w:=by
 unfold Instr.findKey;rw [Sem.run_bind,run_underlying (zuw h).1];simp only [Result.andThen_ok,hf,Sem.run_pure]
theorem aLookup_ok {t:TypeId} {x i:Operand} {ok:Bool} (hop:o.op=.lookup t x i ok) (hd:zdh B.n o=true) (h:aLookup P o σ K t x i ok):∃ fx,K fx∧Eff P B o fx.rd σ fx.wr:=by
 unfold aLookup at h;split at h
 ·rename_i kt et b g kv b5 hx hi;have a6:=zln b5;split at h
  ·rename_i l D z b3 a5 hz;obtain ⟨hg,r,hr,h⟩:=h.out;have h:=h.out
   have a4:∀ σ',(∀ y∈opd x++opd i++[.gen b,.knd b],σ' y=σ y)->∀ a w,Sat B σ' a w->(execOp a.eval o).run P w=.ok (.value (if ok=true then .tuple #[r.getD z,.bool r.isSome] else r.getD z)) w:=fun σ' hag a w ⟨ρ,hs⟩=>by
    obtain ⟨ha,hg',a7,_⟩:=zdv hag;have h1:=za5 hs x;have h2:=za5 hs i;rw [zaj (zaq ha),hx] at h1;rw [zaj (za7 ha)] at h2;have b2:=zni hi h2;have ho:=hs.obs b;rw [a7.trans b3] at ho;obtain ⟨q,b6,es,e1,e2,e3,b8⟩:=ho
    have a9:a.eval x=.map (some q):=by
     generalize a.eval x=v at h1;cases h1 with
     | osl _ _ _ _ _ hh=>rw [hh (hg'.trans hg),e1]
    have a2:=zwj D kv es.toList 0;rw [e3,hr] at a2
    obtain ⟨r0,a8,a3⟩:∃ r0,Instr.findNow D kv es.toList 0=some r0∧r0.map (·.2)=r:=by
     cases hc:Instr.findNow D kv es.toList 0 with
     | none=>rw [hc] at a2;cases a2
     | some r0=>rw [hc] at a2;simp only [yal,zkF] at a2;exact ⟨r0,rfl,a2⟩
    have b4:∀ w,(zeroValue et).run P w=.ok z w:=fun w=>by
     unfold zeroV at hz;split at hz
     ·rename_i it b7;simp [zeroValue,typeInfo,b7,hz]
     ·cases hz
    have b0:=MapKept.run_getObj_map (P:=P) e2;simp only [execOp,hop,a9,b2,Instr.lookup,Sem.run_bind,run_underlying a6,Result.andThen_ok,b0,Sem.run_pure,znp a5,zqj a5 a8];cases r0 with
    | none =>
     simp only [yc3] at a3;subst a3;cases ok<;>simp [b4]
    | some p =>
     simp only [yal] at a3;subst a3;cases ok<;>simp
   split at h
   ·have h:=h.out;refine ⟨_,h,Eff.pure hd fun σ' hag a w ρ hs=>⟨_,a4 σ' hag a w ⟨ρ,hs⟩,?_⟩⟩;simp only [if_true]
    exact .tup [r.getD z,.bool r.isSome] _ rfl fun j u y hu hy=>by
     match j with
     | 0=>simp at hu hy;rw [<- hu,<- hy];exact zdp _
     | 1=>simp at hu hy;rw [<- hu,<- hy];exact vB_rep _
     | j+2=>simp at hu
   ·refine ⟨_,h,Eff.pure hd fun σ' hag a w ρ hs=>⟨_,a4 σ' hag a w ⟨ρ,hs⟩,?_⟩⟩;simp only [ydt,if_false];exact zdp _
  ·exact h.elim
 ·exact h.elim
theorem setV_eq (D:TypeDesc) (hD:(∃ k,D=.int k)∨D=.string∨D=.bool) (k v:Value):∀ (es:List MapEntry) (i:Nat) (l:List (Value×Value)),setV D k v (es.map fun e=>(e.key,e.val))=some l ->
  (Instr.findNow D k es i=some none∧l=(es.map fun e=>(e.key,e.val))++[(k,v)])∨∃ j e,Instr.findNow D k es i=some (some (i+j,e.val))∧es[j]?=some e∧Instr.sameBits 10000 e.key k=true∧l=(es.set j { e with key:=k,val:=v }).map fun e=>(e.key,e.val)
 | [],i,l,h=>by
  simp only [yc1,setV,zkF] at h;exact .inl ⟨rfl,by rw [<- h];rfl⟩
 | e::es,i,l,h=>by
  rw [yar] at h;unfold setV at h;unfold Instr.findNow;simp only at h;cases hs:Instr.sameNow D k e.key with
  | none=>rw [hs] at h;cases h
  | some b =>
   rw [hs] at h;cases b with
   | true =>
    simp only [zkF] at h;refine .inr ⟨0,e,rfl,rfl,?_,by rw [<- h];rfl⟩;unfold Instr.sameNow at hs;split at hs
    ·rename_i k1 a k2 b hk;split at hs
     ·rename_i he;simp only [zkF] at hs;rw [hk];have hab:a=b:=by simpa using hs
      subst he hab;simp [Instr.sameBits]
     ·cases hs
    ·rename_i a b hk;simp only [zkF] at hs;rw [hk,ba_eq hs];exact ba_rfl _
    ·rename_i a b hk;simp only [zkF] at hs;have hab:a=b:=by simpa using hs
     rw [hk,hab];simp [Instr.sameBits]
    ·cases hs
   | false =>
    cases hr:setV D k v (es.map fun e=>(e.key,e.val)) with
    | none=>simp only [hr] at h;cases h
    | some l' =>
     simp only [hr,yal,zkF] at h;rcases setV_eq D hD k v es (i+1) l' hr with ⟨h1,h2⟩ | ⟨j,e',h1,h2,h3,h4⟩
     ·exact .inl ⟨h1,by rw [<- h,h2];rfl⟩
     ·exact .inr ⟨j+1,e',by rw [h1,ybf,yca 1 j],by simpa using h2,h3,by rw [<- h,h4];rfl⟩
theorem aMapUpdate_ok {t:TypeId} {x i y:Operand} (hop:o.op=.mapUpdate t x i y) (hd:zdh B.n o=true) (h:zrg P o σ K t x i y):∃ fx,K fx∧Eff P B o fx.rd σ fx.wr:=by
 unfold zrg at h;split at h
 ·rename_i kt et b g kv v c6 hx hi hy;have a6:=zln c6;split at h
  ·rename_i l D a9 a5;obtain ⟨hg,l',b6,h⟩:=h.out;refine ⟨_,h,fun σ' hag a w ⟨ρ,hs⟩ K' Q hK=>?_⟩;obtain ⟨ha,hg',a7,_⟩:=zdv hag;have h1:=za5 hs x;have h2:=za5 hs i;have h3:=za5 hs y;rw [zaj (zaq (zaq ha)),hx] at h1;rw [zaj (za7 (zaq ha))] at h2;rw [zaj (za7 ha)] at h3;have b4:=zni hi h2;have hv:=zni hy h3;have ho:=hs.obs b;rw [a7.trans a9] at ho;obtain ⟨q,a3,es,e1,e2,e3,b7⟩:=ho
   have b2:a.eval x=.map (some q):=by
    generalize a.eval x=u at h1;cases h1 with
    | osl _ _ _ _ _ hh=>rw [hh (hg'.trans hg),e1]
   rw [<- e3] at b6;have b3:=MapKept.run_getObj_map (P:=P) e2;have a8:live σ' b:=by unfold live;rw [a7.trans a9];exact fun z=>by cases z
   have c7:zbw (ρ b)=some q:=by rw [e1];rfl
   have fin:∀ (a4:Array MapEntry) (a2:Nat),(a4.toList.map fun e=>(e.key,e.val))=l'->zrt a4 a2->(execOp a.eval o).run P w=.ok .skip (setBlock w q (.map a4 a2))->o.wp P a w K' Q:=fun a4 a2 b9 b0 b8=>by
    unfold Oper.wp;rw [b8,Oper.upon_skip];refine hK _ _ ⟨ρ,?_⟩
    have c0:=hs.turn (b:=b) (q:=q) (w':=setBlock w q (.map a4 a2)) (k':=.map l') a8 c7 ⟨rfl,rfl,rfl,by simp [setBlock],fun i _ hi=>heap_setBlock_other e2 _ (fun e=>hi (by rw [e]))⟩ (fun c hc=>by unfold Owns;rw [a7.trans a9];exact hc) fun hI =>
     ⟨q,a2,a4,e1,heap_setBlock_same e2 _,b9,b0⟩
    rw [zca];exact c0.put (zkw hd) (zdp _)
   rcases setV_eq D (zuw a5).2 kv v es.toList 0 l' b6 with ⟨f1,f2⟩ | ⟨j,e,f1,f2,f3,f4⟩
   ·refine fin (es.push { key:=kv,val:=v,born:=a3 }) (a3+1) (by rw [f2];simp) (b7.push _ _) ?_;simp only [execOp,hop,b2,b4,hv,Instr.mapUpdate,Sem.run_bind,run_underlying a6,Result.andThen_ok,b3,Sem.run_pure,znp a5,zqj a5 f1,MapKept.run_setObj_map _ e2];rfl
   ·have hj:es[j]?=some e:=by rw [<- yas];exact f2
    have b5:j<es.size:=(ybu.1 hj).1;refine fin (es.modify j fun e=>{ e with key:=kv,val:=v }) a3 ?_ (b7.modify _ _ fun _=>rfl) ?_
    ·rw [f4];congr 1;apply ycl;intro n;rw [yas,yc2,yc6];by_cases hn:j=n
     ·subst hn;rw [if_pos rfl,if_pos rfl,if_pos (by simpa using b5),hj];rfl
     ·rw [if_neg hn,if_neg hn,yas]
    ·rw [yae] at f1;simp only [execOp,hop,b2,b4,hv,Instr.mapUpdate,Sem.run_bind,run_underlying a6,Result.andThen_ok,b3,Sem.run_pure,znp a5,zqj a5 f1,MapKept.run_setObj_map _ e2,hj,Instr.keyThatStays,yal,ybe,f3,if_true];rfl
  ·exact h.elim
 ·exact h.elim
theorem delV_eq (D:TypeDesc) (k:Value):∀ (es:List MapEntry) (i:Nat) (l:List (Value×Value)),delV D k (es.map fun e=>(e.key,e.val))=some l ->
  (Instr.findNow D k es i=some none∧l=es.map fun e=>(e.key,e.val))∨∃ j v,Instr.findNow D k es i=some (some (i+j,v))∧j<es.length∧l=(es.eraseIdx j).map fun e=>(e.key,e.val)
 | [],i,l,h=>by
  simp only [yc1,delV,zkF] at h;exact .inl ⟨rfl,by rw [<- h];rfl⟩
 | e::es,i,l,h=>by
  rw [yar] at h;unfold delV at h;unfold Instr.findNow;simp only at h;cases hs:Instr.sameNow D k e.key with
  | none=>rw [hs] at h;cases h
  | some b =>
   rw [hs] at h;cases b with
   | true =>
    simp only [zkF] at h;exact .inr ⟨0,_,rfl,by simp,by rw [<- h];rfl⟩
   | false =>
    cases hr:delV D k (es.map fun e=>(e.key,e.val)) with
    | none=>simp only [hr] at h;cases h
    | some l' =>
     simp only [hr,yal,zkF] at h;rcases delV_eq D k es (i+1) l' hr with ⟨h1,h2⟩ | ⟨j,v,h1,h2,h3⟩
     ·exact .inl ⟨h1,by rw [<- h,h2];rfl⟩
     ·exact .inr ⟨j+1,v,by rw [h1,ybf,yca 1 j],by simpa using h2,by rw [<- h,h3];rfl⟩
theorem aDelete_ok {c:Call} {t t':TypeId} {x i:Operand} (hop:o.op=.call c) (hc:c.callee=.builtin .delete) (ha:c.args.toList=[x,i]) (ht:c.argTypes.toList=[t,t']) (hd:zdh B.n o=true) (h:aDelete P o σ K t x i):∃ fx,K fx∧Eff P B o fx.rd σ fx.wr:=by
 have a4:c.args=#[x,i]:=by rw [<- ybz (xs:=c.args),ha]
 have b4:c.argTypes=#[t,t']:=by rw [<- ybz (xs:=c.argTypes),ht]
 unfold aDelete at h;split at h
 ·rename_i kt et b g kv c7 hx hi;have a7:=zln c7;split at h
  ·rename_i l D b0 a6;obtain ⟨hg,l',b8,h⟩:=h.out;refine ⟨_,h,fun σ' hag a w ⟨ρ,hs⟩ K' Q hK=>?_⟩;obtain ⟨ha,hg',a8,_⟩:=zdv hag;have h1:=za5 hs x;have h2:=za5 hs i;rw [zaj (zaq ha),hx] at h1;rw [zaj (za7 ha)] at h2;have b7:=zni hi h2;have ho:=hs.obs b;rw [a8.trans b0] at ho;obtain ⟨q,a2,es,e1,e2,e3,b2⟩:=ho
   have b5:a.eval x=.map (some q):=by
    generalize a.eval x=u at h1;cases h1 with
    | osl _ _ _ _ _ hh=>rw [hh (hg'.trans hg),e1]
   rw [<- e3] at b8;have b6:=MapKept.run_getObj_map (P:=P) e2;have a9:live σ' b:=by unfold live;rw [a8.trans b0];exact fun z=>by cases z
   have c8:zbw (ρ b)=some q:=by rw [e1];rfl
   have fin:∀ (a3:Array MapEntry),(a3.toList.map fun e=>(e.key,e.val))=l'->zrt a3 a2->(execOp a.eval o).run P w=.ok (.value (.tuple #[])) (setBlock w q (.map a3 a2))->o.wp P a w K' Q:=fun a3 c0 b3 b9=>by
    unfold Oper.wp;rw [b9,Oper.upon_value];refine hK _ _ ⟨ρ,?_⟩
    have c6:=hs.turn (b:=b) (q:=q) (w':=setBlock w q (.map a3 a2)) (k':=.map l') a9 c8 ⟨rfl,rfl,rfl,by simp [setBlock],fun i _ hi=>heap_setBlock_other e2 _ (fun e=>hi (by rw [e]))⟩ (fun c hc=>by unfold Owns;rw [a8.trans b0];exact hc) fun hI =>
     ⟨q,a2,a3,e1,heap_setBlock_same e2 _,c0,b3⟩
    rw [zca];exact c6.put (zkw hd) (.im _ _ (.any _))
   rcases delV_eq D kv es.toList 0 l' b8 with ⟨f1,f2⟩ | ⟨j,v,f1,f2,f3⟩
   ·refine fin es f2.symm b2 ?_;simp only [execOp,hop,resolve,hc,a4,b4,invoke,builtin,ydn,yar,yc1,Builtin.delete_,b5,b7,Sem.run_bind,Sem.run_pure,run_underlying a7,Result.andThen_ok,b6,znp a6,zqj a6 f1,MapKept.run_setObj_map _ e2,yd3,ydd,ydw];rfl
   ·have hj:j<es.size:=by simpa using f2
    have a5:(es.eraseIdxIfInBounds j).toList=es.toList.eraseIdx j:=by
     unfold Array.eraseIdxIfInBounds;rw [dif_pos hj];simp
    refine fin (es.eraseIdxIfInBounds j) (by rw [a5,f3]) ⟨fun y hy=>b2.1 y (by rw [a5] at hy;exact (List.eraseIdx_sublist _ _).subset hy),by rw [a5];exact b2.2.sublist ((List.eraseIdx_sublist _ _).map _)⟩ ?_;rw [yae] at f1;simp only [execOp,hop,resolve,hc,a4,b4,invoke,builtin,ydn,yar,yc1,Builtin.delete_,b5,b7,Sem.run_bind,Sem.run_pure,run_underlying a7,Result.andThen_ok,b6,znp a6,zqj a6 f1,MapKept.run_setObj_map _ e2,yd3,ydd,ydw];rfl
  ·exact h.elim
 ·exact h.elim
end
end
section
section
variable {P:Program} {B:Base} {o:Oper} {σ:St} {K:Fx->Prop}
theorem zng {a:Act} {w:World} {ρ:Ly} (hs:SatR B σ a w ρ) {y:Operand} {n:Int} {k:IntKind} (hy:Sym.asInt (evA σ y)=some (k,n)) {m:Nat} {c:BoundsCode} (h0:0<=n) (hm:n<=m):(Instr.sliceBound (a.eval y) m c).run P w=.ok n.toNat w:=by
 have h3:0<=n∧n<=m:=⟨h0,hm⟩;simp only [zc1 hy (za5 hs y),Instr.sliceBound,asIntOf,Sem.run_bind,Sem.run_pure,Result.andThen_ok,if_pos h3]
theorem zpw {a:Act} {w:World} {ρ:Ly} (hs:SatR B σ a w ρ) {b k:Nat} {t:TypeId} {es:List (List IV)} (hk:σ.kd b=.row t k es) (hn:0<es.length) :
  ∃ (q cap:Nat) (cur:Array Value) (us:List Value),ρ b=.slice (some ⟨q,0,none⟩) es.length cap∧w.heap[q]?=some (.cells cur t (0,0))∧es.length<=cap∧cap<=maxLen∧cur.size=cap*k∧cur.toList.take (es.length*k)=us∧0<k∧(∀ x∈es,x.length=k)∧es.length<=17592186044416∧us.length=es.flatten.length ∧
   (∀ u∈us,u.oneCell'=true)∧∀ (i:Nat) u x,us[i]?=some u->es.flatten[i]?=some x->RepI w (Imm B σ ρ w) u x:=by
 have ho:=hs.obs b;rw [hk] at ho;obtain ⟨us,h1,h2,h3,h4,h5,h6,h7⟩:=ho;rcases h4.2 with ⟨_,h0⟩ | ⟨q,cap,cur,e1,_,e3,e4,e5,e6,e7⟩
 ·omega
 ·exact ⟨q,cap,cur,us,e1,e3,e4,e5,e6,e7,h1,h2,h3,h5,h6,h7⟩
theorem aSliceV_ok {t:TypeId} {x lo:Operand} {b g:Nat} (hop:o.op=.slice t x (some lo) none none) (hx:evA σ x=.osl b g) (hd:zdh B.n o=true) (h:aSliceV P o σ K t x b g lo):∃ fx,K fx∧Eff P B o fx.rd σ fx.wr:=by
 unfold aSliceV at h;split at h
 ·rename_i et kk l b3 k es a7 b0 b2;have hu:=zee a7;split at h
  ·rename_i k' a9;obtain ⟨a4,h'⟩:=h.ok;clear h;have a4:=yaf a4;subst a4;obtain ⟨⟨hg,h0,hl,hn⟩,h⟩:=h'.out;refine ⟨_,h,Eff.pure hd fun σ' hag a w ρ hs=>?_⟩;obtain ⟨a5,hg',a8,_⟩:=zdv hag;have h1:=za5 hs x;rw [zaj (zaq a5),hx] at h1;have a6:Sym.asInt (evA σ' lo)=some (kk,l):=by rw [zaj (za7 a5)];exact b0
   obtain ⟨q,a3,cur,us,e1,e2,e3,_⟩:=zpw hs (a8.trans b2) hn;have hb:=fun c=>zng (P:=P) (w:=w) hs a6 (m:=es.length) (c:=c) h0 (by omega);have hz:=zh1 a9 w;generalize hv:a.eval x=v at h1;cases h1 with
   | osl _ _ _ a2 hgg hh =>
    rw [hh (hg'.trans hg),e1] at hv;refine ⟨.slice (if a3=l.toNat then some ⟨q,0,none⟩ else some ⟨q,l.toNat*k,none⟩) (es.length-l.toNat) (a3-l.toNat),?_,.osv _ b g l.toNat k (by rfl) hgg fun _=>⟨q,_,a3,e1,hl,rfl⟩⟩;simp only [execOp,hop,hv,Instr.sliceAt,Instr.slice,Sem.run_bind,Sem.run_pure,Result.andThen_ok,run_underlying hu,yc3,yal,hz];unfold Instr.sliceBounds;simp [hb,addr_add,hz]
  ·exact h.elim
 ·exact h.elim
theorem aSlice3_ok {t:TypeId} {x:Operand} {lo hi:Option Operand} {mx:Operand} (hop:o.op=.slice t x lo hi (some mx)) (hd:zdh B.n o=true) (h:aSlice3 P o σ K t x lo hi mx):∃ fx,K fx∧Eff P B o fx.rd σ fx.wr:=by
 unfold aSlice3 at h;split at h
 ·rename_i hi et a9;have hu:=zee a9;split at h
  ·rename_i k es k1 h9 k2 hh hk hx b4 b0;obtain ⟨⟨h0,a7,rfl,a4⟩,h⟩:=h.out;have h:=h.out;refine ⟨_,h,Eff.pure hd fun σ' hag a w ρ hs=>?_⟩;have h1:=za5 hs x;rw [zaj (zaq (zaq hag))] at h1;have a8:Sym.asInt (evA σ' hi)=some (k1,hh):=by rw [zaj (za7 (zaq hag))];exact b4
   have a6:Sym.asInt (evA σ' mx)=some (k2,hh):=by rw [zaj (za7 hag)];exact b0
   have hz:=zh1 hk w
   have run:∀ A n cp,a.eval x=.slice A n cp->n=es.length->n<=cp->(execOp a.eval o).run P w=.ok (.value (.slice (if hh.toNat=0 then A else A.map (·.add (0*k))) (hh.toNat-0) (hh.toNat-0))) w:=fun A n cp hv hn b5=>by
    have b1:=fun c=>zng (P:=P) (w:=w) hs a6 (m:=cp) (c:=c) h0 (by omega);have b2:=fun c=>zng (P:=P) (w:=w) hs a8 (m:=hh.toNat) (c:=c) h0 (by omega);simp only [execOp,hop,hv,Instr.sliceAt,Instr.slice,Sem.run_bind,Sem.run_pure,Result.andThen_ok,run_underlying hu,yc3,yal,hz];unfold Instr.sliceBounds;simp [b1,b2,hz]
   have emp:∀ A,es=[]->RepA w (Imm B σ' ρ w) ρ σ'.gn (.slice (if hh.toNat=0 then A else A.map (·.add (0*k))) (hh.toNat-0) (hh.toNat-0)) (.full (es.take hh.toNat)):=fun A e=>by
    have e0:hh.toNat=0:=by rw [e] at a7;simp at a7;omega
    rw [e0,e,if_pos rfl,List.take_nil];exact .full _ _ _ (.emp _ _)
   cases hxx:evA σ x with
   | im y =>
    rw [hxx] at h1 hx;have hx:nz y=.sl es:=hx;have h1:RepI w (Imm B σ' ρ w) (a.eval x) (.sl es):=hx ▸ nz_rep h1.im_inv;generalize hv:a.eval x=v at h1;cases h1 with
    | emp A c =>
     exact ⟨_,run _ _ _ hv rfl (yak _),emp _ rfl⟩
    | sl b q c k' n _ us hn hkk hc hs' hS hl hone hu' hr =>
     refine ⟨_,run _ _ _ hv hn.symm hc,?_⟩;rcases yb4 hh.toNat with e0 | e0
     ·rw [e0,if_pos rfl,List.take_zero];exact .full _ _ _ (.emp _ _)
     ·rw [if_neg (by omega)];simp only [yal,ycr,addr_add,ybs,ydr];have a5:(es.take hh.toNat).length=hh.toNat:=by rw [yah];omega
      have a3:(es.take hh.toNat).flatten=es.flatten.take (hh.toNat*k):=zlw a4;refine .full _ _ _ (.sl b q _ k _ _ (us.take (hh.toNat*k)) a5 (fun e he=>a4 e (yaz he)) (yao _) (by omega) hS (by rw [a3,yah,yah,hl]) (fun u a2=>hone u (yaz a2)) (fun i u a2=>?_) fun i u y a2 hy=>?_)
      ·rw [yax] at a2;split at a2
       ·exact hu' i u a2
       ·cases a2
      ·rw [a3,yax] at hy;rw [yax] at a2;split at a2
       ·rename_i b3;rw [if_pos b3] at hy;exact hr i u y a2 hy
       ·cases a2
   | _=>rw [hxx] at hx;cases hx
  ·exact h.elim
 ·exact h.elim
theorem aLenV_ok {c:Call} {t:TypeId} {ts:List TypeId} {x:Operand} {b g k m:Nat} (hop:o.op=.call c) (hc:c.callee=.builtin .len) (ha:c.args.toList=[x]) (ht:c.argTypes.toList=t::ts) {e:TypeId} (he:zhg P t=some e) (hx:evA σ x=.osv b g k m) (hd:zdh B.n o=true) (h:aLenV o σ K x b g k):∃ fx,K fx∧Eff P B o fx.rd σ fx.wr:=by
 have a5:c.argTypes[0]?=some t:=by rw [<- yas,ht];rfl
 have a7:∀ a:Act,(c.args.map a.eval)[0]?=some (a.eval x):=fun a=>by rw [<- yas,yb8,ha];rfl
 have hu:=zee he
 have run:∀ (a:Act) w A n cp,a.eval x=.slice A n cp->(execOp a.eval o).run P w=.ok (.value (.int .i64 n)) w:=fun a w A n cp hv=>by
  simp only [execOp,hop,resolve,hc,invoke,builtin,Builtin.len_,a5,a7,Sem.run_bind,Sem.run_pure,Result.andThen_ok,run_underlying hu,hv,goInt]
 unfold aLenV at h;split at h
 ·rename_i t' kk es a6;obtain ⟨hg,h⟩:=h.out;have h:=h.out;refine ⟨_,h,Eff.pure hd fun σ' hag a w ρ hs=>?_⟩;obtain ⟨a3,hg',a4,_⟩:=zdv hag;have h1:=za5 hs x;rw [zaj a3,hx] at h1;obtain ⟨A,cp,hρ⟩:=zwk hs (a4.trans a6);generalize hv:a.eval x=v at h1;cases h1 with
  | osv _ _ _ _ _ a2 hgg hh =>
   obtain ⟨q,n,c',e1,e2,e3⟩:=hh (hg'.trans hg);rw [hρ] at e1;injection e1 with _ e1 _
   subst e1;rw [e3] at hv;exact ⟨_,run a w _ _ _ hv,zdp _⟩
 ·exact h.elim
theorem aIndexV_ok {t:TypeId} {x i:Operand} {b g k m:Nat} (hop:o.op=.indexAddr t x i) (hx:evA σ x=.osv b g k m) (hd:zdh B.n o=true) (h:aIndexV P o σ K t x i b g k m):∃ fx,K fx∧Eff P B o fx.rd σ fx.wr:=by
 unfold aIndexV at h;split at h
 ·rename_i kk n et t' k' es hi a7 a6;have hu:=zee a7;split at h
  ·rename_i m' hm;obtain ⟨a3,h'⟩:=h.ok;clear h;have a3:=yaf a3;subst a3;obtain ⟨⟨h0,hg,b0⟩,h⟩:=h'.out;have h:=h.out;refine ⟨_,h,Eff.pure hd fun σ' hag a w ρ hs=>?_⟩;obtain ⟨a4,hg',a5,_⟩:=zdv hag;have h1:=za5 hs x;have h2:=za5 hs i;rw [zaj (zaq a4),hx] at h1;rw [zaj (za7 a4)] at h2;have hn:=zc1 hi h2;obtain ⟨q,a8,cur,us,e1,e2,e3,_⟩:=zpw hs (a5.trans a6) (by omega);generalize hv:a.eval x=v at h1;cases h1 with
   | osv _ _ _ _ _ a2 hgg hh =>
    obtain ⟨q',n',c',f1,f2,f3⟩:=hh (hg'.trans hg);have a9:=f1;rw [e1] at f1;injection f1 with f1 f4 f5
    injection f1 with f1
    injection f1 with f1
    subst f1 f4 f5;rw [f3,if_neg (by omega)] at hv;have hz:=zh1 hm w;have h3:0<=n∧n<(es.length-k:Nat):=⟨h0,by omega⟩;refine ⟨.pointer (some ⟨q,(k+n.toNat)*m,none⟩),?_,.elt _ b g m (k+n.toNat) 0 rfl hgg fun _=>⟨q,0,_,a8,e1,by rw [ybs,yae]⟩⟩;simp only [execOp,hop,hv,hn,Instr.indexAt,asIntOf,Sem.run_bind,Sem.run_pure,Result.andThen_ok,run_underlying hu,if_pos h3,hz,addr_add];rw [Nat.add_mul]
  ·exact h.elim
 ·exact h.elim
theorem aSliceT_ok {t:TypeId} {x hi:Operand} {b g:Nat} (hop:o.op=.slice t x none (some hi) none) (hx:evA σ x=.osl b g) (hd:zdh B.n o=true) (h:aSliceT P o σ K t x b g hi):∃ fx,K fx∧Eff P B o fx.rd σ fx.wr:=by
 unfold aSliceT at h;split at h
 ·rename_i et kk l a4 k es d b8 c8 b6 a5;have hu:=zee b8;split at h
  ·rename_i k' b9;obtain ⟨b0,h'⟩:=h.ok;clear h;have b0:=yaf b0;subst b0;obtain ⟨⟨hg,h0,hl,hn⟩,h⟩:=h'.out;have h:=h.out;refine ⟨_,h,fun σ' hag a w ⟨ρ,hs⟩ K' Q hK=>?_⟩;obtain ⟨b2,hg',b4,d0⟩:=zdv hag;have h1:=za5 hs x;rw [zaj (zaq b2),hx] at h1;have b7:Sym.asInt (evA σ' hi)=some (kk,l):=by rw [zaj (za7 b2)];exact c8
   obtain ⟨q,cap,cur,us,e1,e2,e3,e4,e5,e6,e7,e8,e9,a2,a6,a7⟩:=zpw hs (b4.trans b6) hn;have hb:=fun c=>zng (P:=P) (w:=w) hs b7 (m:=cap) (c:=c) h0 (by omega);have hz:=zh1 b9 w
   have hv:a.eval x=.slice (some ⟨q,0,none⟩) es.length cap:=by
    generalize a.eval x=v at h1;cases h1 with
    | osl _ _ _ a8 hgg hh=>rw [hh (hg'.trans hg),e1]
   have run:(execOp a.eval o).run P w=.ok (.value (.slice (some ⟨q,0,none⟩) l.toNat cap)) w:=by
    simp only [execOp,hop,hv,Instr.sliceAt,Instr.slice,Sem.run_bind,Sem.run_pure,Result.andThen_ok,run_underlying hu,yc3,yal,hz];unfold Instr.sliceBounds;have:¬ cap=0:=by omega
    simp [hb,addr_add,hz,this]
   unfold Oper.wp;rw [run,Oper.upon_value,a5];refine hK _ _ ⟨setρ ρ b (.slice (some ⟨q,0,none⟩) l.toNat cap),?_⟩;have a3:Owns σ' ρ b q:=.root (zky (b4.trans b6)) (by rw [e1];rfl);have m:zsd σ' w w ρ (some b) (.slice (some ⟨q,0,none⟩) l.toNat cap) (some q):=⟨World.grownBy.refl _ _,fun c hc=>by injection hc with hc;subst hc;exact ⟨b,rfl,a3⟩,fun c hc=>.inl (by injection hc with hc;rw [<- hc])⟩;have a9:(es.take l.toNat).length=l.toNat:=by rw [yah];omega
   have b3:(es.take l.toNat).flatten=es.flatten.take (l.toNat*k):=zlw e8;have c9:=zbz e8;have b5:l.toNat*k<=es.length*k:=ya4 _ hl
   have c0:=hs.new (d:=b) (k:=.row a4 k (es.take l.toNat)) (cs:=[]) m rfl fun hI _=>by
    refine ⟨us.take (l.toNat*k),e7,fun y hy=>e8 y (yaz hy),by rw [a9];omega,?_,by rw [b3,yah,yah,a2],fun u hu=>a6 u (yaz hu),fun i u y hu hy=>?_⟩
    ·rw [a9];refine ⟨by rw [yah];omega,.inr ⟨q,cap,cur,by simp [setρ],yak _,e2,by omega,e4,e5,?_⟩⟩;rw [<- e6,ydi,ycq b5]
    ·rw [b3,yax] at hy;rw [yax] at hu;split at hu
     ·rename_i c6;rw [if_pos c6] at hy;exact hI _ _ (a7 i u y hu hy)
     ·cases hu
   have c7:app σ' ((.knd b,.kd .dead)::(zew σ b (.row a4 k (es.take l.toNat))++[(.tmp d,.av (.osl b (σ.gn b+1)))]))=app (zf1 σ' (some b) b (.row a4 k (es.take l.toNat)) []) [(.tmp d,.av (.osl b (σ'.gn b+1)))]:=by
    rw [zca,zay];unfold zf1 zew;rw [hg'];rfl
   show SatR B (app σ' ((.knd b,.kd .dead)::(zew σ b (.row a4 k (es.take l.toNat))++[(.tmp d,.av (.osl b (σ.gn b+1)))]))) _ _ _;rw [c7];exact ziu c0 rfl (zdi hd a5)
  ·exact h.elim
 ·exact h.elim
theorem aSliceQ_ok {t:TypeId} {x lo:Operand} {b g:Nat} (hop:o.op=.slice t x (some lo) none none) (hx:evA σ x=.osl b g) (hd:zdh B.n o=true) (h:aSliceQ P o σ K t x b g lo):∃ fx,K fx∧Eff P B o fx.rd σ fx.wr:=by
 unfold aSliceQ at h;split at h
 ·rename_i et kk l a3 k es d c7 d0 b0 a4;have hu:=zee c7;split at h
  ·rename_i k' b8;obtain ⟨a5,h'⟩:=h.ok;clear h;have a5:=yaf a5;subst a5;obtain ⟨⟨hg,h0,hl⟩,h⟩:=h'.out;have h:=h.out;refine ⟨_,h,fun σ' hag a w ⟨ρ,hs⟩ K' Q hK=>?_⟩;obtain ⟨a6,hg',b4,d6⟩:=zdv hag;have h1:=za5 hs x;rw [zaj (zaq a6),hx] at h1;have b2:Sym.asInt (evA σ' lo)=some (kk,l):=by rw [zaj (za7 a6)];exact d0
   have ho:=hs.obs b;rw [b4.trans b0] at ho;have hQ:zms w (Imm B σ' ρ w) (ρ b) a3 k es:=ho;obtain ⟨us,k0,hk,d4,b5,d1,c6,hv⟩:=hQ
   have a8:a.eval x=ρ b:=by
    generalize a.eval x=v at h1;cases h1 with
    | osl _ _ _ _ _ hh=>exact hh (hg'.trans hg)
   have hb:=fun c=>zng (P:=P) (w:=w) hs b2 (m:=es.length) (c:=c) h0 (by omega);have hz:=zh1 b8 w
   have key:∃ v',(execOp a.eval o).run P w=.ok (.value v') w∧(∀ q,zbw v'=some q->zbw (ρ b)=some q)∧v'.oneCell'=true∧∀ S',(∀ u x,RepI w (Imm B σ' ρ w) u x->RepI w S' u x)->zms w S' v' a3 k (es.drop l.toNat):=by
    have a7:(es.drop l.toNat).flatten=es.flatten.drop (l.toNat*k):=zp7 hk;have d5:l.toNat*k<=es.length*k:=ya4 _ hl;have c9:=zbz hk
    have mk:∀ v',((v'=.slice none 0 0∧es.drop l.toNat=[])∨∃ (q off a2:Nat) (cur:Array Value),v'=.slice (some ⟨q,off,none⟩) (es.drop l.toNat).length a2∧w.heap[q]?=some (.cells cur a3 (0,0))∧(es.drop l.toNat).length<=a2∧a2<=maxLen∧off+a2*k<=cur.size∧∀ (j:Nat) u,(us.drop (l.toNat*k))[j]?=some u->cur[off+j]?=some u)->∀ S',(∀ u x,RepI w (Imm B σ' ρ w) u x->RepI w S' u x)->zms w S' v' a3 k (es.drop l.toNat):=fun v' d2 S' hI=>by
     refine ⟨us.drop (l.toNat*k),k0,fun x hx=>hk x (ya3 hx),by rw [ya1];omega,by rw [a7,ya1,ya1,b5],fun u hu=>d1 u (ya3 hu),fun i u x hu hx=>?_,d2⟩;rw [a7,ya8] at hx;rw [ya8] at hu;exact hI _ _ (c6 _ u x hu hx)
    rcases hv with ⟨e1,e2⟩ | ⟨q,off,a2,cur,e1,e2,e3,e4,e5,e6⟩
    ·have b9:l.toNat=0:=by rw [e2] at hl;simpa using hl
     refine ⟨.slice none 0 0,?_,(fun q (hq:none=some q)=>nomatch hq),rfl,mk _ (.inl ⟨rfl,by rw [e2];simp⟩)⟩;have b7:es.length=0:=by rw [e2];rfl
     rw [b7] at hb;simp only [execOp,hop,a8,e1,Instr.sliceAt,Instr.slice,Sem.run_bind,Sem.run_pure,Result.andThen_ok,run_underlying hu,yc3,yal,hz];unfold Instr.sliceBounds;simp [hb,hz,b9]
    ·refine ⟨.slice (if a2=l.toNat then some ⟨q,off,none⟩ else some ⟨q,off+l.toNat*k,none⟩) (es.length-l.toNat) (a2-l.toNat),?_,fun p hp=>?_,by rfl,mk _ (.inr ?_)⟩
     ·simp only [execOp,hop,a8,e1,Instr.sliceAt,Instr.slice,Sem.run_bind,Sem.run_pure,Result.andThen_ok,run_underlying hu,yc3,yal,hz];unfold Instr.sliceBounds;simp [hb,addr_add,hz]
     ·rw [e1];split at hp<;>exact hp
     ·by_cases hc:a2=l.toNat
      ·rw [if_pos hc];refine ⟨q,off,a2-l.toNat,cur,by rw [ya1],e2,by rw [ya1];omega,by omega,by rw [hc,ycs,ycr];omega,fun j u hu=>?_⟩
       have:(us.drop (l.toNat*k)).length=0:=by
        have:es.length=l.toNat:=by omega
        rw [ya1,b5,c9,this];omega
       rw [yav this] at hu;cases hu
      ·rw [if_neg hc];have d7:l.toNat*k+(a2-l.toNat)*k=a2*k:=by rw [<- Nat.add_mul];congr 1;omega
       refine ⟨q,off+l.toNat*k,a2-l.toNat,cur,by rw [ya1],e2,by rw [ya1];omega,by omega,by omega,fun j u hu=>?_⟩;rw [ya8] at hu;rw [ybf];exact e6 _ u hu
   obtain ⟨v',b6,b3,a9,c8⟩:=key;unfold Oper.wp;rw [b6,Oper.upon_value,a4];refine hK _ _ ⟨setρ ρ b v',?_⟩;have c0:=hs.qued (w':=w) (used:=some b) (row:=zbw (ρ b)) (d:=b) (v':=v') (e:=a3) (k:=k) (es:=es.drop l.toNat) (fun q hq=>⟨b,rfl,.root (live_que (b4.trans b0)) hq⟩) (World.grownBy.refl _ _) (fun q hq=>.inl (b3 q hq)) c8
   have d3:app σ' ((.knd b,.kd .dead)::(zew σ b (.que a3 k (es.drop l.toNat))++[(.tmp d,.av (.osl b (σ.gn b+1)))]))=app (zf1 σ' (some b) b (.que a3 k (es.drop l.toNat)) []) [(.tmp d,.av (.osl b (σ'.gn b+1)))]:=by
    rw [zca,zay];unfold zf1 zew;rw [hg'];rfl
   show SatR B (app σ' ((.knd b,.kd .dead)::(zew σ b (.que a3 k (es.drop l.toNat))++[(.tmp d,.av (.osl b (σ.gn b+1)))]))) _ _ _;rw [d3];exact ziu c0 a9 (zdi hd a4)
  ·exact h.elim
 ·exact h.elim
theorem aClear_ok {c:Call} {t:TypeId} {ts:List TypeId} {x:Operand} (hop:o.op=.call c) (hc:c.callee=.builtin .clear) (ha:c.args.toList=[x]) (ht:c.argTypes.toList=t::ts) (hd:zdh B.n o=true) (h:aClear P o σ K t x):∃ fx,K fx∧Eff P B o fx.rd σ fx.wr:=by
 have b6:c.argTypes[0]?=some t:=by rw [<- yas,ht];rfl
 have b7:∀ a:Act,(c.args.map a.eval)[0]?=some (a.eval x):=fun a=>by rw [<- yas,yb8,ha];rfl
 unfold aClear at h;split at h
 ·rename_i et b g k m d4 hx;have hu:=zee d4;split at h
  ·rename_i b2 k' es m' z d3 d9 hz;obtain ⟨b3,h'⟩:=h.ok;clear h;simp only [yaq] at b3;obtain ⟨⟨⟨⟨c1,c2⟩,c3⟩,c4⟩,c5⟩:=b3;have c1:=yaf c1;have c2:=yaf c2;have c4:=yaf c4;subst c1 c2;have c3:=zey c3;obtain ⟨⟨hg,d8⟩,h⟩:=h'.out;have h:=h.out;refine ⟨_,h,fun σ' hag a w ⟨ρ,hs⟩ K' Q hK=>?_⟩;obtain ⟨d0,hg',d5,_⟩:=zdv hag;have h1:=za5 hs x;rw [zaj d0,hx] at h1;have a4:=d5.trans d3;by_cases hn:k=es.length
   ·-- nothing to clear
    have e0:es.take k++List.replicate (es.length-k) (z.map fun v=>nz1 (.val v))=es:=by rw [hn];simp
    obtain ⟨A,cp,hρ⟩:=zwk hs a4
    have run:(execOp a.eval o).run P w=.ok (.value (.tuple #[])) w:=by
     generalize hv:a.eval x=v at h1;cases h1 with
     | osv _ _ _ _ _ a6 hgg hh =>
      obtain ⟨q,n,c',f1,f2,f3⟩:=hh (hg'.trans hg);rw [hρ] at f1;injection f1 with _ f1 _
      subst f1;have:es.length-k=0:=by omega
      rw [f3,this] at hv;generalize (if c'=k then some (⟨q,0,none⟩:Addr) else some ⟨q,k*k',none⟩)=AA at hv;simp only [execOp,hop,resolve,hc,invoke,builtin,Builtin.clear_,b6,b7,Sem.run_bind,Sem.run_pure,Result.andThen_ok,run_underlying hu,hv];cases AA<;>simp
    unfold Oper.wp;rw [run,Oper.upon_value];refine hK _ _ ⟨ρ,?_⟩;rw [e0]
    have b5:SatR B (upd σ' (.knd b) (.kd (.row b2 k' es))) a w ρ:=(hs.step (fun _=>False) (fun t=>zjq σ' b t _) (fun o _=>⟨by
      rw [zfn]
      by_cases e:o=b
      ·rw [if_pos e,e,a4]
      ·rw [if_neg e],zgu σ' b o _,fun i=>zka σ' b o i _,rfl,rfl,rfl⟩) (fun _ h=>h.elim) (fun o=>by rw [zj7];exact hs.igs o) (Belo.refl _ _ _) (fun _ _ h=>h.elim) (fun _ _ _ h=>h.elim) (fun _ _ _ h=>h.elim)).1
    rw [zca];exact b5.put (fun t e=>zkw hd t e) (.im _ _ (.any _))
   ·obtain ⟨q,b8,cur,us,e1,e2,e3,e4,e5,e6,e7,e8,e9,a2,a7,a8⟩:=zpw hs a4 (by omega)
    obtain ⟨zv,d6,c0⟩:∃ zv:Value,(∀ w,(zeroValue et).run P w=.ok zv w)∧zv.cells.toList=z:=by
     unfold zeroOf at hz;split at hz
     ·rename_i i hi;cases hz0:i.zero with
      | none=>rw [hz0] at hz;cases hz
      | some zz =>
       rw [hz0] at hz;simp only [yal,zkF] at hz;exact ⟨zz,fun w=>by simp [zeroValue,typeInfo,hi,hz0],hz⟩
     ·cases hz
    have f6:zv.cells.size=k':=by rw [<- c4,<- c0];simp
    have c8:(Builtin.zeroCells zv.cells (es.length-k)).toList=(List.replicate (es.length-k) z).flatten:=by
     have:=made_take zv.cells (es.length-k) (es.length-k) (yao _) (by omega);rw [ybt (by simp [madeCells])] at this;rw [<- c0];exact this
    have a3:((List.replicate (es.length-k) z).flatten).length=(es.length-k)*k':=by
     rw [zbz (k:=k') (fun x hx=>by rw [ybo hx];exact c4),ybj]
    have b0:∀ u∈(List.replicate (es.length-k) z).flatten,u.oneCell'=true:=fun u hu=>by
     obtain ⟨y,hy,hu⟩:=ydm.1 hu;rw [ybo hy] at hu;exact ya9.1 c5 u hu
    have c6:k*k'+(es.length-k)*k'=es.length*k':=by rw [<- Nat.add_mul];congr 1;omega
    have d2:es.length*k'<=b8*k':=ya4 _ e3;have a9:=run_storeCells_at (P:=P) q (k*k') b2 ((List.replicate (es.length-k) z).flatten) 0 cur w e2 (by omega) b0;simp only [ybs] at a9
    have run:(execOp a.eval o).run P w=.ok (.value (.tuple #[])) (w.setRow q (splice cur.toList (k*k') ((List.replicate (es.length-k) z).flatten)).toArray):=by
     generalize hv:a.eval x=v at h1;cases h1 with
     | osv _ _ _ _ _ a6 hgg hh =>
      obtain ⟨q',n',c',f1,f2,f3⟩:=hh (hg'.trans hg);rw [e1] at f1;injection f1 with f1 f4 f5
      injection f1 with f1
      injection f1 with f1
      subst f1 f4 f5;obtain ⟨p,hp⟩:∃ p,es.length-k=p+1:=⟨es.length-k-1,by omega⟩;rw [f3,if_neg (by omega)] at hv;rw [hp] at hv a9 c8 ⊢;simp only [execOp,hop,resolve,hc,invoke,builtin,Builtin.clear_,b6,b7,Sem.run_bind,Sem.run_pure,Result.andThen_ok,run_underlying hu,hv,d6,c8,a9];rfl
    unfold Oper.wp;rw [run,Oper.upon_value];refine hK _ _ ⟨ρ,?_⟩;have b9:us.length=es.length*k':=by rw [a2,zbz e8]
    have c9:(es.take k).length=k:=by rw [yah];omega
    have b4:(es.take k++List.replicate (es.length-k) (z.map fun v=>nz1 (.val v))).flatten=es.flatten.take (k*k')++(List.replicate (es.length-k) (z.map fun v=>nz1 (.val v))).flatten:=by
     rw [yb6,zlw e8]
    have d7:((List.replicate (es.length-k) (z.map fun v=>nz1 (.val v))).flatten).length=(es.length-k)*k':=by
     rw [zbz (k:=k') (fun x hx=>by rw [ybo hx];simpa using c4),ybj]
    have b5:=hs.turn (w':=w.setRow q (splice cur.toList (k*k') ((List.replicate (es.length-k) z).flatten)).toArray) (k':=.row b2 k' (es.take k++List.replicate (es.length-k) (z.map fun v=>nz1 (.val v)))) (zky a4) (q:=q) (by rw [e1];rfl)
     ⟨rfl,rfl,rfl,by simp,fun k _ hk=>setRow_other w q k _ (fun e=>hk (by rw [e]))⟩ (fun c hc=>by unfold Owns;rw [a4];exact hc) fun hI=>by
      refine ⟨us.take (k*k')++(List.replicate (es.length-k) z).flatten,e7,fun y hy=>?_,by rw [zkJ,c9,ybj];omega,?_,?_,fun u hu=>?_,fun n u y hu hy=>?_⟩
      ·rcases yap.1 hy with hy | hy
       ·exact e8 y (yaz hy)
       ·rw [ybo hy];simpa using c4
      ·have d1:(es.take k++List.replicate (es.length-k) (z.map fun v=>nz1 (.val v))).length=es.length:=by rw [zkJ,c9,ybj];omega
       rw [d1];refine ⟨by rw [zkJ,yah,a3,b9];omega,.inr ⟨q,b8,_,e1,yak _,setRow_heap w q cur _ b2 _ e2,e3,e4,?_,?_⟩⟩
       ·rw [yb9,zd4 _ _ _ (by rw [a3];simp;omega)];simpa using e5
       ·rw [ydb,zmf _ _ _ _ (by rw [a3];omega) (by simp;omega),e6];unfold splice;rw [a3,c6,yc0 (by omega),ybk]
      ·rw [b4,zkJ,zkJ,yah,yah,a3,d7,a2]
      ·rcases yap.1 hu with hu | hu
       ·exact a7 u (yaz hu)
       ·exact b0 u hu
      ·rw [b4,yat,yah,<- a2,ycq (by omega)] at hy;rw [yat,yah,ycq (by omega)] at hu;split at hu
       ·rename_i a5;rw [if_pos a5,yax,if_pos a5] at hy;rw [yax,if_pos a5] at hu;exact hI _ _ (a8 n u y hu hy)
       ·rename_i a5;rw [if_neg a5,zgq] at hy;rw [zgq] at hu;split at hu
        ·rename_i c7;rw [zkK,if_pos c7,yam,hu] at hy;simp only [yal,zkF] at hy;rw [<- hy];exact zma (.val _)
        ·cases hu
    rw [zca];exact b5.put (fun t e=>zkw hd t e) (.im _ _ (.any _))
  ·exact h.elim
 ·exact h.elim
theorem zlx (w:World) (dT sT ty elem:TypeId) (g o dLen dCap:Nat) (a:Addr) (sLen sCap:Nat) (cur:Array Value) (t:TypeId) (cs:List Value) (k:Nat)
  (hu:P.underlying dT=some (.slice elem)) (hs:(P.info? elem).map (·.size)=some k)
  (hg:w.heap[g]?=some (.cells cur t (0,0))) (hn:cs.length=Nat.min sLen dLen*k)
  (hsrc:∀ j v,cs[j]?=some v->w.cell? (a.add j)=some v) (hfit:o+cs.length<=cur.size) (h1:∀ v∈cs,v.oneCell'=true) :
  (Builtin.copy_ #[dT,sT] ty #[.slice (some ⟨g,o,none⟩) dLen dCap,.slice (some a) sLen sCap]).run P w =
   .ok (goInt (Nat.min sLen dLen)) (w.setRow g (cur.toList.take o++cs++cur.toList.drop (o+cs.length)).toArray):=by
 have hl:=run_loadCells_list (P:=P) w a cs hsrc;have a2:=run_storeCells_at P g o t cs 0 cur w hg (by simpa using hfit) h1;cases hq:P.info? elem with
 | none=>simp [hq] at hs
 | some i =>
  have hi:i.size=k:=by simpa [hq] using hs
  rw [hn] at hl;simp [Builtin.copy_,run_underlying hu,Builtin.lenOf,Builtin.firstCells,sizeOf,typeInfo,hq,hi,hl,a2]
theorem aCopy_ok {c:Call} {t t':TypeId} {x y:Operand} (hop:o.op=.call c) (hc:c.callee=.builtin .copy) (ha:c.args.toList=[x,y]) (ht:c.argTypes.toList=[t,t']) (hd:zdh B.n o=true) (h:aCopy P o σ K t x y):∃ fx,K fx∧Eff P B o fx.rd σ fx.wr:=by
 have a5:c.args=#[x,y]:=by rw [<- ybz (xs:=c.args),ha]
 have c9:c.argTypes=#[t,t']:=by rw [<- ybz (xs:=c.argTypes),ht]
 unfold aCopy at h;split at h
 ·rename_i et b g d2 hx;have hu:=zee d2;split at h
  ·rename_i a9 k es m ss d0 hm hy;obtain ⟨b8,h'⟩:=h.ok;clear h;have c1:=yaf b8;subst c1;obtain ⟨⟨hg,hn,c7,a4⟩,h⟩:=h'.out;have h:=h.out;refine ⟨_,h,fun σ' hag a w ⟨ρ,hs⟩ K' Q hK=>?_⟩;obtain ⟨b3,hg',d3,_⟩:=zdv hag;have h1:=za5 hs x;have h2:=za5 hs y;rw [zaj (zaq b3),hx] at h1;rw [zaj (za7 b3)] at h2;have a3:=d3.trans d0;obtain ⟨q,cap,cur,us,e1,e2,e3,e4,e5,e6,e7,e8,e9,a2,a6,a7⟩:=zpw hs a3 hn
   have hv:a.eval x=.slice (some ⟨q,0,none⟩) es.length cap:=by
    generalize a.eval x=v at h1;cases h1 with
    | osl _ _ _ a8 hgg hh=>rw [hh (hg'.trans hg),e1]
   obtain ⟨sb,so,sc,su,f1,f2,f3,f4,f5⟩:∃ (sb so sc:Nat) (su:List Value),a.eval y=.slice (some ⟨sb,so,none⟩) ss.length sc∧su.length=ss.flatten.length∧(∀ u∈su,u.oneCell'=true)∧(∀ (i:Nat) u,su[i]?=some u->w.cell? ⟨sb,so+i,none⟩=some u)∧∀ (i:Nat) u z,su[i]?=some u->ss.flatten[i]?=some z->RepI w (Imm B σ' ρ w) u z:=by
    cases hyy:evA σ y with
    | im z =>
     rw [hyy] at h2 hy;have hy:nz z=.sl ss:=hy;have h2:RepI w (Imm B σ' ρ w) (a.eval y) (.sl ss):=hy ▸ nz_rep h2.im_inv;generalize a.eval y=v at h2;cases h2 with
     | emp A c =>
      cases c7
     | sl b q c k' n' _ us hn hkk hc hs' hS hl hone hu' hr =>
      subst hn;exact ⟨_,_,_,us,rfl,hl,hone,hu',hr⟩
    | _=>rw [hyy] at hy;cases hy
   have b0:su.length=ss.length*k:=by rw [f2,zbz a4]
   have d5:us.length=es.length*k:=by rw [a2,zbz e8]
   have d4:Nat.min ss.length es.length=min ss.length es.length:=rfl
   have b7:(su.take (es.length*k)).length=Nat.min ss.length es.length*k:=by
    rw [yah,b0,d4,Nat.min_comm (es.length*k)];rcases Nat.le_total ss.length es.length with hh | hh
    ·rw [ycq hh,ycq (ya4 _ hh)]
    ·rw [yei hh,yei (ya4 _ hh)]
   have d6:Nat.min ss.length es.length*k<=es.length*k:=ya4 _ (Nat.min_le_right _ _);have d7:es.length*k<=cap*k:=ya4 _ e3
   have c0:=zlx (P:=P) w t t' o.type et q 0 es.length cap ⟨sb,so,none⟩ ss.length sc cur a9 (su.take (es.length*k)) k hu hm e2 b7 (fun j v hj=>by
    rw [yax] at hj
    split at hj
    ·rw [Addr.add_lit];exact f4 j v hj
    ·cases hj) (by rw [b7];omega) (fun v hv=>f3 v (yaz hv))
   have run:(execOp a.eval o).run P w=.ok (.value (goInt (Nat.min ss.length es.length))) (w.setRow q (cur.toList.take 0++su.take (es.length*k)++cur.toList.drop (0+(su.take (es.length*k)).length)).toArray):=by
    simp only [execOp,hop,resolve,hc,invoke,builtin,Sem.run_bind,Sem.run_pure,Result.andThen_ok,a5,c9,ydn,yar,yc1,hv,f1,c0]
   unfold Oper.wp;rw [run,Oper.upon_value];refine hK _ _ ⟨ρ,?_⟩;rw [List.take_zero,ycd,yae];have b4:(su.take (es.length*k)).length<=es.length*k:=by rw [yah];exact Nat.min_le_left _ _
   have b9:(su.take (es.length*k)).length=min (es.length*k) (ss.length*k):=by rw [yah,b0]
   have b5:(ss.take es.length++es.drop ss.length).flatten=(ss.flatten.take (es.length*k))++es.flatten.drop (ss.length*k):=by
    rw [yb6,zlw a4,zp7 e8]
   have c8:=hs.turn (w':=w.setRow q (su.take (es.length*k)++cur.toList.drop (su.take (es.length*k)).length).toArray) (k':=.row a9 k (ss.take es.length++es.drop ss.length)) (zky a3) (q:=q) (by rw [e1];rfl)
    ⟨rfl,rfl,rfl,by simp,fun k _ hk=>setRow_other w q k _ (fun e=>hk (by rw [e]))⟩ (fun c hc=>by unfold Owns;rw [a3];exact hc) fun hI=>by
     have b6:(ss.take es.length++es.drop ss.length).length=es.length:=by rw [zkJ,yah,ya1];omega
     refine ⟨su.take (es.length*k)++us.drop (ss.length*k),e7,fun y hy=>?_,by rw [b6];exact e9,?_,?_,fun u hu=>?_,fun n u y hu hy=>?_⟩
     ·rcases yap.1 hy with hy | hy
      ·exact a4 y (yaz hy)
      ·exact e8 y (ya3 hy)
     ·rw [b6];refine ⟨by rw [zkJ,yah,ya1,b0,d5];omega,.inr ⟨q,cap,_,e1,yak _,setRow_heap w q cur _ a9 _ e2,e3,e4,?_,?_⟩⟩
      ·have c6:cur.toList.length=cap*k:=by rw [yb7,e5]
       rw [yb9,zkJ,ya1,c6];omega
      ·rw [ydb,ydl,ybt b4,List.take_drop,show (su.take (es.length*k)).length+(es.length*k-(su.take (es.length*k)).length)=es.length*k by omega,e6];congr 1;rcases Nat.le_total (ss.length*k) (es.length*k) with hh | hh
       ·rw [b9,yei hh]
       ·rw [b9,ycq hh,yc0 (by omega),yc0 (by omega)]
     ·rw [b5,zkJ,zkJ,yah,yah,ya1,ya1,f2,a2]
     ·rcases yap.1 hu with hu | hu
      ·exact f3 u (yaz hu)
      ·exact a6 u (ya3 hu)
     ·rw [b5,yat,yah,<- f2] at hy;rw [yat,yah] at hu;split at hu
      ·rename_i b2;rw [if_pos b2,yax] at hy;rw [yax] at hu;split at hu
       ·rename_i d1;rw [if_pos d1] at hy;exact hI _ _ (f5 n u y hu hy)
       ·cases hu
      ·rename_i b2;rw [if_neg b2,ya8] at hy;rw [ya8] at hu;exact hI _ _ (a7 _ u y hu hy)
   rw [zca];exact c8.put (fun t e=>zkw hd t e) (.im _ _ (.any _))
  ·exact h.elim
 ·exact h.elim
end
end
section
section
variable {P:Program} {B:Base} {o:Oper} {σ:St} {K:Fx->Prop}
theorem zqt {v:Value} {inn:List Value} (h:(fpv v inn).Nodup) {i q:Nat} {u:Value} (hu:inn[i]?=some u) (hq:zbw u=some q):zbw v≠some q∧∀ j u',j≠i->inn[j]?=some u'->zbw u'≠some q:=by
 unfold fpv List.Nodup at h;rw [yem] at h;rw [ycm] at h;obtain ⟨h1,h2⟩:=h;obtain ⟨hi,rfl⟩:=zkI.1 hu;refine ⟨fun e=>h1 _ (ybq hi) q e q hq rfl,fun j u' hj a3 e=>?_⟩;obtain ⟨a2,rfl⟩:=zkI.1 a3;have h3:=yck.1 h2;rcases ya7 j i with a4 | a5
 ·exact h3 j i a2 hi a4 q e q hq rfl
 ·exact h3 i j hi a2 (by omega) q hq q e rfl
theorem zhf {a:Act} {w:World} {ρ:Ly} (hs:SatR B σ a w ρ) {b k:Nat} {e e':TypeId} {gs:List (List IV)} (hk:σ.kd b=.grid e e' k gs none) :
  ∃ us:List Value,(fpv (ρ b) (ρ.inn b)).Nodup∧(ρ.inn b).length=gs.length∧gs.length<=17592186044416∧w.ownsRow 0 e 1 (ρ b) gs.length us∧(∀ u∈us,u.oneCell'=true)∧us.length=gs.length ∧
   ∀ (i:Nat) u,(ρ.inn b)[i]?=some u->us[i]?=some u∧∃ es,gs[i]?=some [.sl es]∧zjp w (Imm B σ ρ w) u e' k es:=by
 have ho:=hs.obs b;rw [hk] at ho;obtain ⟨h0,h1,us,h2,h3,h4,h5⟩:=ho;refine ⟨us,h0,h1,h2,h3,h4,by rw [h3.1,yct],fun i u hu=>?_⟩;rcases h5 i u hu with ⟨h6,_⟩ | h6
 ·cases h6
 ·exact h6
theorem zwr {a:Act} {w:World} {ρ:Ly} (hs:SatR B σ a w ρ) {b k:Nat} {e e':TypeId} {gs:List (List IV)} {hole:Option Nat} (hk:σ.kd b=.grid e e' k gs hole) :
  ∃ us:List Value,(fpv (ρ b) (ρ.inn b)).Nodup∧(ρ.inn b).length=gs.length∧gs.length<=17592186044416∧w.ownsRow 0 e 1 (ρ b) gs.length us∧(∀ u∈us,u.oneCell'=true)∧us.length=gs.length ∧
   ∀ (i:Nat) u,(ρ.inn b)[i]?=some u->(hole=some i∧u=undef)∨(us[i]?=some u∧∃ es,gs[i]?=some [.sl es]∧zjp w (Imm B σ ρ w) u e' k es):=by
 have ho:=hs.obs b;rw [hk] at ho;obtain ⟨h0,h1,us,h2,h3,h4,h5⟩:=ho;exact ⟨us,h0,h1,h2,h3,h4,by rw [h3.1,yct],h5⟩
theorem inn_at {ρ:Ly} {b n i:Nat} (h:(ρ.inn b).length=n) (hi:i<n):∃ u,(ρ.inn b)[i]?=some u:=⟨_,zkM (by omega)⟩
theorem zjp.form {w:World} {S:Nat->Prop} {v:Value} {e:TypeId} {k:Nat} {es:List (List IV)} (h:zjp w S v e k es) (hn:0<es.length) :
  ∃ (q cap:Nat) (cur:Array Value) (us:List Value),v=.slice (some ⟨q,0,none⟩) es.length cap∧w.heap[q]?=some (.cells cur e (0,0))∧es.length<=cap∧cap<=maxLen∧cur.size=cap*k∧cur.toList.take (es.length*k)=us∧0<k∧(∀ x∈es,x.length=k)∧es.length<=17592186044416∧us.length=es.flatten.length ∧
   (∀ u∈us,u.oneCell'=true)∧(∀ (i:Nat) u x,us[i]?=some u->es.flatten[i]?=some x->RepI w S u x)∧w.ownsRow 0 e k v es.length us:=by
 obtain ⟨us,h1,h2,h3,h4,h5,h6,h7⟩:=h;rcases h4.2 with ⟨_,h0⟩ | ⟨q,cap,cur,e1,_,e3,e4,e5,e6,e7⟩
 ·omega
 ·exact ⟨q,cap,cur,us,e1,e3,e4,e5,e6,e7,h1,h2,h3,h5,h6,h7,h4⟩
theorem zsw {w:World} {e:TypeId} {k n q cap:Nat} {v:Value} {us:List Value} (h:w.ownsRow 0 e k v n us) (hv:v=.slice (some ⟨q,0,none⟩) n cap) {p:Nat} {u:Value} (hu:us[p]?=some u):w.cell? ⟨q,p,none⟩=some u:=by
 have:=h.cells (g:=q) (by rw [hv];rfl) p u hu
 rwa [addr_add,yae] at this
theorem aIndexG_ok {t:TypeId} {x i:Operand} {b g:Nat} (hop:o.op=.indexAddr t x i) (hx:evA σ x=.osl b g) (hd:zdh B.n o=true) (h:aIndexG P o σ K t x i b g):∃ fx,K fx∧Eff P B o fx.rd σ fx.wr:=by
 unfold aIndexG at h;split at h
 ·rename_i kk n et e e' k' gs hole hi a7 a9;have hu:=zee a7;split at h
  ·rename_i m hm;obtain ⟨a4,h'⟩:=h.ok;clear h;have a4:=yaf a4;subst a4;obtain ⟨⟨h0,hg,b2⟩,h⟩:=h'.out;refine ⟨_,h,Eff.pure hd fun σ' hag a w ρ hs=>?_⟩;obtain ⟨a5,hg',a8,_⟩:=zdv hag;have h1:=za5 hs x;have h2:=za5 hs i;rw [zaj (zaq a5),hx] at h1;rw [zaj (za7 a5)] at h2;have hn:=zc1 hi h2;obtain ⟨us,_,_,_,a6,_⟩:=zwr hs (a8.trans a9);obtain ⟨q,b0,a3⟩:=World.ownsRow.form a6 (by omega);generalize hv:a.eval x=v at h1;cases h1 with
   | osl _ _ _ a2 hgg hh =>
    rw [hh (hg'.trans hg),a3.1] at hv;have hz:=zh1 hm w;have h3:0<=n∧n<gs.length:=⟨h0,by omega⟩;refine ⟨.pointer (some ⟨q,n.toNat*1,none⟩),?_,.elt _ b g 1 n.toNat 0 rfl hgg fun _=>⟨q,0,_,b0,a3.1,by rw [ybs,yae]⟩⟩;simp only [execOp,hop,hv,hn,Instr.indexAt,asIntOf,Sem.run_bind,Sem.run_pure,Result.andThen_ok,run_underlying hu,if_pos h3,hz,addr_add,yae]
  ·exact h.elim
 ·exact h.elim
theorem zs3 {σ':St} {l:List Loc} {b:Nat} (h:∀ x∈l++[.ign b,.knd b],σ' x=σ x):(∀ x∈l,σ' x=σ x)∧σ'.ig b=σ.ig b∧σ'.kd b=σ.kd b :=
 ⟨zaq h,zio (za7 h _ (by simp)),zpb (za7 h _ (by simp))⟩
theorem aIndexS_ok {t:TypeId} {x i:Operand} {b g j:Nat} (hop:o.op=.indexAddr t x i) (hx:evA σ x=.sub b g j) (hd:zdh B.n o=true) (h:aIndexS P o σ K t x i b g j):∃ fx,K fx∧Eff P B o fx.rd σ fx.wr:=by
 unfold aIndexS at h;split at h
 ·rename_i kk n et e e' k gs hi b3 b0;have hu:=zee b3;split at h
  ·rename_i m hm;obtain ⟨a5,h'⟩:=h.ok;clear h;have a5:=yaf a5;subst a5;obtain ⟨es,⟨h0,hg,a8,b8⟩,h⟩:=h';refine ⟨_,h,Eff.pure hd fun σ' hag a w ρ hs=>?_⟩;obtain ⟨a6,hg',a9⟩:=zs3 hag;have h1:=za5 hs x;have h2:=za5 hs i;rw [zaj (zaq a6),hx] at h1;rw [zaj (za7 a6)] at h2;have hn:=zc1 hi h2;obtain ⟨us,_,_,_,_,_,_,b5⟩:=zhf hs (a9.trans b0);generalize hv:a.eval x=v at h1;cases h1 with
   | sub _ _ _ _ a2 hgg hh =>
    have b2:ρ.ig b=g:=by rw [hs.igs,hg',hg]
    have a4:=hh b2;obtain ⟨_,b6,a3,a7⟩:=b5 j v a4;rw [a8] at a3;injection a3 with a3
    injection a3 with a3
    injection a3 with a3
    subst a3;obtain ⟨q,b4,cur,b7,e1,_⟩:=a7.form (by omega);have hz:=zh1 hm w;have h3:0<=n∧n<es.length:=⟨h0,by omega⟩;refine ⟨.pointer (some ⟨q,n.toNat*m,none⟩),?_,.elt2 _ b g j m n.toNat 0 rfl hgg fun _=>⟨q,_,b4,by rw [a4,e1],by rw [ybs]⟩⟩;rw [e1] at hv;simp only [execOp,hop,hv,hn,Instr.indexAt,asIntOf,Sem.run_bind,Sem.run_pure,Result.andThen_ok,run_underlying hu,if_pos h3,hz,addr_add,yae]
  ·exact h.elim
 ·exact h.elim
theorem aLoadG_ok {t:TypeId} {p:Operand} {b g k i j:Nat} (hop:o.op=.load t p) (hp:evA σ p=.elt b g k i j) (hd:zdh B.n o=true) (h:aLoadG P o σ K t p b g k i j):∃ fx,K fx∧Eff P B o fx.rd σ fx.wr:=by
 have run:∀ (a:Act) w v,(Instr.loadAt t (a.eval p)).run P w=.ok v w->(execOp a.eval o).run P w=.ok (.value v) w:=fun a w v hv=>by simp [execOp,hop,hv]
 unfold aLoadG at h;split at h
 ·rename_i e e' k' gs a6 b4;obtain ⟨a4,h'⟩:=h.ok;clear h;rw [yaq] at a4;have b7:=yaf a4.1;have b9:=yaf a4.2;subst b7 b9;obtain ⟨⟨hg,c0⟩,h⟩:=h'.out;refine ⟨_,h,Eff.pure hd fun σ' hag a w ρ hs=>?_⟩;have a7:∀ x∈opd p++(.gen b::.knd b::[.ign b]),σ' x=σ x:=fun x hx=>hag x (by simpa using hx);obtain ⟨b0,hg',b2,b3⟩:=zdv a7;have b5:σ'.ig b=σ.ig b:=zio (b3 (.ign b) (by simp));have h1:=za5 hs p;rw [zaj b0,hp] at h1;obtain ⟨us,_,b6,_,a5,a8,_,b8⟩:=zhf hs (b2.trans b4);obtain ⟨u,hu⟩:=inn_at b6 c0;obtain ⟨a9,_⟩:=b8 i u hu;generalize hv:a.eval p=v at h1;cases h1 with
  | elt _ _ _ _ _ _ a2 hgg hh =>
   obtain ⟨q,z,n,c,e1,e2⟩:=hh (hg'.trans hg);obtain ⟨q',c6,a3⟩:=World.ownsRow.form a5 (by omega);rw [a3.1] at e1;injection e1 with e1 _ _
   injection e1 with e1
   injection e1 with e1 e3
   subst e1 e3;rw [e2,yct,ybs,yae] at hv;refine ⟨u,run a w u (by rw [hv];exact zoa a6 (zsw a5 a3.1 a9)),.sub _ b _ i (a8 u (zkH a9)) ?_ fun _=>hu⟩;rw [hs.igs,b5];exact yao _
 ·exact h.elim
theorem aLoadS_ok {t:TypeId} {p:Operand} {b g i k j c:Nat} (hop:o.op=.load t p) (hp:evA σ p=.elt2 b g i k j c) (hd:zdh B.n o=true) (h:aLoadS P o σ K t p b g i k j c):∃ fx,K fx∧Eff P B o fx.rd σ fx.wr:=by
 have run:∀ (a:Act) w v,(Instr.loadAt t (a.eval p)).run P w=.ok v w->(execOp a.eval o).run P w=.ok (.value v) w:=fun a w v hv=>by simp [execOp,hop,hv]
 unfold aLoadS at h;split at h
 ·rename_i e e' k' gs a5 b8;obtain ⟨a6,h'⟩:=h.ok;clear h;have c7:=yaf a6;subst c7;obtain ⟨es,el,x,⟨hg,b2,he,hx⟩,h⟩:=h';refine ⟨_,h,Eff.pure hd fun σ' hag a w ρ hs=>?_⟩;obtain ⟨b0,hg',b3⟩:=zs3 hag;have h1:=za5 hs p;rw [zaj b0,hp] at h1;obtain ⟨us,_,_,_,_,_,_,b5⟩:=zhf hs (b3.trans b8);generalize hv:a.eval p=v at h1;cases h1 with
  | elt2 _ _ _ _ _ _ _ a2 hgg hh =>
   have c0:ρ.ig b=g:=by rw [hs.igs,hg',hg]
   obtain ⟨q,n,cp,a8,e2⟩:=hh c0;obtain ⟨_,c9,a3,a9⟩:=b5 i _ a8;rw [b2] at a3;injection a3 with a3
   injection a3 with a3
   injection a3 with a3
   subst a3;have d2:=(zkI.1 he).1;obtain ⟨q',c8,cur,b7,e1,_,_,_,_,_,d0,a7,_,b9,d1,c6,a4⟩:=a9.form (by omega);have b6:=e1;injection e1 with e1 _ _
   injection e1 with e1
   injection e1 with e1
   subst e1;have b4:c<k':=by rw [<- a7 el (zkH he)];exact (zkI.1 hx).1
   have hf:=flat_get a7 he b4;rw [hx] at hf;obtain ⟨u,hu⟩:∃ u,b7[j*k'+c]?=some u:=⟨_,zkM (by rw [b9];exact (zkI.1 hf).1)⟩;exact ⟨u,run a w u (by rw [hv,e2];exact zoa a5 (zsw a4 b6 hu)),.im _ _ (c6 _ u x hu hf)⟩
 ·exact h.elim
theorem aLenG_ok {c:Call} {t:TypeId} {ts:List TypeId} {x:Operand} {b g:Nat} (hop:o.op=.call c) (hc:c.callee=.builtin .len) (ha:c.args.toList=[x]) (ht:c.argTypes.toList=t::ts) {e:TypeId} (he:zhg P t=some e) (hx:evA σ x=.osl b g) (hd:zdh B.n o=true) (h:aLenG o σ K x b g):∃ fx,K fx∧Eff P B o fx.rd σ fx.wr:=by
 have a8:c.argTypes[0]?=some t:=by rw [<- yas,ht];rfl
 have a9:∀ a:Act,(c.args.map a.eval)[0]?=some (a.eval x):=fun a=>by rw [<- yas,yb8,ha];rfl
 have hu:=zee he
 have run:∀ (a:Act) w A n cp,a.eval x=.slice A n cp->(execOp a.eval o).run P w=.ok (.value (.int .i64 n)) w:=fun a w A n cp hv=>by
  simp only [execOp,hop,resolve,hc,invoke,builtin,Builtin.len_,a8,a9,Sem.run_bind,Sem.run_pure,Result.andThen_ok,run_underlying hu,hv,goInt]
 unfold aLenG at h;split at h
 ·rename_i e1 e2 k gs a7;obtain ⟨hg,h⟩:=h.out;have h:=h.out;refine ⟨_,h,Eff.pure hd fun σ' hag a w ρ hs=>?_⟩;obtain ⟨a4,hg',a6,_⟩:=zdv hag;have h1:=za5 hs x;rw [zaj a4,hx] at h1;obtain ⟨us,_,_,_,a3,_⟩:=zhf hs (a6.trans a7)
  obtain ⟨A,cp,hρ⟩:∃ A c,ρ b=.slice A gs.length c:=by
   rcases a3.2 with ⟨e,h0⟩ | ⟨g,a5,cur,e,_⟩
   ·exact ⟨none,0,by rw [e,h0]⟩
   ·exact ⟨_,a5,e⟩
  generalize hv:a.eval x=v at h1;cases h1 with
  | osl _ _ _ a2 hgg hh =>
   rw [hh (hg'.trans hg),hρ] at hv;exact ⟨_,run a w _ _ _ hv,zdp _⟩
 ·exact h.elim
theorem aLenS_ok {c:Call} {t:TypeId} {ts:List TypeId} {x:Operand} {b g i:Nat} (hop:o.op=.call c) (hc:c.callee=.builtin .len) (ha:c.args.toList=[x]) (ht:c.argTypes.toList=t::ts) {e:TypeId} (he:zhg P t=some e) (hx:evA σ x=.sub b g i) (hd:zdh B.n o=true) (h:aLenS o σ K x b g i):∃ fx,K fx∧Eff P B o fx.rd σ fx.wr:=by
 have b0:c.argTypes[0]?=some t:=by rw [<- yas,ht];rfl
 have b5:∀ a:Act,(c.args.map a.eval)[0]?=some (a.eval x):=fun a=>by rw [<- yas,yb8,ha];rfl
 have hu:=zee he
 have run:∀ (a:Act) w A n cp,a.eval x=.slice A n cp->(execOp a.eval o).run P w=.ok (.value (.int .i64 n)) w:=fun a w A n cp hv=>by
  simp only [execOp,hop,resolve,hc,invoke,builtin,Builtin.len_,b0,b5,Sem.run_bind,Sem.run_pure,Result.andThen_ok,run_underlying hu,hv,goInt]
 unfold aLenS at h;split at h
 ·rename_i e1 e2 k gs b3;obtain ⟨es,⟨hg,a7⟩,h⟩:=h;have h:=h.out;refine ⟨_,h,Eff.pure hd fun σ' hag a w ρ hs=>?_⟩;obtain ⟨a6,hg',a9⟩:=zs3 hag;have h1:=za5 hs x;rw [zaj a6,hx] at h1;obtain ⟨us,_,_,_,_,_,_,b2⟩:=zhf hs (a9.trans b3);generalize hv:a.eval x=v at h1;cases h1 with
  | sub _ _ _ _ a2 hgg hh =>
   have b4:ρ.ig b=g:=by rw [hs.igs,hg',hg]
   obtain ⟨_,b6,a3,a5⟩:=b2 i v (hh b4);rw [a7] at a3;injection a3 with a3
   injection a3 with a3
   injection a3 with a3
   subst a3;obtain ⟨b7,_,_,_,a4,_⟩:=a5
   obtain ⟨A,cp,hρ⟩:∃ A c,v=.slice A es.length c:=by
    rcases a4.2 with ⟨e,h0⟩ | ⟨g,a8,cur,e,_⟩
    ·exact ⟨none,0,by rw [e,h0]⟩
    ·exact ⟨_,a8,e⟩
   rw [hρ] at hv;exact ⟨_,run a w _ _ _ hv,zdp _⟩
 ·exact h.elim
theorem SatR.turnA {a:Act} {w w':World} {ρ:Ly} (h:SatR B σ a w ρ) {b q:Nat} {k':Kd} (hq:Owns σ ρ b q) (hg:w.grownBy w' (some q)) (hk':∀ c,c∈fpk (ρ b) (ρ.inn b) k'->Owns σ ρ b c)
  (hob:(∀ v x,RepI w (Imm B σ ρ w) v x->RepI w' (Imm B (upd σ (.knd b) (.kd k')) ρ w') v x)->zm5 B (upd σ (.knd b) (.kd k')) ρ w' b k'):SatR B (upd σ (.knd b) (.kd k')) a w' ρ:=by
 refine (h.step (fun o=>o=b) (fun t=>zjq σ b t _) (fun o hd=>⟨by rw [zfn,if_neg hd],zgu σ b o _,fun i=>zka σ b o i _,rfl,rfl,rfl⟩) (fun o _=>⟨⟨by rw [zgu];exact yao _,fun _=>rfl⟩,yao _,fun _=>rfl⟩)
  (fun o=>by rw [zj7];exact h.igs o) ⟨hg.os,hg.tape,hg.output,hg.size,fun c hc hn=>hg.block c hc fun e=>?_⟩ (fun o c hd ho=>?_) (fun o p c hd hp _ _=>hd.trans hp.symm) fun hI hA o hd=>?_).1
 ·injection e with e
  subst e;exact hn ⟨b,rfl,hq⟩
 ·subst hd;unfold Owns at ho;rw [zfn,if_pos rfl] at ho;exact .inr ⟨o,rfl,hk' c ho⟩
 ·subst hd;rw [zfn,if_pos rfl];exact hob hI
theorem aStoreS_ok {t:TypeId} {p x:Operand} {b g i k j c:Nat} (hop:o.op=.store t p x) (hp:evA σ p=.elt2 b g i k j c) (hd:zdh B.n o=true) (h:aStoreS P o σ K t p x b g i k j c):∃ fx,K fx∧Eff P B o fx.rd σ fx.wr:=by
 unfold aStoreS at h;split at h
 ·rename_i m cs e e' k' gs hm d0 c0;split at h
  ·rename_i xs g9;obtain ⟨b3,h'⟩:=h.ok;clear h;simp only [yaq] at b3;obtain ⟨⟨⟨c1,c2⟩,c3⟩,c4⟩:=b3;have c9:cs.length=m:=by simpa using c1
   have i3:=zey c2;have i0:=zho c3;have g4:k'=k:=by simpa using c4
   subst g4;obtain ⟨es,el,⟨hg,g5,a8⟩,h⟩:=h';have h:=h.out;refine ⟨_,h,fun σ' hag a w ⟨ρ,hs⟩ K' Q hK=>?_⟩;obtain ⟨c7,hg',b4⟩:=zs3 hag;have h1:=za5 hs p;have h2:=za5 hs x;rw [zaj (zaq c7),hp] at h1;rw [zaj (za7 c7)] at h2;have hr:=ziz d0 h2;have a9:=zis d0 h2;have e0:=zwf hs (bs':=[]) (by simp) hr (zn5 g9 fun l hl=>by simp [frd] at hl) (by simp);obtain ⟨us,d6,e4,b5,e6,c6,h7,d5⟩:=zhf hs (b4.trans c0);have e9:ρ.ig b=g:=by rw [hs.igs,hg',hg]
   obtain ⟨q,cap,u0,a3,f4,a7⟩:∃ q cap u0,(ρ.inn b)[i]?=some u0∧a.eval p=.pointer (some ⟨q,j*k'+c,none⟩)∧∃ n,u0=.slice (some ⟨q,0,none⟩) n cap:=by
    generalize a.eval p=v at h1;cases h1 with
    | elt2 _ _ _ _ _ _ _ a2 hgg hh =>
     obtain ⟨q,n,cp,a3,e2⟩:=hh e9;exact ⟨q,cp,_,a3,e2,n,rfl⟩
   obtain ⟨h8,h9,a4,d8⟩:=d5 i u0 a3;rw [g5] at a4;injection a4 with a4
   injection a4 with a4
   injection a4 with a4
   subst a4;have e8:=(zkI.1 a8).1;obtain ⟨q',b0,cur,d1,e1,e3,d7,d2,e5,g6,f6,a6,d3,b9,d4,h5,f5⟩:=d8.form (by omega);obtain ⟨n,a7⟩:=a7
   have h6:q'=q:=by
    rw [a7] at e1;injection e1 with e1 _ _
    injection e1 with e1
    injection e1 with e1
    exact e1.symm
   subst h6;have b7:(a.eval x).cells.toList.length=m:=by rw [hr.1,c9]
   have h0:xs.length=m:=by rw [<- e0.1,b7]
   have d9:(j+1)*k'<=es.length*k':=ya4 _ e8;have f7:es.length*k'<=b0*k':=ya4 _ d7;rw [Nat.add_mul,yep] at d9;have a5:=run_storeCells_at (P:=P) q' (j*k'+c) e' (a.eval x).cells.toList 0 cur w e3 (by omega) a9;simp only [ybs] at a5;have hz:=zh1 hm w;have f3:(a.eval x).cells.size=m:=by rw [<- b7];simp
   have run:(execOp a.eval o).run P w=.ok .skip (w.setRow q' (splice cur.toList (j*k'+c) (a.eval x).cells.toList).toArray):=by
    simp only [execOp,hop,Instr.storeAt,f4,Instr.sureAddr,storeVar,Sem.run_bind,Sem.run_pure,Result.andThen_ok,hz,f3];rw [if_neg (by simp),a5];rfl
   unfold Oper.wp;rw [run,Oper.upon_skip];refine hK _ _ ⟨ρ,?_⟩;have b8:d1.length=es.length*k':=by rw [b9,zbz a6]
   have e7:el.length=k':=a6 el (zkH a8);have b2:zbw u0=some q':=by rw [a7];rfl
   obtain ⟨g7,f8⟩:=zqt d6 a3 b2;have c8:∀ r,r≠q'->(w.setRow q' (splice cur.toList (j*k'+c) (a.eval x).cells.toList).toArray).heap[r]?=w.heap[r]?:=fun r hr=>setRow_other w q' r _ hr
   have g8:=hs.turnA (w':=w.setRow q' (splice cur.toList (j*k'+c) (a.eval x).cells.toList).toArray) (b:=b) (q:=q') (k':=.grid e e' k' (gs.set i [.sl (es.set j (splice el c xs))]) none)
    (by unfold Owns;rw [b4.trans c0];exact fpk_inn a3 b2)
    ⟨rfl,rfl,rfl,by simp,fun k _ hk=>setRow_other w q' k _ (fun e=>hk (by rw [e]))⟩ (fun r hr=>by unfold Owns;rw [b4.trans c0];exact hr) fun hI=>by
     refine ⟨d6,by rw [ya2];exact e4,us,by rw [ya2];exact b5,?_,c6,fun i' u hu=>.inr ?_⟩
     ·rw [ya2];exact zjn e6 fun r hr=>c8 r fun e=>g7 (by rw [<- e];exact hr)
     ·obtain ⟨g1,f9,g2,g3⟩:=d5 i' u hu;refine ⟨g1,?_⟩;by_cases b6:i'=i
      ·subst b6;rw [a3] at hu;injection hu with hu
       subst hu;refine ⟨es.set j (splice el c xs),by rw [ybl (by rw [<- e4];exact (zkI.1 a3).1)],splice d1 (j*k'+c) (a.eval x).cells.toList,f6,fun y hy=>?_,by rw [ya2];exact d3,?_,?_,fun u hu=>?_,fun n u y hu hy=>?_⟩
       ·rcases ycb hy with hy | hy
        ·exact a6 y hy
        ·rw [hy,zd4 _ _ _ (by omega),e7]
       ·rw [ya2];refine ⟨by rw [zd4 _ _ _ (by omega),b8],.inr ⟨q',b0,_,e1,yak _,setRow_heap w q' cur _ e' _ e3,d7,d2,?_,?_⟩⟩
        ·rw [yb9,zd4 _ _ _ (by simp;omega)];simpa using e5
        ·rw [ydb,zmf _ _ _ _ (by omega) (by simp;omega),g6]
       ·rw [zqf a6 a8 (by omega),zd4 _ _ _ (by omega),zd4 _ _ _ (by omega),b9]
       ·unfold splice at hu;rcases yap.1 hu with hu | hu
        ·rcases yap.1 hu with hu | hu
         ·exact d4 u (yaz hu)
         ·exact a9 u hu
        ·exact d4 u (ya3 hu)
       ·rw [zqf a6 a8 (by omega)] at hy;rcases zto b9 (by rw [b7,h0]) (by omega) hu hy with ⟨n',h3,h4⟩ | ⟨n',h3,h4⟩
        ·exact hI _ _ (h5 n' u y h3 h4)
        ·exact hI _ _ (e0.2 n' u y h3 h4)
      ·exact ⟨f9,by rw [ybh (fun e=>b6 e.symm)];exact g2,g3.mono (fun r hr=>c8 r fun e=>f8 i' u b6 hu (by rw [<- e];exact hr)) hI⟩
   rw [zca];exact g8.put (zkw hd) (zdp _)
  ·exact h.elim
 ·exact h.elim
theorem fpv_set {v x:Value} {inn:List Value} {i:Nat} (h:(fpv v inn).Nodup) (hx:∀ q,zbw x=some q->q∉fpv v inn):(fpv v (inn.set i x)).Nodup:=by
 have hm:∀ u q,u=v∨u∈inn->zbw u=some q->q∈fpv v inn:=fun u q hu hq=>ybw.2 ⟨u,by rcases hu with rfl | hu<;>simp [*],hq⟩
 unfold fpv List.Nodup at h ⊢;rw [yem,ycm] at h ⊢;obtain ⟨h1,h2⟩:=h;refine ⟨fun a' a3 c hc c' a2 e=>?_,?_⟩
 ·rcases ycb a3 with h3 | h3
  ·exact h1 a' h3 c hc c' a2 e
  ·subst h3 e;exact hx c a2 (hm v c (.inl rfl) hc)
 ·rw [yck] at h2 ⊢;intro j k hj hk a4 c hc c' a2 e;rw [ya2] at hj hk;rw [List.getElem_set] at hc a2;subst e;split at hc
  ·split at a2
   ·omega
   ·exact hx c hc (hm _ c (.inr (ybq hk)) a2)
  ·split at a2
   ·exact hx c a2 (hm _ c (.inr (ybq hj)) hc)
   ·exact h2 j k hj hk a4 c hc c a2 rfl
theorem splice_one {α:Type} {l:List α} {i:Nat} (h:i<l.length) (v:α):splice l i [v]=l.set i v:=by
 rw [List.set_eq_take_append_cons_drop,if_pos h];unfold splice;simp
theorem aStoreG_ok {t:TypeId} {p x:Operand} {b g k i j:Nat} (hop:o.op=.store t p x) (hp:evA σ p=.elt b g k i j) (hd:zdh B.n o=true) (h:aStoreG P o σ K t p x b g k i j):∃ fx,K fx∧Eff P B o fx.rd σ fx.wr:=by
 unfold aStoreG at h;split at h
 ·rename_i m r gr e e' k' gs hole hm hx a8;split at h
  ·rename_i e2 k2 es d1;obtain ⟨b2,h'⟩:=h.ok;clear h;simp only [yaq] at b2;obtain ⟨⟨⟨⟨⟨c1,c2⟩,c3⟩,c4⟩,c5⟩,c6⟩:=b2;have c1:=yaf c1;have c2:=yaf c2;have c3:=yaf c3;have c4:=yaf c4;have c5:=yaf c5;have a4:r≠b:=fun e=>by rw [e] at c6;simp at c6
   subst c1 c2 c3 c4 c5;obtain ⟨⟨hg,g5,h0,d5⟩,h⟩:=h'.out;have h:=h.out;refine ⟨_,h,fun σ' hag a w ⟨ρ,hs⟩ K' Q hK=>?_⟩;have d0:∀ x_1∈(opd p++opd x)++(.gen b::.knd b::[.ign b,.gen r,.knd r]),σ' x_1=σ x_1:=fun y hy=>hag y (by simpa using hy);obtain ⟨c8,hg',a7,b4⟩:=zdv d0;have e5:σ'.ig b=σ.ig b:=zio (b4 (.ign b) (by simp));have d9:σ'.gn r=σ.gn r:=zd7 (b4 (.gen r) (by simp));have a9:σ'.kd r=σ.kd r:=zpb (b4 (.knd r) (by simp));have h1:=za5 hs p;have h2:=za5 hs x;rw [zaj (zaq c8),hp] at h1;rw [zaj (za7 c8),hx] at h2;obtain ⟨us,d4,f9,b5,e0,c0,d6,e9⟩:=zwr hs (a7.trans a8);have b9:=hs.obs r;rw [a9.trans d1] at b9;have d7:zjp w (Imm B σ' ρ w) (ρ r) e2 k2 es:=b9;obtain ⟨g9,_,_,_,r4,_⟩:=b9;have a3:(ρ r).oneCell'=true:=row_one r4;have g6:(ρ r).cells=#[ρ r]:=by revert a3;cases ρ r<;>simp [Value.oneCell',Value.cells]
   rcases e0.2 with ⟨_,hn⟩ | ⟨q,e8,cur,e1,_,e3,f4,d2,b0,d8⟩
   ·omega
   have e7:a.eval p=.pointer (some ⟨q,i,none⟩):=by
    generalize a.eval p=v at h1;cases h1 with
    | elt _ _ _ _ _ _ _ _ hh =>
     obtain ⟨b',z,n,c,f1,f2⟩:=hh (hg'.trans hg);rw [e1] at f1;injection f1 with f1
     injection f1 with f1
     injection f1 with f1 f3
     rw [f2,f1,<- f3,yct,ybs,yae]
   have f8:a.eval x=ρ r:=by
    generalize a.eval x=v at h2;cases h2 with
    | osl _ _ _ _ _ hh=>exact hh (d9.trans g5)
   rw [yct] at b0 d8;have a5:=run_storeCells_at (P:=P) q i e [ρ r] 0 cur w e3 (by simp;omega) (by simpa using a3);simp only [ybs] at a5;have hz:=zh1 hm w
   have run:(execOp a.eval o).run P w=.ok .skip (w.setRow q (splice cur.toList i [ρ r]).toArray):=by
    simp only [execOp,hop,Instr.storeAt,e7,f8,Instr.sureAddr,storeVar,Sem.run_bind,Sem.run_pure,Result.andThen_ok,hz,g6];rw [if_neg (by simp),a5];rfl
   unfold Oper.wp;rw [run,Oper.upon_skip]
   let ρ2:Ly:=⟨ρ.root,fun o=>if o=b then (ρ.inn b).set i (ρ r) else ρ.inn o,fun o=>if o=b then ρ.ig b+1 else ρ.ig o⟩
   let τ:St:=app σ' [(.knd r,.kd .dead),(.ign b,.n (σ.ig b+1)),(.knd b,.kd (.grid e e2 k2 (gs.set i [.sl es]) none))]
   have a2:∀ o,τ.kd o=if o=b then .grid e e2 k2 (gs.set i [.sl es]) none else if o=r then .dead else σ'.kd o:=fun o=>by
    show (app σ' _).kd o=_;simp only [zca,zfy];rw [zfn,kd_ign,zfn]
   have c9:∀ o,τ.gn o=σ'.gn o:=fun o=>by
    show (app σ' _).gn o=_;simp only [zca,zfy];rw [zgu,gn_ign,zgu]
   have f7:∀ o,τ.ig o=if o=b then σ.ig b+1 else σ'.ig o:=fun o=>by
    show (app σ' _).ig o=_;simp only [zca,zfy];rw [zj7,ig_ign,zj7]
   have g4:∀ t,τ.av t=σ'.av t:=fun t=>by
    show (app σ' _).av t=_;simp only [zca,zfy];rw [zjq,av_ign,zjq]
   have g7:∀ o i,τ.ce o i=σ'.ce o i:=fun o i=>by
    show (app σ' _).ce o i=_;simp only [zca,zfy];rw [zka,ce_ign,zka]
   have b7:Owns σ' ρ b q:=.root (by unfold live;rw [a7.trans a8];exact fun z=>by cases z) (by rw [e1];rfl);have b6:live σ' r:=zky (a9.trans d1);have e6:∀ c,zbw (ρ r)=some c->c≠q:=fun c hc e=>a4 (hs.dis r b c (.root b6 hc) (e ▸ b7));have b3:∀ c,c≠q->(w.setRow q (splice cur.toList i [ρ r]).toArray).heap[c]?=w.heap[c]?:=fun c hc=>setRow_other w q c _ hc;have d3:∀ (j:Nat) u,(ρ.inn b)[j]?=some u->∀ c,zbw u=some c->c≠q:=fun j u hu c hc e=>(zqt d4 hu hc).1 (by rw [e1,e];rfl)
   obtain ⟨f6,_⟩:=hs.step (σ':=τ) (ρ':=ρ2) (w':=w.setRow q (splice cur.toList i [ρ r]).toArray) (fun o=>o=b∨o=r) g4
    (fun o ho=>⟨by rw [a2,if_neg (fun e=>ho (.inl e)),if_neg (fun e=>ho (.inr e))],c9 o,g7 o,rfl,by simp only [ρ2];rw [if_neg (fun e=>ho (.inl e))],by simp only [ρ2];rw [if_neg (fun e=>ho (.inl e))]⟩)
    (fun o ho=>by
     refine ⟨⟨by rw [c9];exact yao _,fun _=>rfl⟩,?_,fun e=>?_⟩
     ·show ρ.ig o<=(if o=b then ρ.ig b+1 else ρ.ig o)
      split
      ·rename_i e;rw [e];omega
      ·exact yao _
     ·have e:(if o=b then ρ.ig b+1 else ρ.ig o)=ρ.ig o:=e
      show (if o=b then (ρ.inn b).set i (ρ r) else ρ.inn o)=_
      split at e
      ·rename_i e2;rw [e2] at e;omega
      ·rename_i e2;rw [if_neg e2])
    (fun o=>by
     show (if o=b then ρ.ig b+1 else ρ.ig o)=_
     rw [f7]
     split
     ·rw [hs.igs,e5]
     ·exact hs.igs o)
    ⟨rfl,rfl,rfl,by simp,fun c hc hn=>b3 c fun e=>hn ⟨b,.inl rfl,e ▸ b7⟩⟩
    (fun o c ho hc=>by
     rcases ho with rfl | rfl
     ·unfold Owns at hc
      rw [a2,if_pos rfl] at hc
      have hc:c∈fpv (ρ o) (if o=o then (ρ.inn o).set i (ρ r) else ρ.inn o):=hc
      rw [if_pos rfl] at hc
      obtain ⟨u,hu,b8⟩:=ybw.1 hc
      rcases yau.1 hu with rfl | hu
      ·exact .inr ⟨o,.inl rfl,.root b7.lv b8⟩
      ·rcases ycb hu with hu | rfl
       ·obtain ⟨n,hn⟩:=ycn hu
        exact .inr ⟨o,.inl rfl,by unfold Owns;rw [a7.trans a8];exact fpk_inn hn b8⟩
       ·exact .inr ⟨r,.inr rfl,.root b6 b8⟩
     ·exact absurd (by rw [a2,if_neg a4,if_pos rfl]) hc.lv)
    (fun o p c ho hp g8 e4=>by
     rcases ho with rfl | rfl
     ·rcases hp with rfl | rfl
      ·rfl
      ·exact absurd (by rw [a2,if_neg a4,if_pos rfl]) e4.lv
     ·exact absurd (by rw [a2,if_neg a4,if_pos rfl]) g8.lv)
    fun hI _ o ho=>by
     by_cases c7:o=b
     ·subst c7;rw [a2,if_pos rfl];show zkr _ _ (ρ o) (if o=o then (ρ.inn o).set i (ρ r) else ρ.inn o) _ _ _ _ _;rw [if_pos rfl];refine ⟨fpv_set d4 fun c hc hm=>?_,by rw [ya2,ya2];exact f9,us.set i (ρ r),by rw [ya2];exact b5,?_,fun u hu=>?_,fun i' u hu=>.inr ?_⟩
      ·exact a4 (hs.dis r o c (.root b6 hc) (by unfold Owns;rw [a7.trans a8];exact hm))
      ·rw [ya2];refine ⟨by rw [ya2,d6,yct],.inr ⟨q,e8,_,e1,yak _,setRow_heap w q cur _ e _ e3,f4,d2,?_,?_⟩⟩
       ·rw [yb9,zd4 _ _ _ (by simp;omega),yct];simpa using b0
       ·rw [ydb,yct,zmf _ _ _ _ (by simp;omega) (by simp;omega),d8,splice_one (by omega)]
      ·rcases ycb hu with hu | rfl
       ·exact c0 u hu
       ·exact a3
      ·by_cases a6:i'=i
       ·subst a6;rw [ybl (by omega)] at hu;injection hu with hu
        subst hu;exact ⟨ybl (by omega),es,ybl (by omega),d7.mono (fun c hc=>b3 c (e6 c hc)) hI⟩
       ·rw [ybh (fun e=>a6 e.symm)] at hu
        obtain ⟨g1,f5,g2,g3⟩:=(e9 i' u hu).resolve_left fun hh=>by
         rw [hh.1] at d5;exact a6 d5
        exact ⟨by rw [ybh (fun e=>a6 e.symm)];exact g1,f5,by rw [ybh (fun e=>a6 e.symm)];exact g2,g3.mono (fun c hc=>b3 c (d3 i' u hu c hc)) hI⟩
     ·rw [a2,if_neg c7,if_pos (ho.resolve_left c7)];trivial
   refine hK _ _ ⟨ρ2,?_⟩;show SatR B (app σ' ([(.knd r,.kd .dead),(.ign b,.n (σ.ig b+1)),(.knd b,.kd (.grid e e2 k2 (gs.set i [.sl es]) none))]++wrT o.dst (.im (.val undef)))) _ _ _;rw [zay];exact f6.put (zkw hd) (zdp _)
  ·exact h.elim
 ·exact h.elim
theorem SatR.takeout {a:Act} {w:World} {ρ:Ly} (hs:SatR B σ a w ρ) {b d i k:Nat} {e e':TypeId} {gs es:List (List IV)} {u:Value} (hkd:σ.kd b=.grid e e' k gs none) (hdb:d≠b) (hu:(ρ.inn b)[i]?=some u) (hes:gs[i]?=some [.sl es]) :
  let ρ2:Ly:=⟨fun o=>if o=d then u else ρ o,fun o=>if o=b then (ρ.inn b).set i undef else ρ.inn o,fun o=>if o=b then ρ.ig b+1 else ρ.ig o⟩
  SatR B (app σ (zh7 σ b d i e e' k gs es)) a w ρ2∧∀ v x,RepI w (Imm B σ ρ w) v x->RepI w (Imm B (app σ (zh7 σ b d i e e' k gs es)) ρ2 w) v x:=by
 intro ρ2;obtain ⟨us,b5,d1,b2,b8,b4,d7,b9⟩:=zhf hs hkd;obtain ⟨d8,b0,a8,c6⟩:=b9 i u hu;have d6:b0=es:=by rw [hes] at a8;simpa using a8.symm
 subst d6
 let τ:St:=app σ (zh7 σ b d i e e' k gs b0)
 have a4:∀ o,τ.kd o=if o=d then .row e' k b0 else if o=b then .grid e e' k gs (some i) else σ.kd o:=fun o=>by
  show (app σ _).kd o=_;unfold zh7;simp only [zca,zfy];rw [zfn,kd_gen,zfn,kd_ign]
 have a9:∀ o,τ.gn o=if o=d then σ.gn d+1 else σ.gn o:=fun o=>by
  show (app σ _).gn o=_;unfold zh7;simp only [zca,zfy];rw [zgu,gn_gen,zgu,gn_ign]
 have c8:∀ o,τ.ig o=if o=b then σ.ig b+1 else σ.ig o:=fun o=>by
  show (app σ _).ig o=_;unfold zh7;simp only [zca,zfy];rw [zj7,ig_gen,zj7,ig_ign]
 have d2:∀ t,τ.av t=σ.av t:=fun t=>by
  show (app σ _).av t=_;unfold zh7;simp only [zca,zfy];rw [zjq,av_gen,zjq,av_ign]
 have d3:∀ o j,τ.ce o j=σ.ce o j:=fun o j=>by
  show (app σ _).ce o j=_;unfold zh7;simp only [zca,zfy];rw [zka,ce_gen,zka,ce_ign]
 have a7:zbw undef=none:=rfl
 have b3:∀ c,c∈fpv (ρ b) ((ρ.inn b).set i undef)->c∈fpv (ρ b) (ρ.inn b)∧zbw u≠some c:=fun c hc=>by
  obtain ⟨x,hx,a3⟩:=ybw.1 hc;rcases yau.1 hx with rfl | hx
  ·exact ⟨ybw.2 ⟨_,ycc ..,a3⟩,fun e=>(zqt b5 hu e).1 a3⟩
  ·obtain ⟨j,hj⟩:=ycn hx;rw [yc6] at hj;split at hj
   ·split at hj
    ·injection hj with hj
     rw [<- hj,a7] at a3;cases a3
    ·cases hj
   ·rename_i d0;exact ⟨ybw.2 ⟨x,yaw _ (zkH hj),a3⟩,fun e=>(zqt b5 hu e).2 j x (fun e=>d0 e.symm) hj a3⟩
 have d4:∀ c,c∈fpv (ρ b) (ρ.inn b)->Owns σ ρ b c:=fun c hc=>by unfold Owns;rw [hkd];exact hc
 have a6:∀ c,Owns τ ρ2 b c->c∈fpv (ρ b) ((ρ.inn b).set i undef):=fun c hc=>by
  unfold Owns at hc;rw [a4,if_neg hdb.symm,if_pos rfl] at hc;have hc:c∈fpv (if b=d then u else ρ b) (if b=b then (ρ.inn b).set i undef else ρ.inn b):=hc
  rwa [if_neg hdb.symm,if_pos rfl] at hc
 have a5:∀ c,Owns τ ρ2 d c->zbw u=some c:=fun c hc=>by
  unfold Owns at hc;rw [a4,if_pos rfl] at hc;have hc:c∈(zbw (if d=d then u else ρ d)).toList:=hc;rw [if_pos rfl] at hc;simpa using hc
 obtain ⟨c7,hI,_⟩:=hs.step (σ':=τ) (ρ':=ρ2) (w':=w) (fun o=>o=b∨o=d) d2
  (fun o ho=>⟨by rw [a4,if_neg (fun e=>ho (.inr e)),if_neg (fun e=>ho (.inl e))],by rw [a9,if_neg (fun e=>ho (.inr e))],d3 o,by simp only [ρ2];rw [if_neg (fun e=>ho (.inr e))],by simp only [ρ2];rw [if_neg (fun e=>ho (.inl e))],by simp only [ρ2];rw [if_neg (fun e=>ho (.inl e))]⟩)
  (fun o ho=>by
   refine ⟨⟨?_,fun e=>?_⟩,?_,fun e=>?_⟩
   ·rw [a9];split
    ·rename_i e;subst e;omega
    ·exact yao _
   ·rw [a9] at e
    by_cases a2:o=d
    ·subst a2;rw [if_pos rfl] at e;omega
    ·simp only [ρ2];rw [if_neg a2]
   ·show ρ.ig o<=(if o=b then ρ.ig b+1 else ρ.ig o)
    split
    ·rename_i e;rw [e];omega
    ·exact yao _
   ·have e:(if o=b then ρ.ig b+1 else ρ.ig o)=ρ.ig o:=e
    show (if o=b then (ρ.inn b).set i undef else ρ.inn o)=_
    split at e
    ·rename_i e2;rw [e2] at e;omega
    ·rename_i e2;rw [if_neg e2])
  (fun o=>by
   show (if o=b then ρ.ig b+1 else ρ.ig o)=_
   rw [c8]
   split
   ·rw [hs.igs]
   ·exact hs.igs o)
  (Belo.refl _ _ _)
  (fun o c ho hc=>by
   rcases ho with rfl | rfl
   ·exact .inr ⟨o,.inl rfl,d4 c (b3 c (a6 c hc)).1⟩
   ·exact .inr ⟨b,.inl rfl,by unfold Owns;rw [hkd];exact fpk_inn hu (a5 c hc)⟩)
  (fun o p c ho hp c0 b7=>by
   rcases ho with rfl | rfl
   ·rcases hp with rfl | rfl
    ·rfl
    ·exact absurd (a5 c b7) (b3 c (a6 c c0)).2
   ·rcases hp with rfl | rfl
    ·exact absurd (a5 c c0) (b3 c (a6 c b7)).2
    ·rfl)
  fun hI _ o ho=>by
   by_cases a2:o=d
   ·subst a2;rw [a4,if_pos rfl];show zjp _ _ (if o=o then u else ρ o) _ _ _;rw [if_pos rfl];exact c6.mono (fun _ _=>rfl) hI
   ·have b6:=ho.resolve_right a2;subst b6;rw [a4,if_neg a2,if_pos rfl];show zkr _ _ (if o=d then u else ρ o) (if o=o then (ρ.inn o).set i undef else ρ.inn o) _ _ _ _ _;rw [if_neg a2,if_pos rfl];refine ⟨fpv_set b5 (fun c hc=>by rw [a7] at hc;cases hc),by rw [ya2];exact d1,us,b2,b8,b4,fun j x hx=>?_⟩;rw [yc6] at hx;split at hx
    ·rename_i c9;split at hx
     ·injection hx with hx
      exact .inl ⟨by rw [c9],hx.symm⟩
     ·cases hx
    ·obtain ⟨g1,d5,g2,g3⟩:=b9 j x hx;exact .inr ⟨g1,d5,g2,g3.mono (fun _ _=>rfl) hI⟩
 exact ⟨c7,hI⟩
theorem aAppendS_ok {c:Call} {t:TypeId} {x y:Operand} {b g i:Nat} (hop:o.op=.call c) (hc:c.callee=.builtin .append) (hargs:c.args=#[x,y]) (hts:c.argTypes=#[t,t]) (hx:evA σ x=.sub b g i) (hd:zdh B.n o=true) (h:aAppendS P o σ K t x y b g i):∃ fx,K fx∧Eff P B o fx.rd σ fx.wr:=by
 unfold aAppendS at h;split at h
 ·rename_i d et e e' k' gs a7 f3 e7;have b6:=zee f3;split at h
  ·rename_i k by_ new hk e6 hy
   have c8:∀ (a:Act) w v' w',(Builtin.append_ #[t,t] o.type #[a.eval x,a.eval y]).run P w=.ok v' w'->(execOp a.eval o).run P w=.ok (.value v') w':=fun a w v' w' hv=>by
    simp [execOp,hop,resolve,hc,hargs,hts,invoke,builtin,hv]
   obtain ⟨b2,h'⟩:=h.ok;clear h;simp only [yaq] at b2;obtain ⟨⟨⟨⟨c1,c2⟩,c3⟩,c4⟩,c5⟩:=b2;have b8:=zey c1;have c9:e'=et:=yaf c2;have e2:k'=k:=yaf c3;have d5:d≠b:=fun e=>by rw [e] at c5;simp at c5
   subst c9 e2;obtain ⟨it,z,hi,hz,b3,a5,f5⟩:=zjt c4 hk e6;obtain ⟨es,⟨d0,d6,a3,a4⟩,h⟩:=h';have h:=h.out;refine ⟨_,h,fun σ' hag a w ⟨ρ,hs⟩ K' Q hK=>?_⟩;have ha:∀ z∈opd x++opd y,σ' z=σ z:=zaq hag;have b0:σ'.ig b=σ.ig b:=zio (za7 hag (.ign b) (by simp));have d2:σ'.kd b=σ.kd b:=zpb (za7 hag (.knd b) (by simp));have hg':σ'.gn d=σ.gn d:=zd7 (za7 hag (.gen d) (by simp));have h1:=za5 hs x;have h2:=za5 hs y;rw [zaj (zaq ha),hx] at h1
   have d4:fz σ' (evA σ' y)=some (.sl new,[]):=by
    rw [zaj (za7 ha)];exact zn2 hy fun l hl=>by simp [frd] at hl
   have h2:=zvu hs (bs':=[]) (by simp) h2 d4 (by simp)
   have e8:(ρ.inn b)[i]?=some (a.eval x):=by
    generalize a.eval x=v at h1;cases h1 with
    | sub _ _ _ _ _ _ hh=>exact hh ((hs.igs b).trans (b0.trans d0))
   obtain ⟨c0,d7⟩:=hs.takeout (d:=d) (d2.trans e7) d5 e8 d6;have e1:=d7 _ _ h2;obtain ⟨A,cp,news,hv,c6,b5,d3,a6,b9⟩:=zs7 e1 a3;have f4:=zbz a3
   have a8:(app σ' (zh7 σ' b d i e e' k' gs es)).kd d=.row e' k' es:=by
    unfold zh7;simp only [zca,zfy];rw [zfn,if_pos rfl]
   have ho:=c0.obs d;rw [a8] at ho;obtain ⟨us,_,e3,_,a2,d9,d8,e9⟩:=ho;simp only [if_pos] at a2;obtain ⟨v',w',c7,a9,b4,d1⟩:=zgv (P:=P) (w:=w) 0 t o.type e' it z k' by_ b6 hi hz b3 a5 f5 b8 (a.eval x) es.length us a2 A new.length cp news (by rw [c6,f4]) a6 b5 (by unfold maxLen;unfold za1 at a4;omega) a4.1 (yak _);unfold Oper.wp;rw [c8 a w v' w' (by rw [hv];exact c7),Oper.upon_value,a7];have e5:=c0.rowed (used:=some d) (d:=d) (fun q hq=>⟨d,rfl,.root (zky a8) (by simp only [if_pos];exact hq)⟩) b8 e3 a3 a4.2 a2 a9 b4 d1 d9 c6 d8 b5 e9 b9
   have b7:(app σ' (zh7 σ' b d i e e' k' gs es)).gn d=σ.gn d+1:=by
    unfold zh7;simp only [zca,zfy];rw [zgu,gn_gen,if_pos rfl,hg']
   have e4:zh7 σ' b d i e e' k' gs es=zh7 σ b d i e e' k' gs es:=by unfold zh7;rw [b0,hg']
   have e0:app σ' (zh7 σ b d i e e' k' gs es++((.knd d,.kd .dead)::([(.gen d,.n (σ.gn d+2)),(.knd d,.kd (.row e' k' (es++new)))]++[(.tmp d,.av (.osl d (σ.gn d+2)))])))=app (zf1 (app σ' (zh7 σ' b d i e e' k' gs es)) (some d) d (.row e' k' (es++new)) []) [(.tmp d,.av (.osl d ((app σ' (zh7 σ' b d i e e' k' gs es)).gn d+1)))]:=by
    rw [zay,<- e4,zca,zay];unfold zf1;rw [b7];rfl
   have fin:=ziu e5 (row_one a9) (zdi hd a7);rw [<- e0] at fin;exact hK _ _ ⟨_,fin⟩
  ·exact h.elim
 ·exact h.elim
theorem row_src {w:World} {S:Nat->Prop} {v:Value} {e:TypeId} {es:List (List IV)} {k:Nat} (h:zjp w S v e k es) :
  ∃ (A:Option Addr) (c:Nat) (us:List Value),v=.slice A es.length c∧us.length=es.flatten.length∧(∀ u∈us,u.oneCell'=true)∧es.length<=17592186044416 ∧
   (0<es.length->∃ b q,A=some ⟨b,q,none⟩∧∀ (j:Nat) u,us[j]?=some u->w.cell? ⟨b,q+j,none⟩=some u)∧∀ (i:Nat) u x,us[i]?=some u->es.flatten[i]?=some x->RepI w S u x:=by
 rcases yb4 es.length with h0 | h0
 ·obtain ⟨us,_,_,h3,h4,h5,h6,h7⟩:=h;have he:es=[]:=yav h0;subst he;rcases h4.2 with ⟨e1,_⟩ | ⟨q,a3,cur,e1,_⟩
  ·exact ⟨none,0,us,e1,h5,h6,h3,fun h=>absurd h (by simp),h7⟩
  ·exact ⟨_,a3,us,e1,h5,h6,h3,fun h=>absurd h (by simp),h7⟩
 ·have h':=h;obtain ⟨_,_,_,h3,_⟩:=h';obtain ⟨q,a3,cur,us,e1,_,_,_,_,_,_,_,_,e7,e8,e9,a2⟩:=h.form h0;exact ⟨_,a3,us,e1,e7,e8,h3,fun _=>⟨q,0,rfl,fun j u hu=>by rw [yae];exact zsw a2 e1 hu⟩,e9⟩
theorem aAppendT_ok {c:Call} {t:TypeId} {x y:Operand} {b g i b2 g2 j:Nat} (hop:o.op=.call c) (hc:c.callee=.builtin .append) (hargs:c.args=#[x,y]) (hts:c.argTypes=#[t,t]) (hx:evA σ x=.sub b g i) (hy0:evA σ y=.sub b2 g2 j) (hd:zdh B.n o=true) (h:aAppendT P o σ K t x y b g i b2 g2 j):∃ fx,K fx∧Eff P B o fx.rd σ fx.wr:=by
 unfold aAppendT at h;split at h
 ·rename_i d et e e' k' gs a8 g3 d4;have c7:=zee g3;split at h
  ·rename_i k by_ hk f8
   have d5:∀ (a:Act) w v' w',(Builtin.append_ #[t,t] o.type #[a.eval x,a.eval y]).run P w=.ok v' w'->(execOp a.eval o).run P w=.ok (.value v') w':=fun a w v' w' hv=>by
    simp [execOp,hop,resolve,hc,hargs,hts,invoke,builtin,hv]
   obtain ⟨b5,h'⟩:=h.ok;clear h;simp only [yaq] at b5;obtain ⟨⟨⟨⟨⟨c1,c2⟩,c3⟩,c4⟩,c5⟩,c6⟩:=b5;have e2:b=b2:=(yaf c6).symm;have c9:=zey c1;have d6:e'=et:=yaf c2;have f3:k'=k:=yaf c3;have e3:d≠b:=fun e=>by rw [e] at c5;simp at c5
   subst d6 f3 e2;obtain ⟨it,z,hi,hz,b7,a6,g5⟩:=zjt c4 hk f8;obtain ⟨es,new,⟨d8,d7,g7,e4,f4,a4⟩,h⟩:=h';have h:=h.out;refine ⟨_,h,fun σ' hag a w ⟨ρ,hs⟩ K' Q hK=>?_⟩;have ha:∀ z∈opd x++opd y,σ' z=σ z:=zaq hag;have a5:σ'.ig b=σ.ig b:=zio (za7 hag (.ign b) (by simp));have b9:σ'.kd b=σ.kd b:=zpb (za7 hag (.knd b) (by simp));have hg':σ'.gn d=σ.gn d:=zd7 (za7 hag (.gen d) (by simp));have h1:=za5 hs x;have h2:=za5 hs y;rw [zaj (zaq ha),hx] at h1;rw [zaj (za7 ha),hy0] at h2
   have f9:(ρ.inn b)[i]?=some (a.eval x):=by
    generalize a.eval x=v at h1;cases h1 with
    | sub _ _ _ _ _ _ hh=>exact hh ((hs.igs b).trans (a5.trans d8))
   have e0:(ρ.inn b)[j]?=some (a.eval y):=by
    generalize a.eval y=v at h2;cases h2 with
    | sub _ _ _ _ _ _ hh=>exact hh ((hs.igs b).trans (a5.trans d7))
   obtain ⟨_,_,_,_,_,_,_,e7⟩:=zhf hs (b9.trans d4);obtain ⟨_,g6,a2,b3⟩:=e7 j _ e0;rw [f4] at a2;injection a2 with a2
   injection a2 with a2 _
   injection a2 with a2
   subst a2
   have a9:∀ e∈new,e.length=k':=by
    obtain ⟨_,_,q,_⟩:=b3;exact q
   obtain ⟨d1,e5⟩:=hs.takeout (d:=d) (b9.trans d4) e3 f9 e4;obtain ⟨A,cp,news,hv,d2,c0,e1,a7,b6⟩:=row_src b3;have d0:∀ (i:Nat) u x,news[i]?=some u->new.flatten[i]?=some x->RepI w _ u x:=fun i u x h1 h2=>e5 _ _ (b6 i u x h1 h2);have g4:=zbz a9
   have b0:(app σ' (zh7 σ' b d i e e' k' gs es)).kd d=.row e' k' es:=by
    unfold zh7;simp only [zca,zfy];rw [zfn,if_pos rfl]
   have ho:=d1.obs d;rw [b0] at ho;obtain ⟨us,_,f5,_,a3,e8,e6,g1⟩:=ho;simp only [if_pos] at a3;obtain ⟨v',w',d3,b4,b8,d9⟩:=zgv (P:=P) (w:=w) 0 t o.type e' it z k' by_ c7 hi hz b7 a6 g5 c9 (a.eval x) es.length us a3 A new.length cp news (by rw [d2,g4]) a7 c0 (by unfold maxLen;unfold za1 at a4;omega) a4.1 (yak _);unfold Oper.wp;rw [d5 a w v' w' (by rw [hv];exact d3),Oper.upon_value,a8];have f7:=d1.rowed (used:=some d) (d:=d) (fun q hq=>⟨d,rfl,.root (zky b0) (by simp only [if_pos];exact hq)⟩) c9 f5 a9 a4.2 a3 b4 b8 d9 e8 d2 e6 c0 g1 d0
   have c8:(app σ' (zh7 σ' b d i e e' k' gs es)).gn d=σ.gn d+1:=by
    unfold zh7;simp only [zca,zfy];rw [zgu,gn_gen,if_pos rfl,hg']
   have f6:zh7 σ' b d i e e' k' gs es=zh7 σ b d i e e' k' gs es:=by unfold zh7;rw [a5,hg']
   have e9:app σ' (zh7 σ b d i e e' k' gs es++((.knd d,.kd .dead)::([(.gen d,.n (σ.gn d+2)),(.knd d,.kd (.row e' k' (es++new)))]++[(.tmp d,.av (.osl d (σ.gn d+2)))])))=app (zf1 (app σ' (zh7 σ' b d i e e' k' gs es)) (some d) d (.row e' k' (es++new)) []) [(.tmp d,.av (.osl d ((app σ' (zh7 σ' b d i e e' k' gs es)).gn d+1)))]:=by
    rw [zay,<- f6,zca,zay];unfold zf1;rw [c8];rfl
   have fin:=ziu f7 (row_one b4) (zdi hd a8);rw [<- e9] at fin;exact hK _ _ ⟨_,fin⟩
  ·exact h.elim
 ·exact h.elim
theorem aMoves_ok {own:List Nat} {x:Operand} (hop:o.op=.move x∨o.op=.assign x) (hd:zdh B.n o=true) (h:aMoves own o σ K x):∃ fx,K fx∧Eff P B o fx.rd σ fx.wr:=by
 have a3:=aMove_ok (P:=P) (B:=B) (σ:=σ) hop hd;unfold aMoves at h;split at h
 ·rename_i d a2;split at h
  ·split at h
   ·rename_i y bs a8;obtain ⟨a5,h⟩:=h.out;refine ⟨_,h,fun σ' hag a w ⟨ρ,hs⟩ K' Q hK=>?_⟩;have a4:zdy σ σ' bs:=za7 hag
    have a7:∀ p∈bs,σ'.gn p.1=p.2:=fun p hp=>by
     rw [<- a5 p hp];exact zd7 (a4 (.gen p.1) (by unfold frd;exact ybv.2 ⟨p,hp,by simp⟩))
    have h1:=za5 hs x;have hf:=zvu hs (bs':=bs) a7 h1 (by rw [zaj (zaq hag)];exact zn2 a8 a4) fun _ h=>h;obtain ⟨a6,_⟩:=hs.kills bs;have run:(execOp a.eval o).run P w=.ok (.value (a.eval x)) w:=by rcases hop with e | e<;>simp [execOp,e]
    unfold Oper.wp;rw [run,Oper.upon_value,a2];refine hK _ _ ⟨ρ,?_⟩;show SatR B (app σ' (fwr bs++[(.tmp d,.av (.im y))])) _ _ _;rw [zay];exact a6.put (d:=some d) (fun t e=>by injection e with e;subst e;exact zdi hd a2) (.im _ _ hf)
   ·exact h.elim
  ·exact ⟨_,h,by rw [a2] at a3;exact a3⟩
 ·rename_i a2;exact ⟨_,h,by rw [a2] at a3;exact a3⟩
theorem zsf {a:Act} {w:World} {ρ:Ly} {S:Nat->Prop} {γ:Nat->Nat} {d:Nat} {us vs:List Value}:∀ (fs:List Field) (i:Nat) (xs ys:List AV) (r:Bool),fs.length=xs.length->intFs P i fs=true->eqCs xs ys=some r ->
  (∀ (j:Nat) x,xs[j]?=some x->∃ u,us[i+j]?=some u∧RepA w S ρ γ u x)->(∀ (j:Nat) x,ys[j]?=some x->∃ u,vs[i+j]?=some u∧RepA w S ρ γ u x)->(Op.eqFields (d+1) us.toArray vs.toArray fs).run P w=.ok r w
 | [],i,xs,ys,r,hl,_,he,_,_=>by
  have hx:xs=[]:=yav hl.symm;subst hx;cases ys with
  | nil =>
   simp only [eqCs,zkF] at he;subst he;simp [Op.eqFields]
  | cons y ys=>simp [eqCs] at he
 | f::fs,i,[],ys,r,hl,_,_,_,_=>by simp at hl
 | f::fs,i,x::xs,[],r,_,_,he,_,_=>by simp [eqCs] at he
 | f::fs,i,x::xs,y::ys,r,hl,hF,he,hx,hy=>by
  simp only [eqCs] at he;split at he
  ·rename_i k n k' m r' ex ey er;split at he
   ·rename_i hk;have hk:=of_decide_eq_true hk;subst hk;injection he with he
    subst he;simp only [intFs,intF,yaq,decide_eq_true_eq] at hF;obtain ⟨⟨⟨hname,hoff⟩,hty⟩,hF⟩:=hF;have hoff:=yaf hoff
    obtain ⟨k0,hu⟩:∃ k0,P.underlying f.type=some (.int k0):=by
     split at hty
     ·exact ⟨_,by assumption⟩
     ·cases hty
    have hp:P.plainKey f.type=true:=by unfold Program.plainKey;rw [hu]
    obtain ⟨u,a2,a5⟩:=hx 0 x rfl;obtain ⟨v,a3,a4⟩:=hy 0 y rfl;rw [ybs] at a2 a3;have e1:=zc1 ex a5;have e2:=zc1 ey a4;subst e1 e2;have p1:=run_part_plain (P:=P) w hp (xs:=us.toArray) (off:=f.offset) (v:=.int k n) (by rw [hoff];simpa using a2);have p2:=run_part_plain (P:=P) w hp (xs:=vs.toArray) (off:=f.offset) (v:=.int k m) (by rw [hoff];simpa using a3);have p3:=run_equalIn_int (P:=P) w d f.type k k0 n m hu
    have ih:=zsf (a:=a) (d:=d) fs (i+1) xs ys r' (by simpa using hl) hF er (fun j z hz=>by
     have:=hx (j+1) z (by simpa using hz)
     rwa [show i+(j+1)=i+1+j by omega] at this) (fun j z hz=>by
     have:=hy (j+1) z (by simpa using hz)
     rwa [show i+(j+1)=i+1+j by omega] at this)
    simp only [Op.eqFields,if_pos hname,Sem.run_bind,p1,p2,p3,Result.andThen_ok];by_cases h:n=m
    ·subst h;simp [ih]
    ·have:(n==m)=false:=by simpa using h
     simp [this,h]
   ·cases he
  ·cases he
theorem aBinS_ok {op:BinOp} {t z:TypeId} {x y:Operand} (hop:o.op=.binOp op t x y z) (hd:zdh B.n o=true) (h:aBinS P o σ K op t x y):∃ fx,K fx∧Eff P B o fx.rd σ fx.wr:=by
 unfold aBinS at h;split at h
 ·rename_i xs ys hx hy;split at h
  ·rename_i r hr;obtain ⟨hT,h⟩:=h.out
   obtain ⟨fs,hu,a5,hF,a7,a4⟩:∃ fs,P.underlying t=some (.struct fs)∧fs.toList.length=xs.length∧intFs P 0 fs.toList=true∧P.stoodInHeld t=false∧P.eqGuardType P.depth t=false:=by
    unfold eqT at hT;split at hT
    ·rename_i fs hu;simp only [yaq,yc5] at hT;exact ⟨fs,hu,yaf hT.1.1.1,hT.1.1.2,hT.1.2,hT.2⟩
    ·cases hT
   have a6:P.fieldsOf t=fs:=by unfold Program.fieldsOf;rw [hu]
   have a3:∀ σ' (a:Act) w ρ,SatR B σ' a w ρ->(∀ l∈opd x++opd y,σ' l=σ l)->∃ us vs:List Value,a.eval x=.agg us.toArray∧a.eval y=.agg vs.toArray∧(Op.equalIn 10000 t (.agg us.toArray) (.agg vs.toArray)).run P w=.ok r w:=fun σ' a w ρ hs hag=>by
    have g1:=za5 hs x;have g2:=za5 hs y;rw [zaj (zaq hag)] at g1;rw [zaj (za7 hag)] at g2;obtain ⟨us,e1,r1,_⟩:=znz hx g1;obtain ⟨vs,e2,r2,_⟩:=znz hy g2;refine ⟨us,vs,e1,e2,?_⟩;rw [run_equalIn_agg w 9999 t _ _ (by rw [a6];exact hu) a7,a6]
    have get:∀ {us:List Value} {xs:List AV},Reps w (Imm B σ' ρ w) ρ σ'.gn us xs->∀ (j:Nat) x,xs[j]?=some x->∃ u,us[0+j]?=some u∧RepA w (Imm B σ' ρ w) ρ σ'.gn u x:=fun {us xs} hr j x hx=>by
     have hj:=(zkI.1 hx).1;rw [<- hr.1] at hj;exact ⟨us[j],by rw [yae];exact zkM hj,hr.2 j _ x (zkM hj) hx⟩
    exact zsf (a:=a) (d:=9998) fs.toList 0 xs ys r a5 hF hr (get r1) (get r2)
   split at h
   ·have h:=h.out;refine ⟨_,h,Eff.pure hd fun σ' hag a w ρ hs=>⟨.bool r,?_,zdp _⟩⟩;obtain ⟨us,vs,e1,e2,a2⟩:=a3 σ' a w ρ hs hag;simp only [execOp,hop,e1,e2,Sem.run_bind,run_eqGuard_agg w _ t x y _ _ a4,Result.andThen_ok,run_eql_struct,a2,Sem.run_pure]
   ·have h:=h.out;refine ⟨_,h,Eff.pure hd fun σ' hag a w ρ hs=>⟨.bool (!r),?_,zdp _⟩⟩;obtain ⟨us,vs,e1,e2,a2⟩:=a3 σ' a w ρ hs hag;simp only [execOp,hop,e1,e2,Sem.run_bind,run_eqGuard_agg w _ t x y _ _ a4,Result.andThen_ok,run_neq_struct,a2,Sem.run_pure]
   ·exact h.elim
  ·exact h.elim
 ·exact h.elim
end
end
section
section
variable {P:Program} {B:Base} {o:Oper} {σ:St} {K:Fx->Prop}
theorem zr7 {σ':St} {a:Act} {w:World} {ρ:Ly} (h:SatR B σ' a w ρ) {bs':yad} (hgk:∀ p∈bs',σ'.gn p.1=p.2):∀ {l:List (Nat×Operand)} {i:Nat} {vs:List IV} {bs:yad},zuc σ i l=some (vs,bs)->(∀ y∈opdL (l.map (·.2)),σ' y=σ y)->zdy σ σ' bs->(∀ b∈bs,b∈bs') ->
  (l.map fun p=>(p.1,a.eval p.2))=(((l.map fun p=>a.eval p.2).zipIdx i).map fun x=>(x.2,x.1))∧zkn w (Imm B (app σ' (fwr bs')) ρ w) (l.map fun p=>a.eval p.2) vs
 | [],i,vs,bs,e,_,_,_=>by
  simp only [zuc,zkF,zkG] at e;rw [<- e.1];exact ⟨rfl,rfl,fun i u x hu=>by simp at hu⟩
 | (j,x)::l,i,vs,bs,e,hag,hsame,hs=>by
  simp only [zuc] at e;split at e
  ·rename_i hij;subst hij;split at e
   ·rename_i v b1 vs1 bs1 h1 h2;simp only [zkF,zkG] at e;obtain ⟨rfl,rfl⟩:=e;have hx:evA σ' x=evA σ x:=zaj fun y hy=>hag y (by simp only [yar,opdL,ya5];exact yan _ hy);have r1:=zvu h hgk (za5 h x) (x:=v) (bs:=b1) (by rw [hx];exact zn2 h1 hsame.left) fun b hb=>hs b (yan _ hb);obtain ⟨r2,r3⟩:=zr7 h hgk h2 (fun y hy=>hag y (by simp only [yar,opdL,ya5];exact yai _ hy)) hsame.right fun b hb=>hs b (yai _ hb);refine ⟨by rw [yar,r2];rfl,by simpa using r3.1,fun n u y hu hy=>?_⟩;cases n with
    | zero=>simp at hu hy;rw [<- hu,<- hy];exact r1
    | succ n=>exact r3.2 n u y (by simpa using hu) (by simpa using hy)
   ·cases e
  ·cases e
theorem cellsI_rep {w:World} {S:Nat->Prop} {v:Value} {x:IV} (h:RepI w S v x) (h0:0<(zha x).length):zkn w S v.cells.toList (zha x)∧∀ u∈v.cells.toList,u.oneCell'=true:=by
 have one:v.oneCell'=true->zha x=[x]->zkn w S v.cells.toList (zha x)∧∀ u∈v.cells.toList,u.oneCell'=true:=fun h1 hx=>by
  have:v.cells=#[v]:=by revert h1;cases v<;>simp [Value.oneCell',Value.cells]
  rw [this,hx];refine ⟨⟨rfl,fun i u y hu hy=>?_⟩,fun u hu=>by simp at hu;rw [hu];exact h1⟩;cases i with
  | zero=>simp at hu hy;rw [<- hu,<- hy];exact h
  | succ i=>simp at hu
 have h':=h;cases h' with
 | val _ =>
  simp only [zha] at h0;split at h0
  ·rename_i h1;exact one h1 (by simp only [zha];rw [if_pos h1])
  ·simp at h0
 | any _=>simp [zha] at h0
 | ex _ h1=>exact one h1 rfl
 | emp _ _=>exact one rfl rfl
 | sl _ _ _ _ _ _ _ _ _ _ _ _ _ _ _ _=>exact one rfl rfl
 | agg us cs hl h1 hr=>exact ⟨⟨by simpa [Value.cells,zha] using hl,fun i u y hu hy=>hr i u y (by simpa [Value.cells] using hu) hy⟩,fun u hu=>h1 u (by simpa [Value.cells] using hu)⟩
 | ref _ _ _ _ _ _ _ _ _=>exact one rfl rfl
 | fn _ _ _ _ _=>exact one rfl rfl
 | nsl _ _ _ _ _=>exact one rfl rfl
theorem flat_reps {w:World} {S:Nat->Prop} {k:Nat} (hk0:0<k):∀ {us:List Value} {vs:List IV},zkn w S us vs->(∀ v∈vs,(zha v).length=k) ->
  (∀ u∈us,u.cells.size=k)∧zkn w S (us.flatMap fun u=>u.cells.toList) (vs.map zha).flatten∧∀ u∈us.flatMap fun u=>u.cells.toList,u.oneCell'=true
 | [],[],_,_=>⟨by simp,⟨rfl,by simp⟩,by simp⟩
 | u::us,v::vs,h,hk=>by
  obtain ⟨r1,r2⟩:=cellsI_rep (h.2 0 u v rfl rfl) (by rw [hk v (by simp)];exact hk0);obtain ⟨r3,r4,r5⟩:=flat_reps hk0 (us:=us) (vs:=vs) ⟨by simpa using h.1,fun i u x hu hx=>h.2 (i+1) u x (by simpa using hu) (by simpa using hx)⟩ fun v hv=>hk v (by simp [hv]);have hl:u.cells.toList.length=k:=by rw [r1.1,hk v (by simp)]
  refine ⟨fun x hx=>?_,⟨by simp only [ya5,yar,ybc,zkJ,r1.1,r4.1],fun i x y hx hy=>?_⟩,fun x hx=>?_⟩
  ·rcases yau.1 hx with rfl | hx
   ·simpa using hl
   ·exact r3 x hx
  ·rw [ya5,yat] at hx;rw [yar,ybc,yat] at hy;rw [r1.1] at hx;split at hx
   ·rename_i a2;rw [if_pos a2] at hy;exact r1.2 i x y hx hy
   ·rename_i a2;rw [if_neg a2] at hy;exact r4.2 _ x y hx hy
  ·rw [ya5] at hx;rcases yap.1 hx with hx | hx
   ·exact r2 x hx
   ·exact r5 x hx
 | [],_::_,h,_=>by have:=h.1;simp at this
 | _::_,[],h,_=>by have:=h.1;simp at this
theorem zle {t et len k:Nat} {w:World} {parts:Array (Nat×Value)} {us:List Value} (hu:P.underlying t=some (.slice et)) (hk:szOf P et=some k) (hz:zOk P et k=true) (hb:∃ b,byteOf P et=some b) (hk0:0<k) (hsm:len*k<=65536) (hl:us.length=len) (hp:parts.toList=(us.zipIdx 0).map fun x=>(x.2,x.1)) (hus:∀ u∈us,u.cells.size=k) :
  (Instr.buildSlice t len parts).run P w=.ok (.slice (some ⟨w.heap.size,0,none⟩) len len) (w.alloc (.cells (us.flatMap fun u=>u.cells.toList).toArray et)):=by
 obtain ⟨b,hb⟩:=hb;obtain ⟨i,z,hi,a5,a4,_,a6⟩:=zjt hz hk hb
 have a2:∀ cells:Array Value,cells.size=len*k->Instr.fill (fun j=>some (j*k,k)) cells parts.toList=some (us.flatMap fun u=>u.cells.toList).toArray:=fun cells hc=>by
  rw [hp];exact Great.fill_whole hk0 us cells hus (by rw [hl,hc])
 by_cases h0:len*k=0
 ·have hf:=a2 ((Array.range (len*k)).map ((#[]:Array Value)[·%(#[]:Array Value).size]!)) (by simp);have a3:¬ len*k > 2^24:=by omega
  simp [Instr.buildSlice,run_underlying hu,zh1 hk,a3,h0,newRow];simp [h0] at hf;rw [hf];simp
 ·have:=run_buildSlice (P:=P) w t et len parts (us.flatMap fun u=>u.cells.toList).toArray i z hu hi a5 (by rw [a4];omega) (by rw [a4];exact h0) (by rw [a4];exact a2 _ (by simp));exact this
theorem zv9 {own:List Nat} {t:TypeId} {len:Nat} {parts:Array (Nat×Operand)} (hop:o.op=.buildSlice t len parts) (hd:zdh B.n o=true) (hbyt:∀ et,zhg P t=some et->∃ b,byteOf P et=some b) (h:zmm P own o σ K t len parts):∃ fx,K fx∧Eff P B o fx.rd σ fx.wr:=by
 unfold zmm at h;split at h
 ·rename_i d et a2 b8;have b9:=zee b8;split at h
  ·rename_i k vs bs hk b2;obtain ⟨b3,h⟩:=h.ok;simp only [yaq] at b3;obtain ⟨⟨⟨⟨c1,c2⟩,c3⟩,c4⟩,c5⟩:=b3;have a6:vs.length=len:=by simpa using c1
   have c0:=zho c2;have b0:=zey c3;have b4:∀ v∈vs,(zha v).length=k:=fun v hv=>by simpa using ya9.1 c5 v hv
   obtain ⟨b7,h⟩:=h.out
   have zfe:∀ σ' a w ρ,SatR B σ' a w ρ->(∀ y∈opdL (parts.toList.map (·.2)),σ' y=σ y)->zdy σ σ' bs->∃ us:List Value,(execOp a.eval o).run P w=.ok (.value (.slice (some ⟨w.heap.size,0,none⟩) len len)) (w.alloc (.cells us.toArray et)) ∧
     us.length=len*k∧zkn w (Imm B (app σ' (fwr bs)) ρ w) us (vs.map zha).flatten∧(∀ u∈us,u.oneCell'=true):=fun σ' a w ρ hs hag1 hsame=>by
    have c8:∀ p∈bs,σ'.gn p.1=p.2:=fun p hp=>by
     rw [<- b7 p hp];exact zd7 (hsame (.gen p.1) (by unfold frd;exact ybv.2 ⟨p,hp,by simp⟩))
    obtain ⟨r1,r2⟩:=zr7 hs c8 b2 hag1 hsame (fun _ h=>h);obtain ⟨r3,r4,r5⟩:=flat_reps b0 r2 b4;have c6:=zle (P:=P) (w:=w) (parts:=parts.map fun p=>(p.1,a.eval p.2)) b9 hk c4 (hbyt et b8) b0 c0 (by rw [r2.1,a6]) (by rw [yb8];exact r1) r3;refine ⟨_,?_,?_,r4,r5⟩
    ·simp only [execOp,hop,Sem.run_bind,c6,Result.andThen_ok,Sem.run_pure]
    ·rw [r4.1,zbz (k:=k) (fun x hx=>by obtain ⟨v,hv,rfl⟩:=yag.1 hx;exact b4 v hv),zkK,a6]
   have a5:∀ x∈vs.map zha,x.length=k:=fun x hx=>by obtain ⟨v,hv,rfl⟩:=yag.1 hx;exact b4 v hv
   have c9:len<=65536:=yce (Nat.le_mul_of_pos_right len b0) c0;split at h
   ·refine ⟨_,h,fun σ' hag a w ⟨ρ,hs⟩ K' Q hK=>?_⟩;obtain ⟨us,run,a8,a4,a7⟩:=zfe σ' a w ρ hs (zaq (zaq hag)) (za7 (zaq hag));obtain ⟨a3,_⟩:=hs.kills bs;unfold Oper.wp;rw [run,Oper.upon_value,a2];refine hK _ _ ⟨setρ ρ d (.slice (some ⟨w.heap.size,0,none⟩) len len),?_⟩
    have hg:(app σ' (fwr bs)).gn d=σ.gn d:=by
     rw [zos];exact zd7 (za7 hag (.gen d) (by simp))
    have m:zsd (app σ' (fwr bs)) w (w.alloc (.cells us.toArray et)) ρ none (.slice (some ⟨w.heap.size,0,none⟩) len len) none :=
     ⟨World.grownBy_alloc w _ none,(fun b e=>by cases e),fun b e=>.inr (by simp only [zbw,zkF] at e;omega)⟩
    have c7:=a3.new (d:=d) (k:=.row et k (vs.map zha)) (cs:=[]) m rfl fun hI _=>by
     refine ⟨us,b0,a5,by rw [zkK,a6];omega,?_,a4.1,a7,fun i u x hu hx=>hI _ _ (a4.2 i u x hu hx)⟩;simp only [setρ,if_pos,zkK,a6];exact ⟨a8,.inr ⟨w.heap.size,len,us.toArray,rfl,yak _,heap_alloc_new w _,yao _,by unfold maxLen;omega,by simpa using a8,by rw [<- a8];simp⟩⟩
    show SatR B (app σ' (fwr bs++(zew σ d (.row et k (vs.map zha))++[(.tmp d,.av (.osl d (σ.gn d+1)))]))) _ _ _;rw [zay];have:=zm6 (σ:=σ) (σ':=app σ' (fwr bs)) (k:=.row et k (vs.map zha)) (cs:=[]) (v:=.osl d (σ.gn d+1)) hg;simp only [zgw,ybk] at this;rw [this,<- hg];exact zl5 c7 rfl (zdi hd a2)
   ·split at h
    ·refine ⟨_,h,fun σ' hag a w ⟨ρ,hs⟩ K' Q hK=>?_⟩;obtain ⟨us,run,a8,a4,a7⟩:=zfe σ' a w ρ hs (zaq hag) (za7 hag);obtain ⟨a3,_⟩:=hs.kills bs;unfold Oper.wp;rw [run,Oper.upon_value,a2];have a9:Below w.heap.size w (w.alloc (.cells us.toArray et)):=(Below.refl _ _).alloc (yao _) _;obtain ⟨b5,hI⟩:=a3.world a9;refine hK _ _ ⟨ρ,?_⟩;show SatR B (app σ' (fwr bs++[(.tmp d,.av (.im (.nsl (vs.map zha))))])) _ _ _;rw [zay];refine b5.put (d:=some d) (fun t e=>by injection e with e;subst e;exact zdi hd a2) (.im _ _ ?_);refine .nsl _ _ _ _ (.sl w.heap.size 0 len k len _ us (by rw [zkK,a6]) a5 (yao _) (by omega) ⟨.inr (.inl hs.bel.size),by simp,fun p b6=>?_,fun hz=>?_⟩ a4.1 a7 (fun i u hu=>?_) fun i u x hu hx=>hI _ _ (a4.2 i u x hu hx))
     ·have:=(a3.own p _ b6).2;omega
     ·have:=(a3.res _ hz).1.2;omega
     ·rw [yae];unfold World.cell?;simp only [heap_alloc_new];simpa using hu
    ·refine ⟨_,h,fun σ' hag a w ⟨ρ,hs⟩ K' Q hK=>?_⟩;obtain ⟨us,run,a8,a4,a7⟩:=zfe σ' a w ρ hs (zaq hag) (za7 hag);obtain ⟨a3,_⟩:=hs.kills bs;unfold Oper.wp;rw [run,Oper.upon_value,a2];have a9:Below w.heap.size w (w.alloc (.cells us.toArray et)):=(Below.refl _ _).alloc (yao _) _;obtain ⟨b5,hI⟩:=a3.world a9;refine hK _ _ ⟨ρ,?_⟩;show SatR B (app σ' (fwr bs++[(.tmp d,.av (.im (.sl (vs.map zha))))])) _ _ _;rw [zay];refine b5.put (d:=some d) (fun t e=>by injection e with e;subst e;exact zdi hd a2) (.im _ _ ?_);refine .sl w.heap.size 0 len k len _ us (by rw [zkK,a6]) a5 (yao _) (by omega) ⟨.inr (.inl hs.bel.size),by simp,fun p b6=>?_,fun hz=>?_⟩ a4.1 a7 (fun i u hu=>?_) fun i u x hu hx=>hI _ _ (a4.2 i u x hu hx)
     ·have:=(a3.own p _ b6).2;omega
     ·have:=(a3.res _ hz).1.2;omega
     ·rw [yae];unfold World.cell?;simp only [heap_alloc_new];simpa using hu
  ·exact h.elim
 ·exact h.elim
end
end
section
section
variable {P:Program} {B:Base} {o:Oper} {σ:St} {K:Fx->Prop}
theorem zlh {v:Value} (h1:v.oneCell'=true):v.cells=#[v]:=by revert h1;cases v<;>simp [Value.oneCell',Value.cells]
theorem zti {a:Act} {w w':World} {ρ:Ly} (hs:SatR B σ a w ρ) {q:Option Nat} (hg:w.grownBy w' q) (hq:∀ b,q=some b->∃ o,Owns σ ρ o b):∀ u x,RepI w (Imm B σ ρ w) u x->RepI w' (Imm B σ ρ w) u x:=fun u x h =>
 h.mono (fun _ hb=>hb) fun p v hb hc=>by
  rw [World.cell?_of_block (hg.block p.block hb.2.1 fun e=>by
   obtain ⟨o,ho⟩:=hq p.block e.symm
   exact hb.2.2.1 o ho)]
  exact hc
theorem aBuildG_ok {t:TypeId} {len:Nat} {parts:Array (Nat×Operand)} (hop:o.op=.buildSlice t len parts) (hd:zdh B.n o=true) (hbyt:∀ et,zhg P t=some et->∃ b,byteOf P et=some b) (h:aBuildG P o σ K t len parts):∃ fx,K fx∧Eff P B o fx.rd σ fx.wr:=by
 unfold aBuildG at h;split at h
 ·rename_i d et x a6 b6 a5;have b7:=zee b6;split at h
  ·rename_i k r gr hk hx;split at h
   ·rename_i e' k' es c8;obtain ⟨a8,h'⟩:=h.ok;clear h;simp only [yaq] at a8;obtain ⟨⟨c1,c2⟩,c3⟩:=a8;have c1:=yaf c1;have c2:=yaf c2;subst c1 c2;obtain ⟨b5,h⟩:=h'.out;have h:=h.out;refine ⟨_,h,fun σ' hag a w ⟨ρ,hs⟩ K' Q hK=>?_⟩;have b9:=zaq (zaq hag);have b0:zdy σ σ' [(r,gr)]:=za7 (zaq hag);have a7:=za7 hag;obtain ⟨b3,a4,_⟩:=b0.mem (p:=(r,gr)) (by simp);have b3:σ'.gn r=gr:=b3.trans (b5 (r,gr) (by simp));have a4:=a4.trans c8;have h1:=za5 hs x;rw [zaj b9,hx] at h1
    have hv:a.eval x=ρ r:=by
     generalize a.eval x=v at h1;cases h1 with
     | osl _ _ _ _ _ hh=>exact hh b3
    have ho:=hs.obs r;rw [a4] at ho;have a3:(ρ r).oneCell'=true:=zd5.one (inn:=ρ.inn r) (k:=.row e' k' es) ho
    have a9:=zle (P:=P) (w:=w) (len:=1) (k:=1) (parts:=parts.map fun p=>(p.1,a.eval p.2)) (us:=[ρ r]) b7 hk c3 (hbyt et b6) (by omega) (by omega) rfl (by rw [yb8,a5];simp [hv]) (fun u hu=>by
     rw [ybx] at hu
     rw [hu,zlh a3]
     rfl)
    have c7:([ρ r].flatMap fun u=>u.cells.toList)=[ρ r]:=by simp [zlh a3]
    rw [c7] at a9
    have run:(execOp a.eval o).run P w=.ok (.value (.slice (some ⟨w.heap.size,0,none⟩) 1 1)) (w.alloc (.cells [ρ r].toArray et)):=by
     simp only [execOp,hop,Sem.run_bind,a9,Result.andThen_ok,Sem.run_pure]
    unfold Oper.wp;rw [run,Oper.upon_value,a6];refine hK _ _ ?_;have c0:Below w.heap.size w (w.alloc (.cells [ρ r].toArray et)):=(Below.refl _ _).alloc (yao _) _;have hI:∀ u y,RepI w (Imm B σ' ρ w) u y->RepI (w.alloc (.cells [ρ r].toArray et)) (Imm B σ' ρ w) u y:=zti hs (World.grownBy_alloc w _ none) fun b e=>by cases e
    have b8:zdo σ' ρ [(r,gr)]=fpk (ρ r) (ρ.inn r) (.row e' k' es):=by
     unfold zdo;rw [ya5,ycz,ybk,a4]
    have c6:fpk (ρ r) (ρ.inn r) (.row e' k' es)=(zbw (ρ r)).toList:=by
     unfold fpk;rfl
    have a2:∀ b∈zdo σ' ρ [(r,gr)],b<w.heap.size:=fun b hb=>by
     obtain ⟨p,_,ho⟩:=zd8.1 hb;exact (hs.own p.1 b ho).2
    have hF:fpv (.slice (some ⟨w.heap.size,0,none⟩) 1 1) [ρ r]=w.heap.size::zdo σ' ρ [(r,gr)]:=by
     rw [b8,c6];unfold fpv;rw [ybr];show w.heap.size::List.filterMap zbw [ρ r]=_;congr 1
    have c9:∀ t,some d=some t->t<B.n:=fun t e=>by injection e with e;subst e;exact zdi hd a6
    have b2:∀ b∈zdo σ' ρ [(r,gr)],¬ Imm B σ' ρ w b:=fun b hb hi=>by
     obtain ⟨p,_,ho⟩:=zd8.1 hb;exact hi.2.2.1 p.1 ho
    have b4:=zd5.mono (inn:=ρ.inn r) (k:=.row e' k' es) (w':=w.alloc (.cells [ρ r].toArray et)) ho (fun b hb=>heap_alloc_old _ _ (a2 b (by rw [b8];exact hb))) hI
    obtain ⟨ρ',g1,g2,_⟩:=zjd hs [(r,gr)] (by simp) (S':=Imm B σ' ρ w) (v:=.slice (some ⟨w.heap.size,0,none⟩) 1 1) (ps:=[]) (τ:=σ) (tp:=false) (d:=d) (l:=[.ow (.grid et e' k' [[IV.sl es]] none)]) (ys:=[]) (F':=w.heap.size::zdo σ' ρ [(r,gr)]) (bx:=[]) (bl:=[]) (ss':=[]) (va:=.osl d (σ.gn d+1))
     (.of c0) (fun b hb=>⟨.inl hb,by have:=hb.2.1;simp;omega,fun hm=>by
      rcases yau.1 hm with e | hm
      ·have:=hb.2.1;omega
      ·exact b2 b hm hb⟩)
     ⟨_,_,[],rfl,⟨_,[],⟨rfl,[ρ r],⟨by rw [hF];exact ybm.2 ⟨fun hm=>by have:=a2 _ hm;omega,zev hs (by simp)⟩,rfl,[ρ r],by simp,⟨rfl,.inr ⟨w.heap.size,1,[ρ r].toArray,rfl,yak _,heap_alloc_new w _,yao _,by unfold maxLen;omega,rfl,rfl⟩⟩,fun u hu=>by rw [ybx] at hu;rw [hu];exact a3,fun i u hu=>.inr ⟨hu,es,by
      cases i with
      | zero=>rfl
      | succ i=>simp at hu,by
      cases i with
      | zero =>
       simp at hu
       subst hu
       exact b4
      | succ i=>simp at hu⟩⟩,rfl⟩,rfl,rfl⟩,rfl,by
      show w.heap.size::zdo σ' ρ [(r,gr)]=(fpv (.slice (some ⟨w.heap.size,0,none⟩) 1 1) [ρ r]++[])++[]
      rw [hF]
      simp⟩
     (ybm.2 ⟨fun hm=>by have:=a2 _ hm;omega,zev hs (by simp)⟩)
     (fun b hb=>by
      rcases yau.1 hb with e | hb
      ·exact ⟨.inl (by omega),by rw [e];simp⟩
      ·exact ⟨.inr hb,by have:=a2 b hb;simp;omega⟩)
     rfl rfl (by simp) rfl (by simp [zck,ocPl]) (fun x _=>by simp) (fun p hp=>by
      obtain ⟨h5,h6⟩:=zje hp
      exact ⟨zd7 (a7 _ h5),zio (a7 _ h6)⟩)
    refine ⟨ρ',?_⟩;show SatR B (app σ' (fwr [(r,gr)]++(zdz σ [(d,.grid et e' k' [[IV.sl es]] none)]++[(.tmp d,.av (.osl d (σ.gn d+1)))]))) _ _ _;rw [zay,zay];exact g1.put (d:=some d) c9 g2
   ·exact h.elim
  ·exact h.elim
 ·exact h.elim
theorem aBuildG2_ok {t:TypeId} {len:Nat} {parts:Array (Nat×Operand)} (hop:o.op=.buildSlice t len parts) (hd:zdh B.n o=true) (hbyt:∀ et,zhg P t=some et->∃ b,byteOf P et=some b) (h:zs5 P o σ K t len parts):∃ fx,K fx∧Eff P B o fx.rd σ fx.wr:=by
 unfold zs5 at h;split at h
 ·rename_i d et x y b0 d1 a9;have d2:=zee d1;split at h
  ·rename_i k r gr q gq hk hx hy;split at h
   ·rename_i e' k' es e2 k2 fs d7 d0;obtain ⟨b4,h'⟩:=h.ok;clear h;simp only [yaq] at b4;obtain ⟨⟨⟨⟨⟨c1,c2⟩,c3⟩,c4⟩,c5⟩,c6⟩:=b4;have c1:=yaf c1;have c2:=yaf c2;have c4:=(yaf c4).symm;have c5:=(yaf c5).symm;have d9:r≠q:=fun e=>by rw [e] at c6;simp at c6
    subst c1 c2 c4 c5;obtain ⟨b3,h⟩:=h'.out;have h:=h.out;refine ⟨_,h,fun σ' hag a w ⟨ρ,hs⟩ K' Q hK=>?_⟩;have d3:=zaq (zaq (zaq hag));have c9:=za7 (zaq (zaq hag));have a4:zdy σ σ' [(r,gr),(q,gq)]:=za7 (zaq hag);have b2:=za7 hag;obtain ⟨b9,a7,_⟩:=a4.mem (p:=(r,gr)) (by simp);obtain ⟨b6,a6,_⟩:=a4.mem (p:=(q,gq)) (by simp);have b9:σ'.gn r=gr:=b9.trans (b3 (r,gr) (by simp));have b6:σ'.gn q=gq:=b6.trans (b3 (q,gq) (by simp));have a7:=a7.trans d7;have a6:=a6.trans d0;have h1:=za5 hs x;rw [zaj d3,hx] at h1
    have hv:a.eval x=ρ r:=by
     generalize a.eval x=v at h1;cases h1 with
     | osl _ _ _ _ _ hh=>exact hh b9
    have h2:=za5 hs y;rw [zaj c9,hy] at h2
    have e1:a.eval y=ρ q:=by
     generalize a.eval y=v at h2;cases h2 with
     | osl _ _ _ _ _ hh=>exact hh b6
    have ho:=hs.obs r;rw [a7] at ho;have a5:(ρ r).oneCell'=true:=zd5.one (inn:=ρ.inn r) (k:=.row e' k' es) ho;have b7:=hs.obs q;rw [a6] at b7;have a3:(ρ q).oneCell'=true:=zd5.one (inn:=ρ.inn q) (k:=.row e' k' fs) b7
    have b5:=zle (P:=P) (w:=w) (len:=2) (k:=1) (parts:=parts.map fun p=>(p.1,a.eval p.2)) (us:=[ρ r,ρ q]) d2 hk c3 (hbyt et d1) (by omega) (by omega) rfl (by rw [yb8,a9];simp [hv,e1]) (fun u hu=>by
     rcases yau.1 hu with hu | hu
     ·rw [hu,zlh a5]
      rfl
     ·rw [ybx.1 hu,zlh a3]
      rfl)
    have d6:([ρ r,ρ q].flatMap fun u=>u.cells.toList)=[ρ r,ρ q]:=by simp [zlh a5,zlh a3]
    rw [d6] at b5
    have run:(execOp a.eval o).run P w=.ok (.value (.slice (some ⟨w.heap.size,0,none⟩) 2 2)) (w.alloc (.cells [ρ r,ρ q].toArray et)):=by
     simp only [execOp,hop,Sem.run_bind,b5,Result.andThen_ok,Sem.run_pure]
    unfold Oper.wp;rw [run,Oper.upon_value,b0];refine hK _ _ ?_;have d4:Below w.heap.size w (w.alloc (.cells [ρ r,ρ q].toArray et)):=(Below.refl _ _).alloc (yao _) _;have hI:∀ u y,RepI w (Imm B σ' ρ w) u y->RepI (w.alloc (.cells [ρ r,ρ q].toArray et)) (Imm B σ' ρ w) u y:=zti hs (World.grownBy_alloc w _ none) fun b e=>by cases e
    have c0:zdo σ' ρ [(r,gr),(q,gq)]=fpk (ρ r) (ρ.inn r) (.row e' k' es)++fpk (ρ q) (ρ.inn q) (.row e' k' fs):=by
     unfold zdo;rw [ya5,ya5,ycz,ybk,a7,a6]
    have d5:fpk (ρ r) (ρ.inn r) (.row e' k' es)=(zbw (ρ r)).toList:=by
     unfold fpk;rfl
    have e0:fpk (ρ q) (ρ.inn q) (.row e' k' fs)=(zbw (ρ q)).toList:=by
     unfold fpk;rfl
    have c8:([(r,gr),(q,gq)].map Prod.fst).Nodup:=by simp [d9]
    have a2:∀ b∈zdo σ' ρ [(r,gr),(q,gq)],b<w.heap.size:=fun b hb=>by
     obtain ⟨p,_,ho⟩:=zd8.1 hb;exact (hs.own p.1 b ho).2
    have hF:fpv (.slice (some ⟨w.heap.size,0,none⟩) 2 2) [ρ r,ρ q]=w.heap.size::zdo σ' ρ [(r,gr),(q,gq)]:=by
     rw [c0,d5,e0];unfold fpv;rw [ybr];show w.heap.size::List.filterMap zbw [ρ r,ρ q]=_;congr 1;rw [ybr,ybr,List.filterMap_nil];cases zbw (ρ r)<;>cases zbw (ρ q)<;>rfl
    have d8:∀ t,some d=some t->t<B.n:=fun t e=>by injection e with e;subst e;exact zdi hd b0
    have b8:∀ b∈zdo σ' ρ [(r,gr),(q,gq)],¬ Imm B σ' ρ w b:=fun b hb hi=>by
     obtain ⟨p,_,ho⟩:=zd8.1 hb;exact hi.2.2.1 p.1 ho
    have c7:=zd5.mono (inn:=ρ.inn r) (k:=.row e' k' es) (w':=w.alloc (.cells [ρ r,ρ q].toArray et)) ho (fun b hb=>heap_alloc_old _ _ (a2 b (by rw [c0];exact yan _ hb))) hI;have a8:=zd5.mono (inn:=ρ.inn q) (k:=.row e' k' fs) (w':=w.alloc (.cells [ρ r,ρ q].toArray et)) b7 (fun b hb=>heap_alloc_old _ _ (a2 b (by rw [c0];exact yai _ hb))) hI
    obtain ⟨ρ',g1,g2,_⟩:=zjd hs [(r,gr),(q,gq)] c8 (S':=Imm B σ' ρ w) (v:=.slice (some ⟨w.heap.size,0,none⟩) 2 2) (ps:=[]) (τ:=σ) (tp:=false) (d:=d) (l:=[.ow (.grid et e' k' [[IV.sl es],[IV.sl fs]] none)]) (ys:=[]) (F':=w.heap.size::zdo σ' ρ [(r,gr),(q,gq)]) (bx:=[]) (bl:=[]) (ss':=[]) (va:=.osl d (σ.gn d+1))
     (.of d4) (fun b hb=>⟨.inl hb,by have:=hb.2.1;simp;omega,fun hm=>by
      rcases yau.1 hm with e | hm
      ·have:=hb.2.1;omega
      ·exact b8 b hm hb⟩)
     ⟨_,_,[],rfl,⟨_,[],⟨rfl,[ρ r,ρ q],⟨by rw [hF];exact ybm.2 ⟨fun hm=>by have:=a2 _ hm;omega,zev hs c8⟩,rfl,[ρ r,ρ q],by simp,⟨rfl,.inr ⟨w.heap.size,2,[ρ r,ρ q].toArray,rfl,yak _,heap_alloc_new w _,yao _,by unfold maxLen;omega,rfl,rfl⟩⟩,fun u hu=>by
       rcases yau.1 hu with hu | hu
       ·rw [hu];exact a5
       ·rw [ybx.1 hu];exact a3,fun i u hu=>by
      match i,hu with
      | 0,hu =>
       simp at hu
       subst hu
       exact .inr ⟨rfl,es,rfl,c7⟩
      | 1,hu =>
       simp at hu
       subst hu
       exact .inr ⟨rfl,fs,rfl,a8⟩
      | i+2,hu=>simp at hu⟩,rfl⟩,rfl,rfl⟩,rfl,by
      show w.heap.size::zdo σ' ρ [(r,gr),(q,gq)]=(fpv (.slice (some ⟨w.heap.size,0,none⟩) 2 2) [ρ r,ρ q]++[])++[]
      rw [hF]
      simp⟩
     (ybm.2 ⟨fun hm=>by have:=a2 _ hm;omega,zev hs c8⟩)
     (fun b hb=>by
      rcases yau.1 hb with e | hb
      ·exact ⟨.inl (by omega),by rw [e];simp⟩
      ·exact ⟨.inr hb,by have:=a2 b hb;simp;omega⟩)
     rfl rfl (by simp) rfl (by simp [zck,ocPl]) (fun x _=>by simp) (fun p hp=>by
      obtain ⟨h5,h6⟩:=zje hp
      exact ⟨zd7 (b2 _ h5),zio (b2 _ h6)⟩)
    refine ⟨ρ',?_⟩;show SatR B (app σ' (fwr [(r,gr),(q,gq)]++(zdz σ [(d,.grid et e' k' [[IV.sl es],[IV.sl fs]] none)]++[(.tmp d,.av (.osl d (σ.gn d+1)))]))) _ _ _;rw [zay,zay];exact g1.put (d:=some d) d8 g2
   ·exact h.elim
  ·exact h.elim
 ·exact h.elim
theorem aAppendG_ok {c:Call} {t:TypeId} {x y:Operand} {b2 gc:Nat} (hop:o.op=.call c) (hc:c.callee=.builtin .append) (hargs:c.args=#[x,y]) (hts:c.argTypes=#[t,t]) (hy:evA σ y=.osl b2 gc) (hd:zdh B.n o=true) (h:aAppendG P o σ K t x y b2 gc):∃ fx,K fx∧Eff P B o fx.rd σ fx.wr:=by
 unfold aAppendG at h;split at h
 ·rename_i d et e e' k a9 c0 h8 b5;have f4:=zee h8;split at h
  ·rename_i m by_ b gb hm g8 hx;split at h
   ·rename_i e1 d5 k1 gs b8;obtain ⟨d3,h'⟩:=h.ok;clear h;simp only [yaq,yc5] at d3;obtain ⟨⟨⟨⟨⟨⟨c1,c2⟩,c3⟩,c4⟩,c5⟩,c6⟩,c7⟩:=d3;have c1:=yaf c1;have c2:=yaf c2;have c3:=yaf c3;have c4:=yaf c4;have c5:=yaf c5;have f5:b≠b2:=fun e=>by rw [e] at c7;simp at c7
    subst c1 c2 c4 c5;subst c3;obtain ⟨d1,h⟩:=h'.out;obtain ⟨b4,h⟩:=h.out;have h:=h.out;obtain ⟨i,z,hi,hz,e4,b6,i0⟩:=zjt c6 hm g8;refine ⟨_,h,fun σ' hag a w ⟨ρ,hs⟩ K' Q hK=>?_⟩;have f7:=zaq (zaq (zaq hag));have e8:=za7 (zaq (zaq hag));have b0:zdy σ σ' [(b,gb),(b2,gc)]:=za7 (zaq hag);have c8:=za7 hag;obtain ⟨d6,g6,_⟩:=b0.mem (p:=(b,gb)) (by simp);obtain ⟨e5,f3,_⟩:=b0.mem (p:=(b2,gc)) (by simp);have d6:σ'.gn b=gb:=d6.trans (d1 (b,gb) (by simp));have e5:σ'.gn b2=gc:=e5.trans (d1 (b2,gc) (by simp));have b8:=g6.trans b8;have b5:=f3.trans b5;have h1:=za5 hs x;rw [zaj f7,hx] at h1;have h2:=za5 hs y;rw [zaj e8,hy] at h2
    have g9:a.eval x=ρ b:=by
     generalize a.eval x=v at h1;cases h1 with
     | osl _ _ _ _ _ hh=>exact hh d6
    have i4:a.eval y=ρ b2:=by
     generalize a.eval y=v at h2;cases h2 with
     | osl _ _ _ _ _ hh=>exact hh e5
    obtain ⟨ub,nb,lb,i7,a7,g4,i5,f8⟩:=zhf hs b8;obtain ⟨uc,nc,lc,i6,d2,d4,i3,e9⟩:=zhf hs b5
    obtain ⟨A,cp,g7,b7⟩:∃ (A:Option Addr) (cp:Nat),ρ b2=.slice A a9.length cp∧(0<a9.length->∃ bb q,A=some ⟨bb,q,none⟩∧∀ (j:Nat) u,uc[j]?=some u->w.cell? ⟨bb,q+j,none⟩=some u):=by
     rcases d2.2 with ⟨e0,h0⟩ | ⟨q,h9,cur,e0,_⟩
     ·exact ⟨none,0,by rw [e0,h0],fun h=>by omega⟩
     ·exact ⟨_,h9,e0,fun _=>⟨q,0,rfl,fun j u hu=>by rw [yae];exact zsw d2 e0 hu⟩⟩
    obtain ⟨v',w',g5,a6,a2,f9⟩:=zgv (P:=P) (w:=w) 0 t o.type e1 i z 1 by_ f4 hi hz e4 b6 i0 (by omega) (ρ b) gs.length ub a7 A a9.length cp uc (by rw [i3,yct]) b7 d4 (by unfold maxLen;have:=b4.2;omega) (by exact b4.1) (yak _)
    have run:(execOp a.eval o).run P w=.ok (.value v') w':=by
     have e0:(Builtin.append_ #[t,t] o.type #[a.eval x,a.eval y]).run P w=.ok v' w':=by rw [g9,i4,g7];exact g5
     simp [execOp,hop,resolve,hc,hargs,hts,invoke,builtin,e0]
    unfold Oper.wp;rw [run,Oper.upon_value,c0];refine hK _ _ ?_
    have b9:zdo σ' ρ [(b,gb),(b2,gc)]=fpv (ρ b) (ρ.inn b)++fpv (ρ b2) (ρ.inn b2):=by
     unfold zdo;rw [ya5,ya5,ycz,ybk,b8,b5];rfl
    have a4:(zdo σ' ρ [(b,gb),(b2,gc)]).Nodup:=zev hs (by simp [f5])
    have a5:∀ q∈zdo σ' ρ [(b,gb),(b2,gc)],q<w.heap.size:=fun q hq=>by
     obtain ⟨p,_,ho⟩:=zd8.1 hq;exact (hs.own p.1 q ho).2
    have d7:∀ q∈zdo σ' ρ [(b,gb),(b2,gc)],¬ Imm B σ' ρ w q:=fun q hq hi=>by
     obtain ⟨p,_,ho⟩:=zd8.1 hq;exact hi.2.2.1 p.1 ho
    have d9:∀ q,(ρ b).ownBlock=some q->q∈zdo σ' ρ [(b,gb),(b2,gc)]:=fun q hq=>by
     rw [zih a7] at hq;rw [b9];refine yan _ ?_;unfold fpv;rw [ybr,hq];exact ycc ..
    have hI:∀ u y,RepI w (Imm B σ' ρ w) u y->RepI w' (Imm B σ' ρ w) u y:=zti hs a2 fun q hq=>by
     obtain ⟨p,_,ho⟩:=zd8.1 (d9 q hq);exact ⟨p.1,ho⟩
    -- where the new row of rows lies
    have a3:((ρ.inn b++ρ.inn b2).filterMap zbw).Sublist (zdo σ' ρ [(b,gb),(b2,gc)]):=by
     rw [b9,yd4];refine List.Sublist.append ?_ ?_
     ·unfold fpv;rw [ybr];split
      ·exact List.Sublist.refl _
      ·exact ydg _ _
     ·unfold fpv;rw [ybr];split
      ·exact List.Sublist.refl _
      ·exact ydg _ _
    have d0:fpv v' (ρ.inn b++ρ.inn b2)=(zbw v').toList++(ρ.inn b++ρ.inn b2).filterMap zbw:=by
     unfold fpv;rw [ybr];cases zbw v'<;>rfl
    have a8:∀ q,zbw v'=some q->(q=w.heap.size∨zbw (ρ b)=some q)∧q<w'.heap.size:=fun q hq=>by
     refine ⟨?_,(a6.lt q (show v'.ownBlock=some q by rw [zih a6];exact hq)).2⟩;rw [<- zih a6] at hq;rcases f9 with e | e
     ·right;rw [<- zih a7,<- e];exact hq
     ·left;rw [e] at hq;exact (Option.some.inj hq).symm
    have f6:(fpv v' (ρ.inn b++ρ.inn b2)).Nodup:=by
     rw [d0];have h3:=a3.nodup a4;cases hq:zbw v' with
     | none=>exact h3
     | some q =>
      refine ybm.2 ⟨fun hm=>?_,h3⟩;rcases (a8 q hq).1 with e | e
      ·have:=a5 q (a3.subset hm);omega
      ·have hm:q∈(ρ.inn b++ρ.inn b2).filterMap zbw:=hm
       have hm:q∈(ρ.inn b).filterMap zbw∨q∈(ρ.inn b2).filterMap zbw:=by
        rw [<- yap,<- yd4];exact hm
       rw [b9,ybi] at a4
       have e2:fpv (ρ b) (ρ.inn b)=q::(ρ.inn b).filterMap zbw:=by
        unfold fpv;rw [ybr,e]
       rw [e2] at a4;rcases hm with hm | hm
       ·exact (ybm.1 a4.1).1 hm
       ·refine a4.2.2 q (ycc ..) q ?_ rfl;unfold fpv;rw [ybr];split
        ·exact hm
        ·exact yaw _ hm
    have b3:∀ u∈ρ.inn b++ρ.inn b2,∀ q,zbw u=some q->w'.heap[q]?=w.heap[q]?:=fun u hu q hq=>by
     have hm:q∈(ρ.inn b++ρ.inn b2).filterMap zbw:=ybw.2 ⟨u,hu,hq⟩;refine a2.block q (a5 q (a3.subset hm)) fun e=>?_;rw [zih a7] at e
     have hm:q∈(ρ.inn b).filterMap zbw∨q∈(ρ.inn b2).filterMap zbw:=by
      rw [<- yap,<- yd4];exact hm
     rw [b9,ybi] at a4
     have e2:fpv (ρ b) (ρ.inn b)=q::(ρ.inn b).filterMap zbw:=by
      unfold fpv;rw [ybr,<- e]
     rw [e2] at a4;rcases hm with hm | hm
     ·exact (ybm.1 a4.1).1 hm
     ·refine a4.2.2 q (ycc ..) q ?_ rfl;unfold fpv;rw [ybr];split
      ·exact hm
      ·exact yaw _ hm
    have d8:zkr w' (Imm B σ' ρ w) v' (ρ.inn b++ρ.inn b2) e1 d5 k1 (gs++a9) none:=by
     refine ⟨f6,by rw [zkJ,zkJ,lb,lc],ub++uc,by rw [zkJ];have:=b4.2;omega,by rw [zkJ];exact a6,fun u hu=>?_,fun j u hu=>.inr ?_⟩
     ·rcases yap.1 hu with hu | hu
      ·exact g4 u hu
      ·exact d4 u hu
     ·have c9:=zkH hu;have el:ub.length=(ρ.inn b).length:=i5.trans lb.symm;have e3:gs.length=(ρ.inn b).length:=lb.symm;by_cases hj:j<(ρ.inn b).length
      ·rw [yba hj] at hu;obtain ⟨g1,es,g2,g3⟩:=f8 j u hu;refine ⟨by rw [yba (by rw [el];exact hj)];exact g1,es,by rw [yba (by rw [e3];exact hj)];exact g2,g3.mono (b3 u c9) hI⟩
      ·have e7:(ρ.inn b).length<=j:=Nat.le_of_not_lt hj;rw [ybg e7] at hu;obtain ⟨g1,es,g2,g3⟩:=e9 _ u hu;refine ⟨by rw [ybg (by rw [el];exact e7),el];exact g1,es,by rw [ybg (by rw [e3];exact e7),e3];exact g2,g3.mono (b3 u c9) hI⟩
    have hF:∀ q∈fpv v' (ρ.inn b++ρ.inn b2),(w.heap.size<=q∨q∈zdo σ' ρ [(b,gb),(b2,gc)])∧q<w'.heap.size:=fun q hq=>by
     rw [d0] at hq;rcases yap.1 hq with hq | hq
     ·have hq:zbw v'=some q:=by simpa using hq
      obtain ⟨h3,h4⟩:=a8 q hq;refine ⟨?_,h4⟩;rcases h3 with e | e
      ·exact .inl (by omega)
      ·exact .inr (d9 q (by rw [zih a7];exact e))
     ·have h3:=a3.subset hq;have:=a5 q h3;have:=a2.size;exact ⟨.inr h3,by omega⟩
    have h7:∀ t,some d=some t->t<B.n:=fun t e=>by injection e with e;subst e;exact zdi hd c0
    have e6:v'.oneCell'=true:=row_one a6
    obtain ⟨ρ',g1,g2,_⟩:=zjd hs [(b,gb),(b2,gc)] (by simp [f5]) (S':=Imm B σ' ρ w) (v:=v') (ps:=[]) (τ:=σ) (tp:=false) (d:=d) (l:=[.ow (.grid e1 d5 k1 (gs++a9) none)]) (ys:=[]) (F':=fpv v' (ρ.inn b++ρ.inn b2)) (bx:=[]) (bl:=[]) (ss':=[]) (va:=.osl d (σ.gn d+1))
     ⟨a2.os,a2.tape,a2.output,a2.size,fun q hq hn=>a2.block q hq fun e=>hn (d9 q e.symm)⟩ (fun q hq=>⟨.inl hq,by have:=hq.2.1;have:=a2.size;omega,fun hm=>by
      rcases (hF q hm).1 with e | e
      ·have:=hq.2.1;omega
      ·exact d7 q e hq⟩)
     ⟨_,_,[],rfl,⟨_,[],⟨e6,ρ.inn b++ρ.inn b2,d8,rfl⟩,rfl,rfl⟩,rfl,by
      show fpv v' (ρ.inn b++ρ.inn b2)=(fpv v' (ρ.inn b++ρ.inn b2)++[])++[]
      simp⟩
     f6 hF rfl rfl (by simp) rfl (by simp [zck,ocPl]) (fun x _=>by simp) (fun p hp=>by
      obtain ⟨h5,h6⟩:=zje hp
      exact ⟨zd7 (c8 _ h5),zio (c8 _ h6)⟩)
    refine ⟨ρ',?_⟩;show SatR B (app σ' (fwr [(b,gb),(b2,gc)]++(zdz σ [(d,.grid e1 d5 k1 (gs++a9) none)]++[(.tmp d,.av (.osl d (σ.gn d+1)))]))) _ _ _;rw [zay,zay];exact g1.put (d:=some d) h7 g2
   ·exact h.elim
  ·exact h.elim
 ·exact h.elim
end
end
section
open Go.RowKit Go.ChangeMaps
section
variable {P:Program} {B:Base} {o:Oper} {σ:St} {K:Fx->Prop}
theorem zs4 {t e:TypeId} {n:Nat} (h:arrOf P t=some (n,e)):P.underlying t=some (.array n e):=by
 unfold arrOf at h;split at h
 ·rename_i n' e' hu;simp only [zkF,zkG] at h;rw [hu,h.1,h.2]
 ·cases h
theorem ztq {t:TypeId} {n:Nat} (h:intArr P t=some n):∃ e,P.underlying t=some (.array n e)∧P.underlying e=some (.int .i64)∧szOf P e=some 1:=by
 unfold intArr at h;split at h
 ·rename_i n' e he;split at h
  ·rename_i h1 h2;injection h with h
   subst h;exact ⟨e,zs4 he,h1,h2⟩
  ·cases h
 ·cases h
theorem flat_sing {α β:Type} (f:α->β):∀ cs:List α,(cs.map fun v=>[f v]).flatten=cs.map f
 | []=>rfl
 | c::cs=>by rw [yar,ybc,flat_sing f cs];rfl
theorem aAllocA_ok {t:TypeId} (hop:o.op=.alloc t) (hd:zdh B.n o=true) (h:aAllocA P o σ K t):∃ fx,K fx∧Eff P B o fx.rd σ fx.wr:=by
 unfold aAllocA at h;split at h
 ·rename_i d cs a4 hz;obtain ⟨a2,h⟩:=h.ok;simp only [yaq] at a2;have a5:=a2.1.1;have b0:=zey a2.1.2;have a9:=zho a2.2;have h:=h.out;refine ⟨_,h,fun σ' hag a w ⟨ρ,hs⟩ K' Q hK=>?_⟩;have hg:σ'.gn d=σ.gn d:=zd7 (hag (.gen d) (by simp))
  obtain ⟨z,a7,a6⟩:∃ z:Value,(∀ w,(zeroValue t).run P w=.ok z w)∧z.cells.toList=cs:=by
   unfold zeroOf at hz;split at hz
   ·rename_i i hi;cases hz0:i.zero with
    | none=>rw [hz0] at hz;cases hz
    | some z =>
     rw [hz0] at hz;simp only [yal,zkF] at hz;exact ⟨z,fun w=>by simp [zeroValue,typeInfo,hi,hz0],hz⟩
   ·cases hz
  have run:(execOp a.eval o).run P w=.ok (.value (.pointer (some ⟨w.heap.size,0,none⟩))) (w.alloc (.cells cs.toArray t)):=by
   rw [<- a6];simp [execOp,hop,Instr.alloc,a7,newVar,newRow]
  unfold Oper.wp;rw [run,Oper.upon_value,a4]
  let hv:Value:=.slice (some ⟨w.heap.size,0,none⟩) cs.length cs.length
  refine hK _ _ ⟨setρ ρ d hv,?_⟩
  have m:zsd σ' w (w.alloc (.cells cs.toArray t)) ρ none hv none :=
   ⟨World.grownBy_alloc w _ none,(fun b e=>by cases e),fun b e=>.inr (by simp only [hv,zbw,zkF] at e;omega)⟩
  have a3:(cs.map fun v=>[nz1 (IV.val v)]).flatten=cs.map fun v=>nz1 (.val v):=flat_sing (fun v=>nz1 (IV.val v)) cs
  have a8:=hs.new (d:=d) (k:=.row t 1 (cs.map fun v=>[nz1 (.val v)])) (cs:=[]) m rfl fun hI _=>by
   refine ⟨cs,by omega,fun x hx=>by obtain ⟨u,_,rfl⟩:=yag.1 hx;rfl,by rw [zkK];omega,?_,by rw [a3];simp,fun u hu=>ya9.1 a5 u hu,fun i u x hu hx=>?_⟩
   ·simp only [setρ,if_pos,zkK];refine ⟨by simp,.inr ⟨w.heap.size,cs.length,cs.toArray,rfl,yak _,heap_alloc_new w _,yao _,by unfold maxLen;omega,by simp,by simp⟩⟩
   ·rw [a3,yam,hu] at hx;injection hx with hx
    subst hx;exact zma (.val u)
  have:=zm6 (σ:=σ) (σ':=σ') (k:=.row t 1 (cs.map fun v=>[nz1 (.val v)])) (cs:=[]) (v:=.elt d (σ.gn d+1) 1 0 0) hg;simp only [zgw,ybk] at this;show SatR B (app σ' (zew σ d (.row t 1 (cs.map fun v=>[nz1 (.val v)]))++[(.tmp d,.av (.elt d (σ.gn d+1) 1 0 0))])) _ _ _;rw [this,<- hg];exact a8.put (d:=some d) (fun t e=>by injection e with e;subst e;exact zdi hd a4) (.elt _ _ _ _ _ _ rfl (by rw [zmt,if_pos rfl];omega) fun _=>⟨w.heap.size,0,cs.length,cs.length,by simp [setρ,hv],by simp⟩)
 ·exact h.elim
theorem aAllocs_ok {t:TypeId} (hop:o.op=.alloc t) (hd:zdh B.n o=true) (h:aAllocs P o σ K t):∃ fx,K fx∧Eff P B o fx.rd σ fx.wr:=by
 unfold aAllocs at h;split at h
 ·split at h
  ·exact aAlloc_ok hop hd h
  ·exact aAllocA_ok hop hd h
 ·exact aAlloc_ok hop hd h
theorem aIndexA_ok {t et:TypeId} {n:Nat} {x i:Operand} (hop:o.op=.indexAddr t x i) (ht:arrOf P t=some (n,et)) (hd:zdh B.n o=true) (h:aIndexA P o σ K n et x i):∃ fx,K fx∧Eff P B o fx.rd σ fx.wr:=by
 have hu:=zs4 ht;unfold aIndexA at h;split at h
 ·rename_i kk j m hi hm
  have run:∀ (a:Act) w q p,a.eval x=.pointer (some ⟨q,p,none⟩)->a.eval i=.int kk j->0<=j->j<n->(execOp a.eval o).run P w=.ok (.value (.pointer (some ⟨q,p+j.toNat*m,none⟩))) w:=fun a w q p hv hn h0 a3=>by
   have hz:=zh1 hm w;have h3:0<=j∧j<(n:Int):=⟨h0,a3⟩;simp only [execOp,hop,hv,hn,Instr.indexAt,asIntOf,Instr.sureAddr,Sem.run_bind,Sem.run_pure,Result.andThen_ok,run_underlying hu,if_pos h3,hz,addr_add]
  split at h
  ·rename_i b g k p q hx
   have a5:∀ (σ':St),(∀ y∈opd x++opd i++[Loc.gen b],σ' y=σ y)->∀ a w ρ,SatR B σ' a w ρ->σ.gn b=g->∃ v,a.eval x=v∧RepA w (Imm B σ' ρ w) ρ σ'.gn v (.elt b g k p q)∧a.eval i=.int kk j∧σ'.gn b=g:=fun σ' hag a w ρ hs hg=>by
    have h1:=za5 hs x;have h2:=za5 hs i;rw [zaj (zaq (zaq hag)),hx] at h1;rw [zaj (za7 (zaq hag))] at h2;exact ⟨_,rfl,h1,zc1 hi h2,(zd7 (za7 hag (.gen b) (by simp))).trans hg⟩
   split at h
   ·rename_i hc;simp only [yaq,Nat.beq_eq] at hc;obtain ⟨⟨⟨rfl,rfl⟩,rfl⟩,rfl⟩:=hc;obtain ⟨⟨h0,a3,hg⟩,h⟩:=h.out;refine ⟨_,h,Eff.pure hd fun σ' hag a w ρ hs=>?_⟩;obtain ⟨v,hv,h1,h2,hg'⟩:=a5 σ' hag a w ρ hs hg;cases h1 with
    | elt _ _ _ _ _ _ a2 hgg hh =>
     obtain ⟨q0,z0,n0,c0,e1,e2⟩:=hh hg';subst e2;have a4:=run a w q0 (z0+(0*1+0)) hv h2 h0 a3;exact ⟨_,a4,.elt _ b g 1 j.toNat 0 rfl hgg fun _=>⟨q0,z0,n0,c0,e1,by simp⟩⟩
   ·obtain ⟨⟨h0,a3,hg⟩,h⟩:=h.out;refine ⟨_,h,Eff.pure hd fun σ' hag a w ρ hs=>?_⟩;obtain ⟨v,hv,h1,h2,hg'⟩:=a5 σ' hag a w ρ hs hg;cases h1 with
    | elt _ _ _ _ _ _ a2 hgg hh =>
     obtain ⟨q0,z0,n0,c0,e1,e2⟩:=hh hg';subst e2;have a4:=run a w q0 _ hv h2 h0 a3;exact ⟨_,a4,.elt _ b g k p (q+j.toNat*m) rfl hgg fun _=>⟨q0,z0,n0,c0,e1,by rw [ybf,ybf]⟩⟩
  ·rename_i cs hx;obtain ⟨⟨h0,a3⟩,h⟩:=h.out;refine ⟨_,h,Eff.pure hd fun σ' hag a w ρ hs=>?_⟩;have h1:=za5 hs x;have h2:=za5 hs i;rw [zaj (zaq hag),hx] at h1;rw [zaj (za7 hag)] at h2;have hn:=zc1 hi h2;have h1:=h1.im_inv;generalize hv:a.eval x=v at h1;cases h1 with
   | ref b q us _ hS hl a2 hu' hr =>
    refine ⟨_,run a w b q hv hn h0 a3,.im _ _ (.ref b (q+j.toNat*m) (us.drop (j.toNat*m)) (cs.drop (j.toNat*m)) hS (by simp [hl]) (fun u a6=>a2 u (ya3 a6)) (fun p u hj=>?_) fun p u y hj hy=>?_)⟩
    ·rw [ya8] at hj;have:=hu' _ u hj
     rwa [<- ybf] at this
    ·rw [ya8] at hj hy;exact hr _ u y hj hy
  ·rename_i b g p hx;obtain ⟨⟨h0,a3,hg⟩,h⟩:=h.out;refine ⟨_,h,Eff.pure hd fun σ' hag a w ρ hs=>?_⟩;have h1:=za5 hs x;have h2:=za5 hs i;rw [zaj (zaq (zaq hag)),hx] at h1;rw [zaj (za7 (zaq hag))] at h2;have hn:=zc1 hi h2;have hg':=(zd7 (za7 hag (.gen b) (by simp))).trans hg;generalize hv:a.eval x=v at h1;cases h1 with
   | own _ _ _ _ a2 hgg hh =>
    obtain ⟨q,e1,e2⟩:=hh hg';exact ⟨_,run a w q p (hv.trans e2) hn h0 a3,.own _ b g (p+j.toNat*m) rfl hgg fun _=>⟨q,e1,rfl⟩⟩
  ·exact h.elim
 ·exact h.elim
theorem flat_ones {α:Type}:∀ {es:List (List α)},(∀ x∈es,x.length=1)->es.flatten.length=es.length
 | [],_=>rfl
 | x::es,h=>by
  rw [ybc,zkJ,flat_ones fun y hy=>h y (by simp [hy]),h x (by simp),zkL];omega
theorem aLoadA_ok {t:TypeId} {p:Operand} {b g k i j:Nat} (hop:o.op=.load t p) (hp:evA σ p=.elt b g k i j) (hw:wholeA P t k=true) (hd:zdh B.n o=true) (h:aLoadA P o σ K t p b g k i j):∃ fx,K fx∧Eff P B o fx.rd σ fx.wr:=by
 have a3:zoz P t=some true:=by
  unfold wholeA at hw;split at hw
  ·rename_i n hn;obtain ⟨e,hu,_⟩:=ztq hn;unfold zoz;rw [hu];rfl
  ·cases hw
 unfold aLoadA at h;split at h
 ·rename_i t' k' es m a8 hm;obtain ⟨hc,h⟩:=h.ok;simp only [yaq,Nat.beq_eq] at hc;obtain ⟨⟨⟨rfl,rfl⟩,rfl⟩,rfl⟩:=hc;obtain ⟨⟨hg,a4⟩,h⟩:=h.out;have h:=h.out;refine ⟨_,h,Eff.pure hd fun σ' hag a w ρ hs=>?_⟩;obtain ⟨a5,hg',a6,_⟩:=zdv hag;have h1:=za5 hs p;rw [zaj a5,hp] at h1;have ho:=hs.obs b;rw [a6.trans a8] at ho;obtain ⟨us,h2,h3,h4,h5,h6,h7,h8⟩:=ho;generalize hv:a.eval p=v at h1;cases h1 with
  | elt _ _ _ _ _ _ a2 hgg hh =>
   obtain ⟨q,z,n,c,e1,e2⟩:=hh (hg'.trans hg)
   have a7:z=0:=by
    rcases h5.2 with ⟨f,_⟩ | ⟨_,_,_,f,_⟩
    ·rw [f] at e1;cases e1
    ·rw [f] at e1;injection e1 with e1 _ _
     injection e1 with e1
     injection e1 with _ e1
     exact e1.symm
   subst a7;rw [yae] at e2;subst e2;have a9:us.length=m:=by rw [h6,flat_ones h3,a4]
   refine ⟨.agg us.toArray,?_,.im _ _ (.agg us _ h6 h7 h8)⟩
   have:=zn0 (P:=P) (t:=t) (us:=us) a3 (by rw [a9];exact hm) (b:=q) (q:=0*1+0) (w:=w) (fun p u hu=>by
    have:=h5.cells (g:=q) (by rw [e1];rfl) p u hu
    rw [addr_add,yae] at this
    simpa using this)
   have hr:(Instr.loadAt t (a.eval p)).run P w=.ok (.agg us.toArray) w:=by rw [hv];exact this
   simp [execOp,hop,hr]
 ·exact h.elim
theorem aLenM_ok {c:Call} {t kt et:TypeId} {ts:List TypeId} {x:Operand} {b g:Nat} {l:List (Value×Value)} (hop:o.op=.call c) (hc:c.callee=.builtin .len) (ha:c.args.toList=[x]) (ht:c.argTypes.toList=t::ts) (hm:zud P t=some (kt,et)) (hx:evA σ x=.osl b g) (hkd:σ.kd b=.map l) (hd:zdh B.n o=true) (h:aLenM o σ K x b g l):∃ fx,K fx∧Eff P B o fx.rd σ fx.wr:=by
 have a5:c.argTypes[0]?=some t:=by rw [<- yas,ht];rfl
 have a8:∀ a:Act,(c.args.map a.eval)[0]?=some (a.eval x):=fun a=>by rw [<- yas,yb8,ha];rfl
 have hu:=zln hm;unfold aLenM at h;obtain ⟨hg,h⟩:=h.out;have h:=h.out;refine ⟨_,h,Eff.pure hd fun σ' hag a w ρ hs=>?_⟩;obtain ⟨a3,hg',a4,_⟩:=zdv hag;have h1:=za5 hs x;rw [zaj a3,hx] at h1;have ho:=hs.obs b;rw [a4.trans hkd] at ho;obtain ⟨q,a6,es,e1,e2,e3,a9⟩:=ho;have a7:=MapKept.run_getObj_map (P:=P) e2;generalize hv:a.eval x=v at h1;cases h1 with
 | osl _ _ _ a2 hgg hh =>
  rw [hh (hg'.trans hg),e1] at hv;have hl:l.length=es.size:=by rw [<- e3];simp
  refine ⟨.int .i64 es.size,?_,by rw [hl];exact zdp _⟩;simp only [execOp,hop,resolve,hc,invoke,builtin,Builtin.len_,a5,a8,Sem.run_bind,Sem.run_pure,Result.andThen_ok,run_underlying hu,hv,goInt,a7]
theorem part_int {e:TypeId} {w:World} (hu:P.underlying e=some (.int .i64)) {ks:yab} {i:Nat} {c:Int} (h:ks[i]?=some c):(part e (ks.map (Value.int .i64)).toArray i).run P w=.ok (.int .i64 c) w:=by
 have a2:zoz P e=some false:=by unfold zoz;rw [hu];rfl
 have hi:(ks.map (Value.int .i64)).toArray[i]?=some (.int .i64 c):=by simp [h]
 unfold part;rw [Sem.run_bind,zrr a2];simp only [Result.andThen_ok,ydt,if_false,hi,Sem.run_pure]
theorem zty {kt e:TypeId} {n:Nat} (hu:P.underlying kt=some (.array n e)) (he:P.underlying e=some (.int .i64)) (hs:szOf P e=some 1) (em:Bool) {ks:yab} (hl:ks.length=n) (w:World):(Instr.checkKey em 10000 kt (wA ks)).run P w=.ok () w:=by
 unfold wA;rw [Instr.checkKey];simp only [Sem.run_bind,run_underlying hu,Result.andThen_ok];simp only [Std.Legacy.Range.forIn_eq_forIn_range',Std.Legacy.Range.size,ydr,Nat.add_one_sub_one,Nat.div_one];have a2:∀ i∈List.range' 0 n,i<ks.length:=fun i hi=>by rw [hl];simpa using List.mem_range'_1.1 hi
 generalize List.range' 0 n=is at a2
 induction is with
 | nil=>simp
 | cons j is ih =>
  have hj:=a2 j (by simp);have hp:=part_int (w:=w) he (zkM hj)
  have a3:(Instr.checkKey em 9999 e (.int .i64 ks[j])).run P w=.ok () w:=by
   rw [Instr.checkKey,Sem.run_bind,run_underlying he];rfl
  simp only [List.forIn_cons,Sem.run_bind,zh1 hs,Result.andThen_ok,yct,hp,a3,Sem.run_pure];exact ih fun y hy=>a2 y (by simp [hy])
theorem eq_items {e:TypeId} (he:P.underlying e=some (.int .i64)) {ks ls:yab} (hl:ks.length=ls.length) (w:World):∀ is:List Nat,(∀ i∈is,i<ks.length) ->
  (Op.eqItems 9999 e 1 (ks.map (Value.int .i64)).toArray (ls.map (Value.int .i64)).toArray is).run P w=.ok (is.all fun i=>decide (ks[i]?=ls[i]?)) w
 | [],_=>by simp [Op.eqItems]
 | i::is,h=>by
  have hi:=h i (by simp);have hi':i<ls.length:=by omega
  have p1:=part_int (w:=w) he (zkM hi);have p2:=part_int (w:=w) he (zkM hi')
  have a2:(Op.equalIn 9999 e (.int .i64 ks[i]) (.int .i64 ls[i])).run P w=.ok (ks[i]==ls[i]) w:=by
   rw [Op.equalIn,Sem.run_bind,run_underlying he];simp
  rw [List.all_cons,zkM hi,zkM hi'];simp only [Op.eqItems,yct,Sem.run_bind,p1,p2,a2,Result.andThen_ok];by_cases hc:ks[i]=ls[i]
  ·simp [hc,eq_items he hl w is fun j hj=>h j (by simp [hj])]
  ·simp [hc]
theorem all_get {ks ls:yab} {n:Nat} (h1:ks.length=n) (h2:ls.length=n):((List.range n).all fun i=>decide (ks[i]?=ls[i]?))=decide (ks=ls):=by
 rw [yeo];simp only [ya9,ya0,decide_eq_true_eq];constructor
 ·intro h;apply ycl;intro i;by_cases hi:i<n
  ·exact h i hi
  ·rw [ybb (by omega),ybb (by omega)]
 ·rintro rfl i _;rfl
theorem equal_arr {kt e:TypeId} {n:Nat} (hu:P.underlying kt=some (.array n e)) (he:P.underlying e=some (.int .i64)) (hs:szOf P e=some 1) {ks ls:yab} (h1:ks.length=n) (h2:ls.length=n) (w:World):(Op.equal kt (wA ks) (wA ls)).run P w=.ok (decide (ks=ls)) w:=by
 obtain ⟨i,hi,a3⟩:∃ i,P.info? e=some i∧i.size=1:=by
  unfold szOf at hs;cases hi:P.info? e with
  | none=>rw [hi] at hs;cases hs
  | some i=>rw [hi] at hs;exact ⟨i,rfl,by simpa using hs⟩
 have a2:P.cellsOf e=1:=by simp [Program.cellsOf,hi,a3]
 unfold Op.equal wA;rw [show Op.maxDepth=9999+1 from rfl,run_equalIn_array w 9999 _ _ hu hi,a2,eq_items he (by omega) w _ (fun i hi=>by rw [h1];simpa using hi),all_get h1 h2]
theorem zpo {kt e:TypeId} {n:Nat} (hu:P.underlying kt=some (.array n e)) (he:P.underlying e=some (.int .i64)) (hs:szOf P e=some 1) {ks:yab} (h1:ks.length=n) (w:World):∀ (es:List MapEntry) (i:Nat) (m:List (yab×Value)),es.map (fun e=>(e.key,e.val))=m.map (fun p=>(wA p.1,p.2))->(∀ p∈m,p.1.length=n) ->
  ((Instr.findAsking kt (wA ks) es i).run P w=.ok none w∧getA ks m=none∧∀ v,setA ks v m=m++[(ks,v)]) ∨
  ∃ j e,(Instr.findAsking kt (wA ks) es i).run P w=.ok (some (i+j,e.val)) w∧getA ks m=some e.val∧es[j]?=some e∧e.key=wA ks∧∀ v,(setA ks v m).map (fun p=>(wA p.1,p.2))=(es.set j { e with key:=wA ks,val:=v }).map (fun e=>(e.key,e.val))
 | [],i,[],_,_=>.inl ⟨by simp [Instr.findAsking],rfl,fun _=>rfl⟩
 | [],_,_::_,h,_=>by simp at h
 | _::_,_,[],h,_=>by simp at h
 | x::es,i,p::m,h,hm=>by
  simp only [yar,List.cons.injEq,zkG] at h;obtain ⟨⟨hk,hv⟩,ht⟩:=h;have heq:=equal_arr hu he hs h1 (hm p (by simp)) w;by_cases hc:ks=p.1
  ·refine .inr ⟨0,x,?_,?_,rfl,by rw [hk,hc],fun v=>?_⟩
   ·rw [Instr.findAsking,Sem.run_bind,hk,heq];simp [hc]
   ·simp [getA,hc,hv]
   ·simp [setA,hc,ht]
  ·have hdc:decide (ks=p.1)=false:=by simp [hc]
   rcases zpo hu he hs h1 w es (i+1) m ht fun q hq=>hm q (by simp [hq]) with ⟨f1,f2,f3⟩ | ⟨j,y,f1,f2,f3,f4,f5⟩
   ·refine .inl ⟨?_,?_,fun v=>?_⟩
    ·rw [Instr.findAsking,Sem.run_bind,hk,heq];simp [hc,f1]
    ·simp [getA,hc,f2]
    ·simp [setA,hc,f3]
   ·refine .inr ⟨j+1,y,?_,?_,by simpa using f3,f4,fun v=>?_⟩
    ·rw [Instr.findAsking,Sem.run_bind,hk,heq];simp [hc,f1,ybf,yca 1 j]
    ·simp [getA,hc,f2]
    ·simp [setA,hc,f5,hk,hv]
theorem find_arr {kt e:TypeId} {n:Nat} (hu:P.underlying kt=some (.array n e)) {k:Value} {es:List MapEntry} (w:World):∀ {ks:yab},k=wA ks->(Instr.findKey kt k es).run P w=(Instr.findAsking kt k es 0).run P w∨(es=[]∧(Instr.findKey kt k es).run P w=.ok none w):=by
 rintro ks rfl;unfold Instr.findKey;rw [Sem.run_bind,run_underlying hu];simp only [Result.andThen_ok];cases es with
 | nil=>exact .inr ⟨rfl,rfl⟩
 | cons x es=>exact .inl (by simp [Instr.findNow,Instr.sameNow,wA])
theorem ztu {kt e:TypeId} {n:Nat} (hu:P.underlying kt=some (.array n e)) {es:List MapEntry} (w:World) (ks:yab):(Instr.findKey kt (wA ks) es).run P w=(Instr.findAsking kt (wA ks) es 0).run P w:=by
 rcases find_arr hu (es:=es) w (ks:=ks) rfl with h | ⟨rfl,h⟩
 ·exact h
 ·rw [h];simp [Instr.findAsking]
theorem agg_wA {w:World} {S:Nat->Prop} {v:Value} {ks:yab} (h:RepI w S v (.agg (ks.map fun c=>.val (.int .i64 c)))):v=wA ks:=by
 cases h with
 | agg us cs hl h1 hr =>
  unfold wA;congr 2;apply ycl;intro i;by_cases hi:i<us.length
  ·have hk:i<ks.length:=by simpa [hl] using hi
   obtain ⟨u,hu⟩:∃ u,us[i]?=some u:=⟨_,zkM hi⟩;have:=hr i u (.val (.int .i64 ks[i])) hu (by simp [zkM hk]);cases this;rw [hu];simp [zkM hk]
  ·have hk:¬ i<ks.length:=by simpa [hl] using hi
   rw [ybb (by omega),ybb (by simp;omega)]
theorem same_zip:∀ ks:yab,(((ks.map (Value.int .i64)).zip (ks.map (Value.int .i64))).all fun (x,y)=>Instr.sameBits 9999 x y)=true
 | []=>rfl
 | k::ks=>by
  rw [yar,List.zip_cons_cons,List.all_cons,same_zip ks];simp [Instr.sameBits]
theorem sameBits_wA (ks:yab):Instr.sameBits 10000 (wA ks) (wA ks)=true:=by
 unfold wA;rw [Instr.sameBits];simp only [beq_self_eq_true,Bool.true_and];exact same_zip ks
theorem zu4 {t:TypeId} {n:Nat} (h:zwz P t=some n):∃ kt et e,P.underlying t=some (.map kt et)∧zud P t=some (kt,et)∧P.underlying kt=some (.array n e)∧P.underlying e=some (.int .i64)∧szOf P e=some 1:=by
 unfold zwz at h;split at h
 ·rename_i k et hm;obtain ⟨e,h1,h2,h3⟩:=ztq h;exact ⟨k,et,e,zln hm,hm,h1,h2,h3⟩
 ·cases h
theorem aLookupA_ok {n:Nat} {t:TypeId} {x i:Operand} {ok:Bool} (hop:o.op=.lookup t x i ok) (hka:zwz P t=some n) (hd:zdh B.n o=true) (h:aLookupA P o σ K n t x i ok):∃ fx,K fx∧Eff P B o fx.rd σ fx.wr:=by
 obtain ⟨kt,et,e,a4,a8,hu,he,a5⟩:=zu4 hka;unfold aLookupA at h;split at h
 ·rename_i b7 b8 b g cs a2 hx hi;rw [a8] at a2;simp only [zkF,zkG] at a2;obtain ⟨rfl,rfl⟩:=a2;split at h
  ·rename_i l z b4 hz;obtain ⟨hg,ks,m,⟨k1,k2,k3,k4⟩,h⟩:=h.out;have h:=h.out
   have a3:∀ σ',(∀ y∈opd x++opd i++[.gen b,.knd b],σ' y=σ y)->∀ a w,Sat B σ' a w->(execOp a.eval o).run P w=.ok (.value (if ok=true then .tuple #[(getA ks m).getD z,.bool (getA ks m).isSome] else (getA ks m).getD z)) w:=fun σ' hag a w ⟨ρ,hs⟩=>by
    obtain ⟨ha,hg',a6,_⟩:=zdv hag;have h1:=za5 hs x;have h2:=za5 hs i;rw [zaj (zaq ha),hx] at h1;rw [zaj (za7 ha),hi,k1] at h2;have b5:=agg_wA h2.im_inv;have ho:=hs.obs b;rw [a6.trans b4] at ho;obtain ⟨q,b0,es,e1,e2,e3,b9⟩:=ho
    have b2:a.eval x=.map (some q):=by
     generalize a.eval x=v at h1;cases h1 with
     | osl _ _ _ _ _ hh=>rw [hh (hg'.trans hg),e1]
    have a7:∀ w,(zeroValue et).run P w=.ok z w:=fun w=>by
     unfold zeroV at hz;split at hz
     ·rename_i it b6;simp [zeroValue,typeInfo,b6,hz]
     ·cases hz
    have b3:=MapKept.run_getObj_map (P:=P) e2;have a9:=zpo hu he a5 k2 w es.toList 0 m (e3.trans k3) k4;simp only [execOp,hop,b2,b5,Instr.lookup,Sem.run_bind,run_underlying a4,Result.andThen_ok,b3,Sem.run_pure,zty hu he a5 _ k2,ztu hu];rcases a9 with ⟨f1,f2,_⟩ | ⟨j,y,f1,f2,_⟩
    ·rw [f1,f2];cases ok<;>simp [a7]
    ·rw [f1,f2];cases ok<;>simp
   split at h
   ·have h:=h.out;refine ⟨_,h,Eff.pure hd fun σ' hag a w ρ hs=>⟨_,a3 σ' hag a w ⟨ρ,hs⟩,?_⟩⟩;simp only [if_true]
    exact .tup [(getA ks m).getD z,.bool (getA ks m).isSome] _ rfl fun j u y hu hy=>by
     match j with
     | 0=>simp at hu hy;rw [<- hu,<- hy];exact zdp _
     | 1=>simp at hu hy;rw [<- hu,<- hy];exact vB_rep _
     | j+2=>simp at hu
   ·refine ⟨_,h,Eff.pure hd fun σ' hag a w ρ hs=>⟨_,a3 σ' hag a w ⟨ρ,hs⟩,?_⟩⟩;simp only [ydt,if_false];exact zdp _
  ·exact h.elim
 ·exact h.elim
theorem zv0 {n:Nat} {t:TypeId} {x i y:Operand} (hop:o.op=.mapUpdate t x i y) (hka:zwz P t=some n) (hd:zdh B.n o=true) (h:zo7 P o σ K n t x i y):∃ fx,K fx∧Eff P B o fx.rd σ fx.wr:=by
 obtain ⟨kt,et,e,a5,c7,hu,he,a9⟩:=zu4 hka;unfold zo7 at h;split at h
 ·rename_i b g cs v c6 hx hi hy;split at h
  ·rename_i l a8;obtain ⟨hg,ks,m,⟨k1,k2,k3,k4⟩,h⟩:=h.out;have h:=h.out;refine ⟨_,h,fun σ' hag a w ⟨ρ,hs⟩ K' Q hK=>?_⟩;obtain ⟨ha,hg',a6,_⟩:=zdv hag;have h1:=za5 hs x;have h2:=za5 hs i;have h3:=za5 hs y;rw [zaj (zaq (zaq ha)),hx] at h1;rw [zaj (za7 (zaq ha)),hi,k1] at h2;rw [zaj (za7 ha)] at h3;have b5:=agg_wA h2.im_inv;have hv:=zni hy h3;have ho:=hs.obs b;rw [a6.trans a8] at ho;obtain ⟨q,a3,es,e1,e2,e3,b6⟩:=ho
   have b3:a.eval x=.map (some q):=by
    generalize a.eval x=u at h1;cases h1 with
    | osl _ _ _ _ _ hh=>rw [hh (hg'.trans hg),e1]
   have b4:=MapKept.run_getObj_map (P:=P) e2;have a7:live σ' b:=by unfold live;rw [a6.trans a8];exact fun z=>by cases z
   have c0:zbw (ρ b)=some q:=by rw [e1];rfl
   have fin:∀ (a4:Array MapEntry) (a2:Nat),(a4.toList.map fun e=>(e.key,e.val))=(setA ks v m).map (fun p=>(wA p.1,p.2))->zrt a4 a2->(execOp a.eval o).run P w=.ok .skip (setBlock w q (.map a4 a2))->o.wp P a w K' Q:=fun a4 a2 b8 b0 b7=>by
    unfold Oper.wp;rw [b7,Oper.upon_skip];refine hK _ _ ⟨ρ,?_⟩
    have b9:=hs.turn (b:=b) (q:=q) (w':=setBlock w q (.map a4 a2)) (k':=.map ((setA ks v m).map fun p=>(wA p.1,p.2))) a7 c0 ⟨rfl,rfl,rfl,by simp [setBlock],fun i _ hi=>heap_setBlock_other e2 _ (fun e=>hi (by rw [e]))⟩ (fun c hc=>by unfold Owns;rw [a6.trans a8];exact hc) fun hI =>
     ⟨q,a2,a4,e1,heap_setBlock_same e2 _,b8,b0⟩
    rw [zca];exact b9.put (zkw hd) (zdp _)
   rcases zpo hu he a9 k2 w es.toList 0 m (e3.trans k3) k4 with ⟨f1,f2,f3⟩ | ⟨j,y',f1,f2,f3,f4,f5⟩
   ·refine fin (es.push { key:=wA ks,val:=v,born:=a3 }) (a3+1) (by rw [f3];simp [<- k3,e3]) (b6.push _ _) ?_;simp only [execOp,hop,b3,b5,hv,Instr.mapUpdate,Sem.run_bind,run_underlying a5,Result.andThen_ok,b4,Sem.run_pure,zty hu he a9 _ k2,ztu hu,f1,MapKept.run_setObj_map _ e2];rfl
   ·have hj:es[j]?=some y':=by rw [<- yas];exact f3
    have b2:j<es.size:=(ybu.1 hj).1;refine fin (es.modify j fun e=>{ e with key:=wA ks,val:=v }) a3 ?_ (b6.modify _ _ fun _=>rfl) ?_
    ·rw [f5];congr 1;apply ycl;intro n;rw [yas,yc2,yc6];by_cases hn:j=n
     ·subst hn;rw [if_pos rfl,if_pos rfl,if_pos (by simpa using b2),hj];rfl
     ·rw [if_neg hn,if_neg hn,yas]
    ·simp only [execOp,hop,b3,b5,hv,Instr.mapUpdate,Sem.run_bind,run_underlying a5,Result.andThen_ok,b4,Sem.run_pure,zty hu he a9 _ k2,ztu hu,f1,yae];rw [hj];simp only [yal,ybe,f4];unfold Instr.keyThatStays;rw [sameBits_wA];simp only [if_true,Sem.run_pure,Result.andThen_ok,MapKept.run_setObj_map _ e2];rfl
  ·exact h.elim
 ·exact h.elim
end
end
section
section
variable {P:Program} {B:Base} {o:Oper} {σ:St} {K:Fx->Prop}
theorem zpf {α:Type} {p:α->Prop}:∀ (ds cs:List α) (i:Nat),(∀ x∈cs,p x)->(∀ x∈ds,p x)->∀ x∈zi0 cs i ds,p x
 | [],cs,i,h,_=>h
 | d::ds,cs,i,h,k=>by
  rw [zi0];refine zpf ds _ _ (fun x hx=>?_) fun x hx=>k x (by simp [hx]);rcases ycb hx with h1 | h1
  ·exact h x h1
  ·rw [h1];exact k d (by simp)
theorem znj (off:Nat):∀ (vs:List Value) (j:Nat) (cells:Array Value),((vs.zipIdx j).foldl (fun cs (p:Value×Nat)=>cs.setIfInBounds (off+p.2) p.1) cells).toList=zi0 cells.toList (off+j) vs
 | [],j,cells=>rfl
 | v::vs,j,cells=>by
  rw [List.zipIdx_cons,List.foldl_cons,znj off vs,zi0,Array.toList_setIfInBounds,ybf]
theorem zns {w:World} {S:Nat->Prop} {ρ:Ly} {γ:Nat->Nat}:∀ {vs:List Value} {ds:List AV} {us:List Value} {cs:List AV} (i:Nat),Reps w S ρ γ us cs->Reps w S ρ γ vs ds->Reps w S ρ γ (zi0 us i vs) (zi0 cs i ds)
 | [],[],us,cs,i,h,_=>h
 | v::vs,d::ds,us,cs,i,h,k=>by
  rw [zi0,zi0];refine zns (i+1) ⟨by simpa using h.1,fun j u x hu hx=>?_⟩ ⟨by simpa using k.1,fun j u x hu hx=>k.2 (j+1) u x (by simpa using hu) (by simpa using hx)⟩;rw [yc6] at hu hx;by_cases e:i=j
  ·rw [if_pos e] at hu hx;split at hu
   ·rename_i h1;rw [if_pos (by rw [<- h.1];exact h1)] at hx;injection hu with hu
    injection hx with hx
    rw [<- hu,<- hx];exact k.2 0 v d rfl rfl
   ·cases hu
  ·rw [if_neg e] at hu hx;exact h.2 j u x hu hx
 | [],_::_,_,_,_,_,h=>by have:=h.1;simp at this
 | _::_,[],_,_,_,_,h=>by have:=h.1;simp at this
theorem plc_get {t:TypeId} {ps:yad} (h:plcOf P t=some ps) {i off ft m:Nat} (hf:fldOf P t i=some (off,ft)) (hm:szOf P ft=some m):ps.toArray[i]?=some (off,m):=by
 obtain ⟨fs,x,hu,hx,ho,ht⟩:=fld_spec hf;unfold plcOf at h;rw [hu] at h;simp only at h
 have key:∀ (l:List Field) (ps:yad),l.mapM (fun f=>(P.info? f.type).map fun i=>(f.offset,i.size))=some ps->∀ (i:Nat) x,l[i]?=some x->∀ m,szOf P x.type=some m->ps[i]?=some (x.offset,m):=by
  intro l
  induction l with
  | nil=>intro ps _ i x hx;simp at hx
  | cons f l ih =>
   intro ps hp i x hx m hm;simp only [List.mapM_cons,Option.bind_eq_bind,Option.pure_def] at hp;cases hi:P.info? f.type with
   | none=>simp [hi] at hp
   | some ii =>
    cases hr:l.mapM (fun f=>(P.info? f.type).map fun i=>(f.offset,i.size)) with
    | none=>simp [hi,hr] at hp
    | some rest =>
     simp [hi,hr] at hp;subst hp;cases i with
     | zero =>
      simp at hx;subst hx;unfold szOf at hm;rw [hi] at hm;simp at hm;simp [hm]
     | succ i=>simpa using ih rest hr i x (by simpa using hx) m hm
 have:=key fs.toList ps h i x (by rw [yas];exact hx) m (by rw [ht];exact hm);rw [<- ho];simpa using this
theorem zul {t:TypeId} {ps:yad} (hps:plcOf P t=some ps) {σ':St} {a:Act} {w:World} {ρ:Ly} (h:SatR B σ' a w ρ):∀ {l:List (Nat×Operand)} {cs cs':List AV} {cells:Array Value},buildA P t σ l cs=some cs'->(∀ y∈opdL (l.map (·.2)),σ' y=σ y) ->
  Reps w (Imm B σ' ρ w) ρ σ'.gn cells.toList cs->(∀ u∈cells.toList,u.oneCell'=true)->∃ cells',Instr.fill (ps.toArray[·]?) cells (l.map fun p=>(p.1,a.eval p.2))=some cells'∧Reps w (Imm B σ' ρ w) ρ σ'.gn cells'.toList cs'∧∀ u∈cells'.toList,u.oneCell'=true
 | [],cs,cs',cells,e,_,hr,h1=>by
  simp only [buildA,zkF] at e;subst e;exact ⟨cells,rfl,hr,h1⟩
 | (i,x)::l,cs,cs',cells,e,hag,hr,h1=>by
  simp only [buildA] at e;split at e
  ·rename_i off ft vs hf hc;split at e
   ·rename_i m hm;split at e
    ·rename_i hchk;rw [yaq] at hchk;have hml:m=vs.length:=by simpa using hchk.1
     have a5:=zho hchk.2;have hx:=za5 h x;rw [zaj fun y hy=>hag y (by simp only [yar,opdL,ya5];exact yan _ hy)] at hx;have r1:=ziz hc hx;have r2:=zis hc hx;have a6:(a.eval x).cells.size=m:=by rw [hml,<- r1.1];simp
     have a2:=znj off (a.eval x).cells.toList 0 cells;rw [ybs] at a2;generalize a3:((a.eval x).cells.zipIdx.foldl (fun cs (p:Value×Nat)=>cs.setIfInBounds (off+p.2) p.1) cells)=cells1
     have a4:cells1.toList=zi0 cells.toList off (a.eval x).cells.toList:=by
      rw [<- a2,<- a3,<- Array.foldl_toList,Array.toList_zipIdx]
     obtain ⟨cells',q1,q2,q3⟩:=zul hps h (l:=l) (cells:=cells1) e (fun y hy=>hag y (by simp only [yar,opdL,ya5];exact yai _ hy)) (by rw [a4];exact zns off hr r1) (by rw [a4];exact zpf _ _ _ h1 r2);refine ⟨cells',?_,q2,q3⟩;rw [<- q1,<- a3]
     have hg:¬ ((a.eval x).cells.size≠m∨off+(a.eval x).cells.size > cells.size):=by
      have:=hr.1;simp at this;omega
     simp only [yar,Instr.fill,plc_get hps hf hm];rw [if_neg (by simpa using hg)]
    ·cases e
   ·cases e
  ·cases e
theorem aBuild_ok {t:TypeId} {parts:Array (Nat×Operand)} (hop:o.op=.build t parts) (hd:zdh B.n o=true) (h:aBuild P o σ K t parts):∃ fx,K fx∧Eff P B o fx.rd σ fx.wr:=by
 unfold aBuild at h;split at h
 ·rename_i z hz;split at h
  ·rename_i cs a7;obtain ⟨a2,h⟩:=h.ok;rw [yaq] at a2;refine ⟨_,h,Eff.pure hd fun σ' hag a w ρ hs=>?_⟩;obtain ⟨ps,a4⟩:=yej.1 a2.1
   obtain ⟨it,zv,a8,a3,a5⟩:∃ it zv,P.info? t=some it∧it.zero=some zv∧zv.cells.toList=z:=by
    unfold zeroOf at hz;split at hz
    ·rename_i i hi;cases a3:i.zero with
     | none=>rw [a3] at hz;cases hz
     | some zv =>
      rw [a3] at hz;simp only [yal,zkF] at hz;exact ⟨i,zv,hi,a3,hz⟩
    ·cases hz
   obtain ⟨fs,hu,a6⟩:∃ fs,P.underlying t=some (.struct fs)∧fs.toList.mapM (fun f=>(P.info? f.type).map fun i=>(f.offset,i.size))=some ps:=by
    unfold plcOf at a4;split at a4
    ·rename_i fs hu;exact ⟨fs,hu,a4⟩
    ·cases a4
   obtain ⟨cells',q1,q2,q3⟩:=zul a4 hs (cells:=zv.cells) a7 hag (by rw [a5];exact ⟨by simp,fun i u y hu hy=>by
    simp only [yam,hu,yal,zkF] at hy
    rw [<- hy]
    exact .im _ _ (.val _)⟩) (by rw [a5];exact fun u hu=>ya9.1 a2.2 u hu)
   refine ⟨.agg cells',?_,by simpa using zog q2 q3⟩
   have hb:P.built t (parts.map fun (i,x)=>(i,a.eval x)).toList=some cells':=by
    unfold Program.built;simp only [a8,hu,a3,a6,yb8];exact q1
   simp only [execOp,hop,Sem.run_bind,run_build w t _ cells' hb,Result.andThen_ok,Sem.run_pure]
  ·exact h.elim
 ·exact h.elim
theorem zux {pl:Nat->Option (Nat×Nat)} {σ':St} {a:Act} {w:World} {ρ:Ly} (h:SatR B σ' a w ρ):∀ {l:List (Nat×Operand)} {cs cs':List AV} {cells:Array Value},buildG pl σ l cs=some cs'->(∀ y∈opdL (l.map (·.2)),σ' y=σ y) ->
  Reps w (Imm B σ' ρ w) ρ σ'.gn cells.toList cs->(∀ u∈cells.toList,u.oneCell'=true)->∃ cells',Instr.fill pl cells (l.map fun p=>(p.1,a.eval p.2))=some cells'∧Reps w (Imm B σ' ρ w) ρ σ'.gn cells'.toList cs'∧∀ u∈cells'.toList,u.oneCell'=true
 | [],cs,cs',cells,e,_,hr,h1=>by
  simp only [buildG,zkF] at e;subst e;exact ⟨cells,rfl,hr,h1⟩
 | (i,x)::l,cs,cs',cells,e,hag,hr,h1=>by
  simp only [buildG] at e;split at e
  ·rename_i off m vs hf hc;split at e
   ·rename_i hchk;rw [yaq] at hchk;have hml:m=vs.length:=by simpa using hchk.1
    have a5:=zho hchk.2;have hx:=za5 h x;rw [zaj fun y hy=>hag y (by simp only [yar,opdL,ya5];exact yan _ hy)] at hx;have r1:=ziz hc hx;have r2:=zis hc hx;have a6:(a.eval x).cells.size=m:=by rw [hml,<- r1.1];simp
    have a2:=znj off (a.eval x).cells.toList 0 cells;rw [ybs] at a2;generalize a3:((a.eval x).cells.zipIdx.foldl (fun cs (p:Value×Nat)=>cs.setIfInBounds (off+p.2) p.1) cells)=cells1
    have a4:cells1.toList=zi0 cells.toList off (a.eval x).cells.toList:=by
     rw [<- a2,<- a3,<- Array.foldl_toList,Array.toList_zipIdx]
    obtain ⟨cells',q1,q2,q3⟩:=zux h (l:=l) (cells:=cells1) e (fun y hy=>hag y (by simp only [yar,opdL,ya5];exact yai _ hy)) (by rw [a4];exact zns off hr r1) (by rw [a4];exact zpf _ _ _ h1 r2);refine ⟨cells',?_,q2,q3⟩;rw [<- q1,<- a3]
    have hg:¬ ((a.eval x).cells.size≠m∨off+(a.eval x).cells.size > cells.size):=by
     have:=hr.1;simp at this;omega
    simp only [yar,Instr.fill,hf];rw [if_neg (by simpa using hg)]
   ·cases e
  ·cases e
theorem aBuildR_ok {t et:TypeId} {n:Nat} {parts:Array (Nat×Operand)} (hop:o.op=.build t parts) (ht:arrOf P t=some (n,et)) (hd:zdh B.n o=true) (h:aBuildR P o σ K t et parts):∃ fx,K fx∧Eff P B o fx.rd σ fx.wr:=by
 unfold aBuildR at h;split at h
 ·rename_i z m hz hm;split at h
  ·rename_i cs a8;obtain ⟨a4,h⟩:=h.ok;refine ⟨_,h,Eff.pure hd fun σ' hag a w ρ hs=>?_⟩
   obtain ⟨it,zv,a7,a2,a3⟩:∃ it zv,P.info? t=some it∧it.zero=some zv∧zv.cells.toList=z:=by
    unfold zeroOf at hz;split at hz
    ·rename_i i hi;cases a2:i.zero with
     | none=>rw [a2] at hz;cases hz
     | some zv =>
      rw [a2] at hz;simp only [yal,zkF] at hz;exact ⟨i,zv,hi,a2,hz⟩
    ·cases hz
   obtain ⟨ie,a6,a5⟩:∃ ie,P.info? et=some ie∧ie.size=m:=by
    unfold szOf at hm;cases hi:P.info? et with
    | none=>rw [hi] at hm;cases hm
    | some i =>
     rw [hi] at hm;simp only [yal,zkF] at hm;exact ⟨i,rfl,hm⟩
   obtain ⟨cells',q1,q2,q3⟩:=zux hs (cells:=zv.cells) a8 hag (by rw [a3];exact ⟨by simp,fun i u y hu hy=>by
    simp only [yam,hu,yal,zkF] at hy
    rw [<- hy]
    exact .im _ _ (.val _)⟩) (by rw [a3];exact fun u hu=>ya9.1 a4 u hu)
   refine ⟨.agg cells',?_,by simpa using zog q2 q3⟩
   have hb:P.built t (parts.map fun (i,x)=>(i,a.eval x)).toList=some cells':=by
    unfold Program.built;simp only [a7,zs4 ht,a2,a6,a5,yb8];exact q1
   simp only [execOp,hop,Sem.run_bind,run_build w t _ cells' hb,Result.andThen_ok,Sem.run_pure]
  ·exact h.elim
 ·exact h.elim
theorem aIndexX_ok {t:TypeId} {x i:Operand} (hop:o.op=.index t x i) (hd:zdh B.n o=true) (h:aIndexX P o σ K t x i):∃ fx,K fx∧Eff P B o fx.rd σ fx.wr:=by
 unfold aIndexX at h;split at h
 ·rename_i n et cs k j ht a8 hj;split at h
  ·rename_i m a4 hm;obtain ⟨hi,h'⟩:=h.ok;clear h;rw [yaq] at hi;have hn:n=2:=by simpa using hi.1
   have a9:=zho hi.2;subst hn;have hu:=zs4 ht
   have a3:∀ (q:Nat),j=(↑q:Int)->q<2->∀ σ',(∀ l∈opd x++opd i,σ' l=σ l)->∀ a w ρ,SatR B σ' a w ρ->∃ u,(execOp a.eval o).run P w=.ok (.value u) w∧RepA w (Imm B σ' ρ w) ρ σ'.gn u (aggA ((cs.drop (q*m)).take m)):=fun q hq hq2 σ' hag a w ρ hs=>by
    have h1:=za5 hs x;rw [zaj (zaq hag)] at h1;have h2:=za5 hs i;rw [zaj (za7 hag)] at h2;obtain ⟨us,hv,hr,a2⟩:=znz a8 h1;have a6:=zc1 hj h2;have ha:=zrr a4 w;have hz:=zh1 hm w;refine ⟨.agg ((us.drop (q*m)).take m).toArray,?_,zog ⟨by simp [hr.1],fun j u y hj a5=>?_⟩ fun u a7=>a2 u (ya3 (yaz a7))⟩
    ·have e1:(0:Int)<=j∧j<2:=by omega
     have e2:j.toNat=q:=by omega
     simp [execOp,hop,hv,a6,Instr.index,asIntOf,run_underlying hu,part,ha,hz,e1,e2]
    ·exact hr.2 _ u y (zdr hj).1 (zdr a5).1
   have h:=h'.out;by_cases e:j=0
   ·refine ⟨_,h.1 (zkB e),Eff.pure hd fun σ' hag a w ρ hs=>?_⟩;have:=a3 0 (by omega) (by omega) σ' hag a w ρ hs;simpa using this
   ·obtain ⟨h1,h⟩:=(h.2 (zkA e)).out;refine ⟨_,h,Eff.pure hd fun σ' hag a w ρ hs=>?_⟩;have:=a3 1 (by omega) (by omega) σ' hag a w ρ hs;simpa using this
  ·exact h.elim
 ·exact h.elim
theorem zmd {t:TypeId} {k:Nat} (h:szOf P t=some k):∃ b,byteOf P t=some b:=by
 unfold szOf at h;unfold byteOf;cases hi:P.info? t with
 | none=>rw [hi] at h;cases h
 | some i=>exact ⟨i.bytes,rfl⟩
theorem aOp_ok {C:FuncId->List Arg->Rs->Prop} (hC:∀ g xs r,C g xs r->SpX P g xs r) {own:List Nat} (hd:zdh B.n o=true) (h:aOp P own o σ K C):∃ fx,K fx∧Eff P B o fx.rd σ fx.wr:=by
 unfold aOp at h;split at h
 ·rename_i x a2;exact aMoves_ok (.inl a2) hd h
 ·rename_i x a2;exact aMoves_ok (.inr a2) hd h
 ·rename_i c x y a2;exact aPick_ok a2 hd h
 ·rename_i t p a2;unfold aLoads at h;split at h
  ·rename_i hp;exact aLoadS_ok a2 hp hd h
  ·rename_i hp;split at h
   ·exact aLoadG_ok a2 hp hd h
   ·split at h
    ·rename_i hw;exact aLoadA_ok a2 hp hw hd h
    ·exact aLoad_ok a2 hd h
  ·exact aLoad_ok a2 hd h
 ·rename_i t p x a2;split at h
  ·rename_i hp;split at h
   ·exact aStoreG_ok a2 hp hd h
   ·exact aStoreE_ok a2 hd hp h
  ·rename_i hp;exact aStoreS_ok a2 hp hd h
  ·exact aStore_ok a2 hd h
 ·rename_i t x a2;exact aBox_ok a2 hd h
 ·rename_i t a2;exact aAllocs_ok a2 hd h
 ·rename_i t p f a2;exact aFieldAddr_ok a2 hd h
 ·rename_i t x f a2;exact aField_ok a2 hd h
 ·rename_i t x i a2;unfold aIndexes at h;split at h
  ·rename_i hx;exact aIndexV_ok a2 hx hd h
  ·rename_i hx;exact aIndexS_ok a2 hx hd h
  ·rename_i hx;split at h
   ·exact aIndexG_ok a2 hx hd h
   ·exact zqp a2 hd h
  ·split at h
   ·rename_i ht;exact aIndexA_ok a2 ht hd h
   ·exact zqp a2 hd h
 ·rename_i t x lo hi mx a2;cases mx with
  | some m=>exact aSlice3_ok a2 hd h
  | none =>
  replace h:aSlices P o σ K t x lo hi:=h;unfold aSlices at h;split at h
  ·rename_i hx;split at h
   ·split at h
    ·exact aSliceQ_ok a2 hx hd h
    ·exact aSliceV_ok a2 hx hd h
   ·exact aSliceT_ok a2 hx hd h
   ·exact h.elim
  ·exact aSlice_ok a2 hd h
 ·rename_i t parts a2;unfold aBuilds at h;split at h
  ·rename_i ht;exact aBuildR_ok a2 ht hd h
  ·exact aBuild_ok a2 hd h
 ·rename_i t x i a2;exact aIndexX_ok a2 hd h
 ·rename_i t len parts a2;split at h
  ·rename_i d0 b4;split at h
   ·split at h
    ·refine aBuildG2_ok a2 hd (fun et a7=>?_) h;unfold zs5 at h;split at h
     ·rename_i d b3 x y a8 a5 hp;rw [a7] at a5;injection a5 with a5
      subst a5;split at h
      ·rename_i k r gr q gq hk hx hy;exact zmd hk
      ·exact h.elim
     ·exact h.elim
    ·refine aBuildG_ok a2 hd (fun et a7=>?_) h;unfold aBuildG at h;split at h
     ·rename_i d b3 x a8 a5 hp;rw [a7] at a5;injection a5 with a5
      subst a5;split at h
      ·rename_i k r gr hk hx;exact zmd hk
      ·exact h.elim
     ·exact h.elim
   ·refine zv9 a2 hd (fun et a7=>?_) h;unfold zmm at h;split at h
    ·rename_i d b3 a8 a5;rw [a7] at a5;injection a5 with a5
     subst a5;split at h
     ·rename_i k vs bs hk _;exact zmd hk
     ·exact h.elim
    ·exact h.elim
  ·exact h.elim
 ·rename_i x i a2;exact aExtract_ok a2 hd h
 ·rename_i op t x y t' a2;unfold aBins at h;split at h
  ·exact aBinS_ok a2 hd h
  ·split at h
   ·rename_i hp;exact aBinN_ok a2 hp hd h
   ·split at h
    ·rename_i hp;exact aBinZ_ok a2 hp hd h
    ·exact aBin_ok a2 hd h
 ·rename_i op t x a2;exact aUn_ok a2 hd h
 ·rename_i src dst x a2;obtain ⟨hm,h⟩:=h.ok;exact aConvert_ok a2 hd (yej.1 hm) h
 ·rename_i fn first b2 a2;exact aMakeFunc_ok a2 hd h
 ·rename_i x a2;exact aNilCheck_ok a2 hd h
 ·rename_i t len b5 a2;exact aMakeSlice_ok a2 hd h
 ·rename_i t r a2;exact aMakeMap_ok a2 hd h
 ·rename_i t x i ok a2;split at h
  ·rename_i b0;exact aLookupA_ok a2 b0 hd h
  ·exact aLookup_ok a2 hd h
 ·rename_i t x i y a2;split at h
  ·rename_i b0;exact zv0 a2 b0 hd h
  ·exact aMapUpdate_ok a2 hd h
 ·rename_i c a2;unfold aCalls at h;split at h
  ·rename_i b a4;unfold aBuiltin at h;split at h
   ·split at h
    ·rename_i x a3;split at h
     ·rename_i t ts a6;unfold aLens at h;split at h
      ·rename_i hx;split at h
       ·rename_i he;exact aLenV_ok a2 a4 a3 a6 he hx hd h
       ·exact h.elim
      ·rename_i hx;split at h
       ·rename_i he;exact aLenS_ok a2 a4 a3 a6 he hx hd h
       ·exact h.elim
      ·rename_i hx;split at h
       ·split at h
        ·rename_i he;exact aLenG_ok a2 a4 a3 a6 he hx hd h
        ·exact h.elim
       ·split at h
        ·rename_i hm hk;exact aLenM_ok a2 a4 a3 a6 hm hx hk hd h
        ·exact aLen_ok a2 a4 a3 a6 hd h
      ·exact aLen_ok a2 a4 a3 a6 hd h
     ·exact h.elim
    ·exact h.elim
   ·split at h
    ·rename_i x y a3;split at h
     ·rename_i t t' a6;obtain ⟨a9,h⟩:=h.ok;have a9:t'=t:=by simpa using a9
      subst a9;split at h
      ·rename_i hx;split at h
       ·rename_i hy;exact aAppendT_ok a2 a4 (by rw [<- ybz (xs:=c.args),a3]) (by rw [<- ybz (xs:=c.argTypes),a6]) hx hy hd h
       ·exact aAppendS_ok a2 a4 (by rw [<- ybz (xs:=c.args),a3]) (by rw [<- ybz (xs:=c.argTypes),a6]) hx hd h
      ·split at h
       ·rename_i hy;exact aAppendG_ok a2 a4 (by rw [<- ybz (xs:=c.args),a3]) (by rw [<- ybz (xs:=c.argTypes),a6]) hy hd h
       ·exact aAppend_ok a2 a4 (by rw [<- ybz (xs:=c.args),a3]) (by rw [<- ybz (xs:=c.argTypes),a6]) hd h
     ·exact h.elim
    ·exact h.elim
   ·split at h
    ·rename_i x y a3;exact aMax_ok a2 a4 a3 hd h
    ·exact h.elim
   ·split at h
    ·rename_i x y a3;exact aMin_ok a2 a4 a3 hd h
    ·rename_i x y z a3;exact aMin3_ok a2 a4 a3 hd h
    ·exact h.elim
   ·split at h
    ·rename_i x t ts a3 a6;exact aClear_ok a2 a4 a3 a6 hd h
    ·exact h.elim
   ·split at h
    ·rename_i x y t t' a3 a6;exact aCopy_ok a2 a4 a3 a6 hd h
    ·exact h.elim
   ·split at h
    ·rename_i x y t t' a3 a6;exact aDelete_ok a2 a4 a3 a6 hd h
    ·exact h.elim
   ·exact h.elim
  ·rename_i f a4;split at h
   ·split at h
    ·exact aCallH_ok hC a2 a4 hd h
    ·split at h
     ·split at h
      ·exact aCallR_ok hC a2 a4 hd h
      ·exact aCallA_ok hC a2 a4 hd h
     ·exact aCall_ok hC a2 a4 hd h
   ·exact h.elim
  ·exact h.elim
 ·exact h.elim
def EffG (P:Program) (B:Base) (ops:Array Oper) (o:Oper) (rd:List Loc) (σ:St) (wr:List (Loc×Ct)):Prop :=
 ∀ σ',(∀ l∈rd,σ' l=σ l)->∀ a w,Sat B σ' a w->∀ (K:Act->World->Prop) (Q:Exit->Act->World->Prop),(∀ a' w',Sat B (app σ' wr) a' w'->K a' w') ->
  if Region.wanted o (yielded ops a.tmps)=true then o.wp P a w K Q else K (a.put o.dst undef) w
theorem aGuard_ok {C:FuncId->List Arg->Rs->Prop} (hC:∀ g xs r,C g xs r->SpX P g xs r) {own:List Nat} {ops:Array Oper} (h:aGuard P C B.n own ops.toList o σ K):∃ fx,K fx∧EffG P B ops o fx.rd σ fx.wr:=by
 unfold aGuard at h;obtain ⟨hd,h⟩:=h.ok;split at h
 ·rename_i hg;obtain ⟨fx,hk,he⟩:=aOp_ok (B:=B) hC hd h;refine ⟨fx,hk,fun σ' hag a w hs K' Q hK=>?_⟩;have:Region.wanted o (yielded ops a.tmps)=true:=by simp [Region.wanted,hg]
  rw [if_pos this];exact he σ' hag a w hs K' Q hK
 ·rename_i j a2 hg;split at h
  ·rename_i t ht;split at h
   ·rename_i b hb
    have hy:∀ σ' a w,σ' (.tmp t)=σ (.tmp t)->Sat B σ' a w->yielded ops a.tmps j=some b:=fun σ' a w hag ⟨ρ,hs⟩=>by
     have h1:=hs.tms t;have e:σ'.av t=σ.av t:=by unfold St.av;rw [hag]
     rw [e] at h1;have h2:=zj2 hb h1;have hj:(ops[j]?).bind (·.dst)=some t:=by rw [<- yas];exact ht
     have a4:a.tmps[t]?=some (.bool b):=by
      rw [ycp] at h2;cases hc:a.tmps[t]? with
      | none=>rw [hc] at h2;cases h2
      | some v=>rw [hc] at h2;simp only [ybe] at h2;rw [h2]
     unfold yielded;rw [hj];simp only [yb3,a4]
    have hw:∀ σ' a w,σ' (.tmp t)=σ (.tmp t)->Sat B σ' a w->Region.wanted o (yielded ops a.tmps)=(b==a2):=fun σ' a w hag hs=>by
     simp only [Region.wanted,hg,hy σ' a w hag hs];cases b<;>cases a2<;>rfl
    have h:=h.out;cases hbw:(b==a2) with
    | true =>
     obtain ⟨fx,hk,he⟩:=aOp_ok (B:=B) hC hd (h.1 hbw);refine ⟨_,hk,fun σ' hag a w hs K' Q hK=>?_⟩;rw [if_pos (by rw [hw σ' a w (hag _ (by simp)) hs];exact hbw)];exact he σ' (fun l hl=>hag l (by simp [hl])) a w hs K' Q hK
    | false =>
     refine ⟨_,h.2 hbw,fun σ' hag a w hs K' Q hK=>?_⟩;rw [if_neg (by rw [hw σ' a w (hag _ (by simp)) hs,hbw];simp)];obtain ⟨ρ,hs⟩:=hs;exact hK _ _ ⟨ρ,hs.put (zkw hd) (zdp _)⟩
   ·split at h
    ·rename_i v hv;obtain ⟨a3,h⟩:=h.ok
     have hw:∀ σ' a w,σ' (.tmp t)=σ (.tmp t)->Sat B σ' a w->Region.wanted o (yielded ops a.tmps)=false:=fun σ' a w hag ⟨ρ,hs⟩=>by
      have h1:=hs.tms t;have e:σ'.av t=σ.av t:=by unfold St.av;rw [hag]
      rw [e,hv] at h1;have h2:=h1.im_inv;have hj:(ops[j]?).bind (·.dst)=some t:=by rw [<- yas];exact ht
      have hy:yielded ops a.tmps j=none:=by
       unfold yielded;rw [hj];simp only [yb3];cases hc:a.tmps[t]? with
       | none=>rfl
       | some u =>
        have e2:a.tmps.getD t undef=u:=by rw [ycp,hc];rfl
        rw [e2] at h2;obtain rfl:u=v:=by cases h2;rfl
        cases u<;>first | rfl | (cases a3)
      simp only [Region.wanted,hg,hy];rfl
     refine ⟨_,h,fun σ' hag a w hs K' Q hK=>?_⟩;rw [if_neg (by rw [hw σ' a w (hag _ (by simp)) hs];simp)];obtain ⟨ρ,hs⟩:=hs;exact hK _ _ ⟨ρ,hs.put (zkw hd) (zdp _)⟩
    ·exact h.elim
  ·exact h.elim
end
inductive Runs (P:Program) (B:Base) (ops:Array Oper):List Nat->St->List (Nat×Fx)->St->Prop
 | nil (σ:St):Runs P B ops [] σ [] σ
 | cons (i:Nat) (o:Oper) (l:List Nat) (σ σ':St) (fx:Fx) (fs:List (Nat×Fx)) (ho:ops[i]?=some o) (he:EffG P B ops o fx.rd σ fx.wr) (h:Runs P B ops l (app σ fx.wr) fs σ'):Runs P B ops (i::l) σ ((i,fx)::fs) σ'
section
variable {P:Program} {B:Base} {ops:Array Oper}
theorem aOps_runs {C:FuncId->List Arg->Rs->Prop} (hC:∀ g xs r,C g xs r->SpX P g xs r) {own:List Nat}:∀ (l:List Oper) (k:Nat) (fs0:List Mk) (σ:St) (K:List Mk->St->Prop),(∀ j,l[j]?=ops[k+j]?) ->
  aOps P C B.n own ops.toList l fs0 σ K->∃ fs σ',Runs P B ops (List.range' k l.length) σ fs σ'∧K (fs0++fs.map fun p=>fxm p.2) σ'
 | [],k,fs0,σ,K,_,h=>⟨[],σ,.nil σ,by simpa [aOps] using h⟩
 | o::l,k,fs0,σ,K,hl,h=>by
  simp only [aOps] at h;obtain ⟨fx,h2,he⟩:=aGuard_ok (B:=B) hC h;rw [frcF_eq] at h2;obtain ⟨fs,σ',hr,hk⟩:=aOps_runs hC l (k+1) (fs0++[fxm fx]) (app σ fx.wr) K (fun j=>by have:=hl (j+1);simpa [ybf,yca 1 j] using this) h2;have ho:ops[k]?=some o:=by have:=hl 0;simpa using this.symm
  refine ⟨(k,fx)::fs,σ',?_,by simpa using hk⟩;rw [zkL,List.range'_succ];exact .cons k o _ σ σ' fx fs ho he hr
theorem wanted_wp {o:Oper} {i:Nat} (ho:ops[i]?=some o) {a:Act} {w:World} {K:Act->World->Prop} {Q:Exit->Act->World->Prop} (h:if Region.wanted o (yielded ops a.tmps)=true then o.wp P a w K Q else K (a.put o.dst undef) w):wpOp P ops Q i K a w:=by
 unfold wpOp;simp only [ho];split
 ·rename_i hw;rw [if_pos hw] at h;exact .inl h
 ·rename_i hw;rw [if_neg hw] at h;exact h
theorem runs_wp {l:List Nat} {σ σ':St} {fs:List (Nat×Fx)} (h:Runs P B ops l σ fs σ'):∀ {a:Act} {w:World} {Q:Exit->Act->World->Prop},Sat B σ a w->(∀ a' w',Sat B σ' a' w'->Q .normal a' w')->wpOps P ops Q l a w:=by
 induction h with
 | nil σ=>intro a w Q hs hQ;exact hQ a w hs
 | cons i o l σ σ' fx fs ho he hr ih =>
  intro a w Q hs hQ;rw [wpOps_cons];exact wanted_wp ho (he σ (fun _ _=>rfl) a w hs _ Q fun a' w' a2=>ih a2 hQ)
theorem zmj {σ:St} {l:Loc}:∀ {wr:List (Loc×Ct)},(∀ p∈wr,p.1≠l)->(app σ wr) l=σ l:=by
 intro wr
 induction wr generalizing σ with
 | nil=>intro _;rfl
 | cons p wr ih =>
  intro h;show (app (upd σ p.1 p.2) wr) l=σ l;rw [ih fun q hq=>h q (yaw _ hq)];rw [ze4,if_neg (fun e=>h p ycc e.symm)]
theorem app_in {l:Loc}:∀ {wr:List (Loc×Ct)} {σ τ:St},(∃ p∈wr,p.1=l)->(app σ wr) l=(app τ wr) l:=by
 intro wr
 induction wr with
 | nil=>intro σ τ h;obtain ⟨p,hp,_⟩:=h;cases hp
 | cons p wr ih =>
  intro σ τ h;show (app (upd σ p.1 p.2) wr) l=(app (upd τ p.1 p.2) wr) l;by_cases hw:∃ q∈wr,q.1=l
  ·exact ih hw
  ·have hn:∀ q∈wr,q.1≠l:=fun q hq e=>hw ⟨q,hq,e⟩;rw [zmj hn,zmj hn];obtain ⟨q,hq,e⟩:=h;rcases yau.1 hq with rfl | hq
   ·rw [ze4,ze4,if_pos e.symm,if_pos e.symm]
   ·exact absurd e (hn q hq)
theorem app_comm {u v:List (Loc×Ct)} (h:∀ p∈u,∀ q∈v,p.1≠q.1) (σ:St):app (app σ u) v=app (app σ v) u:=by
 funext l;by_cases hu:∃ p∈u,p.1=l
 ·have hv:∀ q∈v,q.1≠l:=fun q hq e=>by
   obtain ⟨p,hp,e'⟩:=hu;exact h p hp q hq (e'.trans e.symm)
  rw [zmj hv];exact app_in hu
 ·have hn:∀ p∈u,p.1≠l:=fun p hp e=>hu ⟨p,hp,e⟩;rw [zmj (σ:=app σ v) hn];by_cases hv:∃ q∈v,q.1=l
  ·exact app_in hv
  ·have hm:∀ q∈v,q.1≠l:=fun q hq e=>hv ⟨q,hq,e⟩;rw [zmj hm,zmj hm,zmj hn]
theorem bit1_eq (m:Nat) (l:Loc):bit1 m l=Nat.lor m (Nat.pow 2 l.code):=by unfold bit1;rw [p2_eq];rfl
theorem bit1_old (m:Nat) (l:Loc) (i:Nat) (h:m.testBit i=true):(bit1 m l).testBit i=true:=by
 rw [bit1_eq];show (m ||| 2^l.code).testBit i=true
 rw [yea,h,Bool.true_or]
theorem bit1_new (m:Nat) (l:Loc):(bit1 m l).testBit l.code=true:=by
 rw [bit1_eq];show (m ||| 2^l.code).testBit l.code=true
 rw [yea,Nat.testBit_two_pow_self,Bool.or_true]
theorem mskR_old (ls:List Loc):∀ (m i:Nat),m.testBit i=true->(mskR ls m).testBit i=true:=by
 induction ls with
 | nil=>intro m i h;exact h
 | cons l r ih=>intro m i h;exact ih _ i (bit1_old m l i h)
theorem mskR_mem {l:Loc} (ls:List Loc):∀ (m:Nat),l∈ls->(mskR ls m).testBit l.code=true:=by
 induction ls with
 | nil=>intro m h;cases h
 | cons l' r ih =>
  intro m h;rcases yau.1 h with rfl | h
  ·exact mskR_old r _ _ (bit1_new m l)
  ·exact ih _ h
theorem mskW_eq (ps:List (Loc×Ct)):∀ m:Nat,mskW ps m=mskR (ps.map (·.1)) m:=by
 induction ps with
 | nil=>intro m;rfl
 | cons p r ih=>intro m;exact ih _
theorem zra {a b i:Nat} (h:Nat.land a b=0) (ha:a.testBit i=true) (hb:b.testBit i=true):False:=by
 have:(a &&& b).testBit i=true:=by rw [Nat.testBit_and,ha,hb];rfl
 rw [show a &&& b=0 from h,Nat.zero_testBit] at this;cases this
theorem indep_spec {f g:Fx} (h:indep f g=true):(∀ p∈f.wr,p.1∉g.rd)∧(∀ p∈f.wr,∀ q∈g.wr,p.1≠q.1)∧∀ p∈g.wr,p.1∉f.rd:=by
 unfold indep indepM at h;have h:=yaf h;obtain ⟨a2,h3⟩:=Nat.or_eq_zero_iff.1 (show (Nat.lor (Nat.land (fxm f).2 (fxm g).1) (Nat.land (fxm f).2 (fxm g).2)) ||| Nat.land (fxm g).2 (fxm f).1=0 from h);obtain ⟨h1,h2⟩:=Nat.or_eq_zero_iff.1 (show Nat.land (fxm f).2 (fxm g).1 ||| Nat.land (fxm f).2 (fxm g).2=0 from a2)
 have wm:∀ (f:Fx) p,p∈f.wr->(fxm f).2.testBit p.1.code=true:=fun f p hp=>by
  show (mskW f.wr 0).testBit _=true;rw [mskW_eq];exact mskR_mem _ 0 (yag.2 ⟨p,hp,rfl⟩)
 have rm:∀ (f:Fx) l,l∈f.rd->(fxm f).1.testBit l.code=true:=fun f l hl=>mskR_mem _ 0 hl;exact ⟨fun p hp hc=>zra h1 (wm f p hp) (rm g _ hc),fun p hp q hq e=>zra h2 (wm f p hp) (e ▸ wm g q hq),fun p hp hc=>zra h3 (wm g p hp) (rm f _ hc)⟩
theorem EffG.agree {o:Oper} {σ σ1:St} {fx:Fx} (h:EffG P B ops o fx.rd σ fx.wr) (hag:∀ l∈fx.rd,σ1 l=σ l):EffG P B ops o fx.rd σ1 fx.wr :=
 fun σ' hag' a w hs K Q hK=>h σ' (fun l hl=>(hag' l hl).trans (hag l hl)) a w hs K Q hK
theorem runs_front {l:List Nat} {σ σ':St} {fs:List (Nat×Fx)} (h:Runs P B ops l σ fs σ') {i:Nat}:∀ {pre post:List (Nat×Fx)} {fx:Fx},fs=pre++(i,fx)::post->(∀ p∈pre,indep p.2 fx=true) ->
  ∃ l',Runs P B ops (i::l') σ ((i,fx)::(pre++post)) σ':=by
 induction h with
 | nil σ=>intro pre post fx e _;simp at e
 | cons j o l σ σ' fj fs ho he hr ih =>
  intro pre post fx e hp;cases pre with
  | nil =>
   simp only [ycd,List.cons.injEq,zkG] at e;obtain ⟨⟨rfl,rfl⟩,rfl⟩:=e;exact ⟨l,.cons j o l σ σ' fj fs ho he hr⟩
  | cons p pre =>
   simp only [ycy,List.cons.injEq] at e;obtain ⟨rfl,e⟩:=e;obtain ⟨l',a4⟩:=ih e fun q hq=>hp q (yaw _ hq);obtain ⟨h1,h2,h3⟩:=indep_spec (hp (j,fj) ycc);cases a4 with
   | cons _ oi _ _ _ _ _ hoi hei hr2 =>
    have a2:EffG P B ops oi fx.rd σ fx.wr:=hei.agree fun l hl=>(zmj fun p hp e=>h1 p hp (e ▸ hl)).symm;have a3:EffG P B ops o fj.rd (app σ fx.wr) fj.wr:=he.agree fun l hl=>zmj fun p hp e=>h3 p hp (e ▸ hl);refine ⟨j::l',.cons i oi _ σ σ' fx _ hoi a2 (.cons j o _ _ σ' fj _ ho a3 ?_)⟩;rw [<- app_comm h2];exact hr2
end
end
section
theorem befStep_spec {acc:List Nat} {o:Oper} {j:Nat} (h:(zpm acc o).testBit j=true):∃ e∈o.after.toList,Region.binds .any e=true∧(j=e.on∨(acc.getD e.on 0).testBit j=true):=by
 unfold zpm at h
 have key:∀ (l:List Edge) (s:Nat),(l.foldl (fun s e=>if Region.binds .any e=true then s ||| 2^e.on ||| acc.getD e.on 0 else s) s).testBit j=true ->
   s.testBit j=true∨∃ e∈l,Region.binds .any e=true∧(j=e.on∨(acc.getD e.on 0).testBit j=true):=by
  intro l
  induction l with
  | nil=>intro s h;exact .inl h
  | cons e l ih =>
   intro s h;rw [List.foldl_cons] at h;rcases ih _ h with h1 | ⟨e',he',h2⟩
   ·by_cases hb:Region.binds .any e=true
    ·rw [if_pos hb,yea,yea,yd8,yd8] at h1;rcases h1 with (h1 | h1) | h1
     ·exact .inl h1
     ·rw [Nat.testBit_two_pow] at h1;exact .inr ⟨e,by simp,hb,.inl (of_decide_eq_true h1).symm⟩
     ·exact .inr ⟨e,by simp,hb,.inr h1⟩
    ·rw [if_neg hb] at h1;exact .inl h1
   ·exact .inr ⟨e',by simp [he'],h2⟩
 rcases key _ 0 h with h1 | h1
 ·simp at h1
 ·exact h1
theorem befs_spec (ops:List Oper):∀ (i:Nat) (o:Oper),ops[i]?=some o->∀ j,((befs ops).getD i 0).testBit j=true->∃ e∈o.after.toList,Region.binds .any e=true∧(j=e.on∨((befs ops).getD e.on 0).testBit j=true):=by
 have key:∀ (rest a2:List Oper) (acc:List Nat),acc.length=a2.length->(∀ (i:Nat) (o:Oper),a2[i]?=some o->∀ j,(acc.getD i 0).testBit j=true->∃ e∈o.after.toList,Region.binds .any e=true∧(j=e.on∨(acc.getD e.on 0).testBit j=true)) ->
   (∀ (i:Nat) (o:Oper),(a2++rest)[i]?=some o->∀ j,((rest.foldl (fun acc o=>acc++[zpm acc o]) acc).getD i 0).testBit j=true->∃ e∈o.after.toList,Region.binds .any e=true∧(j=e.on∨((rest.foldl (fun acc o=>acc++[zpm acc o]) acc).getD e.on 0).testBit j=true)):=by
  intro rest
  induction rest with
  | nil=>intro a2 acc _ h;simpa using h
  | cons o rest ih =>
   intro a2 acc hl h;have e:a2++o::rest=(a2++[o])++rest:=by simp
   rw [e]
   have grow:∀ p j,(acc.getD p 0).testBit j=true->((acc++[zpm acc o]).getD p 0).testBit j=true:=fun p j hj=>by
    by_cases hp:p<acc.length
    ·rw [ybd,yat,if_pos hp,<- ybd];exact hj
    ·rw [ybd,ybb (by omega)] at hj;simp at hj
   refine ih (a2++[o]) (acc++[zpm acc o]) (by simp [hl]) fun i o' a3 j hj=>?_;rw [yat] at a3;split at a3
   ·rename_i hi;rw [ybd,yat,if_pos (by omega),<- ybd] at hj;obtain ⟨e1,h1,h2,h3⟩:=h i o' a3 j hj;exact ⟨e1,h1,h2,h3.imp id (grow _ _)⟩
   ·rename_i hi
    have a4:i=acc.length:=by
     have:=(zkI.1 a3).1;simp at this;omega
    subst a4;have:o'=o:=by simpa [hl] using a3.symm
    subst this;rw [ybd,yat,if_neg (by omega)] at hj;simp at hj;obtain ⟨e1,h1,h2,h3⟩:=befStep_spec hj;exact ⟨e1,h1,h2,h3.imp id (grow _ _)⟩
 intro i o ho j hj;exact key ops [] [] rfl (by simp) i o (by simpa using ho) j hj
theorem zr0 {bs:List Nat} {f:Mk} {i:Nat}:∀ {fs:List Mk} {j:Nat},drawRow bs f i j fs=true->∀ (k:Nat) g,fs[k]?=some g->indepM f g=true∨(bs.getD (j+k) 0).testBit i=true
 | [],j,_,k,g,h=>by simp at h
 | g0::fs,j,h,k,g,hg=>by
  simp only [drawRow,yaq,yd8] at h;cases k with
  | zero=>simp at hg;subst hg;exact h.1
  | succ k =>
   have:=zr0 h.2 k g (by simpa using hg);rw [show j+1+k=j+(k+1) from by omega] at this;exact this
theorem zr5 {bs:List Nat}:∀ {fs:List Mk} {i:Nat},zt6 bs i fs=true->∀ (p q:Nat) f g,p<q->fs[p]?=some f->fs[q]?=some g->indepM f g=true∨(bs.getD (i+q) 0).testBit (i+p)=true
 | [],i,_,p,q,f,g,_,hf,_=>by simp at hf
 | f0::fs,i,h,p,q,f,g,hpq,hf,hg=>by
  simp only [zt6,yaq] at h;cases q with
  | zero=>omega
  | succ q =>
   cases p with
   | zero =>
    simp at hf;subst hf;have:=zr0 h.1 q g (by simpa using hg);rw [show i+1+q=i+(q+1) from by omega] at this;exact this
   | succ p =>
    have:=zr5 h.2 p q f g (by omega) (by simpa using hf) (by simpa using hg);rw [show i+1+q=i+(q+1) from by omega,show i+1+p=i+(p+1) from by omega] at this;exact this
theorem zve:∀ {l:List Oper} {i:Nat},edgeOk i l=true->∀ (k:Nat) o,l[k]?=some o->∀ e∈o.after.toList,Region.binds .any e=true->e.on<i+k
 | [],i,_,k,o,h=>by simp at h
 | o0::l,i,h,k,o,ho=>by
  simp only [edgeOk,yaq,ya9,yd8,yc5] at h;cases k with
  | zero =>
   simp at ho;subst ho;intro e he hb;rcases h.1 e he with h1 | h1
   ·rw [hb] at h1;cases h1
   ·exact zey h1
  | succ k =>
   intro e he hb;have:=zve h.2 k o (by simpa using ho) e he hb;omega
section
variable {P:Program} {B:Base} {ops:Array Oper}
theorem runs_idx {l:List Nat} {σ σ':St} {fs:List (Nat×Fx)} (h:Runs P B ops l σ fs σ'):fs.map (·.1)=l∧∀ i∈l,i<ops.size:=by
 induction h with
 | nil σ=>exact ⟨rfl,by simp⟩
 | cons i o l σ σ' fx fs ho he hr ih =>
  refine ⟨by simp [ih.1],fun j hj=>?_⟩;rcases yau.1 hj with rfl | hj
  ·exact (ybu.1 ho).1
  ·exact ih.2 j hj
def Apart (ops:Array Oper) (fs:List (Nat×Fx)):Prop :=
 fs.Pairwise fun p q=>indep p.2 q.2=true∨((befs ops.toList).getD q.1 0).testBit p.1=true
theorem getD_two {l:Array Bool} {i:Nat} (h:i<l.size) (d d':Bool):l.getD i d=l.getD i d':=by simp [h]
theorem runs_any {Q:Exit->Act->World->Prop} (hed:edgeOk 0 ops.toList=true):∀ (fuel:Nat) (listed:Array Bool) (l:List Nat) (σ σ':St) (fs:List (Nat×Fx)) (a:Act) (w:World),listed.size=ops.size->l.length=fuel->(∀ i,i∈l↔listed.getD i true=false) ->
  (∀ k o,ops[k]?=some o->listed.getD k false=true->∀ j,((befs ops.toList).getD k 0).testBit j=true->listed.getD j false=true)->Apart ops fs->l.Pairwise (·<·)->Runs P B ops l σ fs σ'->Sat B σ a w->(∀ a' w',Sat B σ' a' w'->Q .normal a' w') ->
  wpAny P .any ops Q fuel listed a w
 | 0,listed,l,σ,σ',fs,a,w,hsz,hlen,hmem,hdn,hap,hnd,hr,hs,hQ=>by
  have hl:l=[]:=yav hlen;subst hl;cases hr with
  | nil _ =>
   refine ⟨?_,hQ a w hs⟩;rw [List.eq_nil_iff_forall_not_mem];intro i hi;exact absurd ((hmem i).2 (mem_ready.1 hi).1) (by simp)
 | fuel+1,listed,l,σ,σ',fs,a,w,hsz,hlen,hmem,hdn,hap,hnd,hr,hs,hQ=>by
  obtain ⟨hidx,hlt⟩:=runs_idx hr
  have hon:∀ i o,ops[i]?=some o->∀ e∈o.after.toList,Region.binds .any e=true->e.on<i:=fun i o ho e he hb=>by
   have:=zve hed i o (by rw [yas];exact ho) e he hb;omega
  refine ⟨fun hnil=>?_,fun i hi=>?_⟩
  ·exfalso;cases l with
   | nil=>simp at hlen
   | cons i l =>
    have hi:=hlt i (by simp)
    have hrd:i∈Region.ready .any ops listed:=by
     rw [mem_ready];refine ⟨(hmem i).1 (by simp),ops[i],ycu hi,fun e he hb=>?_⟩;have h1:=hon i ops[i] (ycu hi) e (by simpa using he) hb
     have h2:e.on∉i::l:=fun hm=>by
      rcases yau.1 hm with h | h
      ·omega
      ·have:=(ycm.1 hnd).1 _ h;omega
     rw [getD_two (by omega) false true];cases hc:listed.getD e.on true with
     | true=>rfl
     | false=>exact absurd ((hmem _).2 hc) h2
    rw [hnil] at hrd;cases hrd
  ·obtain ⟨b9,o,ho,b4⟩:=mem_ready.1 hi;have a8:i∈l:=(hmem i).2 b9;have a7:=hlt i a8
   have b0:∀ j,((befs ops.toList).getD i 0).testBit j=true->listed.getD j false=true:=fun j hj=>by
    obtain ⟨e,he,hb,h1⟩:=befs_spec ops.toList i o (by rw [yas];exact ho) j hj;have hl:=b4 e (by simpa using he) hb;have c6:=hon i o ho e he hb;rcases h1 with rfl | h1
    ·exact hl
    ·exact hdn e.on ops[e.on] (ycu (by omega)) hl j h1
   obtain ⟨a2,fx,post,a4⟩:∃ a2 fx post,fs=a2++(i,fx)::post:=by
    rw [<- hidx] at a8;obtain ⟨p,hp,e⟩:=yag.1 a8;obtain ⟨a2,post,c0⟩:=List.append_of_mem hp;exact ⟨a2,p.2,post,by rw [c0,<- e]⟩
   have b5:∀ p∈a2,indep p.2 fx=true:=fun p hp=>by
    unfold Apart at hap;rw [a4,List.pairwise_append] at hap;rcases hap.2.2 p hp (i,fx) ycc with h1 | h1
    ·exact h1
    ·have h2:=b0 p.1 h1;have b6:p.1∈l:=by rw [<- hidx,a4];exact yag.2 ⟨p,yan _ hp,rfl⟩
     have h3:=(hmem p.1).1 b6;rw [getD_two (by rw [hsz];exact hlt _ b6) true false,h2] at h3;cases h3
   obtain ⟨l',a9⟩:=runs_front hr a4 b5;have a3:=(runs_idx a9).1;simp only [yar,List.cons.injEq,true_and] at a3;have a5:l=a2.map (·.1)++i::post.map (·.1):=by rw [<- hidx,a4];simp
   have a6:l'=a2.map (·.1)++post.map (·.1):=by rw [<- a3];simp
   have b3:List.Sublist l' l:=by
    rw [a5,a6];exact List.Sublist.append (List.Sublist.refl _) (ydg _ _)
   have b2:i∉l':=by
    rw [a5,List.pairwise_append] at hnd;obtain ⟨_,h2,h3⟩:=hnd;rw [a6,yap];rintro (h | h)
    ·have:=h3 i h i (by simp);omega
    ·have:=(ycm.1 h2).1 i h;omega
   cases a9 with
   | cons _ oi _ _ _ _ _ hoi hei hr2 =>
    refine wanted_wp hoi (hei σ (fun _ _=>rfl) a w hs _ Q fun a' w' b7=>?_);refine runs_any hed fuel (listed.setIfInBounds i true) l' _ σ' (a2++post) a' w' (by simp [hsz]) ?_ (fun j=>?_) (fun k ok b8 hk j hj=>?_) ?_ (hnd.sublist b3) hr2 b7 hQ
    ·rw [a5] at hlen;rw [a6];simp at hlen ⊢;omega
    ·by_cases e:j=i
     ·subst e;constructor
      ·intro h;exact absurd h b2
      ·intro h;rw [getD_two (by simp [hsz];exact a7) true false,show (listed.setIfInBounds j true).getD j false=true by simp [hsz,a7]] at h;cases h
     ·rw [getD_set_ne true (Ne.symm e),<- hmem j,a5,a6];simp [e]
    ·by_cases e:k=i
     ·subst e;exact getD_set_true (b0 j hj)
     ·rw [getD_set_ne false (Ne.symm e)] at hk;exact getD_set_true (hdn k ok b8 hk j hj)
    ·unfold Apart at hap ⊢;rw [a4] at hap;exact hap.sublist (List.Sublist.append (List.Sublist.refl _) (ydg _ _))
theorem apart_of {fs:List (Nat×Fx)} {n:Nat} (hidx:fs.map (·.1)=List.range n) (h:zt6 (befs ops.toList) 0 (fs.map fun p=>fxm p.2)=true):Apart ops fs:=by
 unfold Apart;rw [yck];intro p q hp hq a2;have h1:=zr5 h p q (fxm fs[p].2) (fxm fs[q].2) a2 (by simp [hp]) (by simp [hq])
 have idx:∀ r (hr:r<fs.length),fs[r].1=r:=fun r hr=>by
  have:(fs.map (·.1))[r]?=some fs[r].1:=by simp [hr]
  rw [hidx] at this;have a3:fs.length=n:=by have:=congrArg List.length hidx;simpa using this
  rw [yb5 (by omega)] at this;injection this with this
  exact this.symm
 rw [idx p hp,idx q hq];unfold indep;simpa only [yae] using h1
theorem aRegion_ok (hm:P.follows .mixedOrders=true) {C:FuncId->List Arg->Rs->Prop} (hC:∀ g xs r,C g xs r->SpX P g xs r) {own:List Nat} {id:Nat} {draw:Bool} {σ:St} {K:Exit->St->Prop}
  (h:aOps P C B.n own ops.toList ops.toList [] σ fun fs σ'=>Chk (!draw||drawOk ops.toList fs) (K .normal σ')) {a:Act} {w:World} (hs:Sat B σ a w) {Q:Exit->Act->World->Prop} (hQ:∀ e σ' a' w',K e σ'->Sat B σ' a' w'->Q e a' w'):(Code.region id ops draw).wp P Q a w:=by
 obtain ⟨fs,σ',hr,hk⟩:=aOps_runs (B:=B) (ops:=ops) hC ops.toList 0 [] σ _ (fun j=>by simp) h;rw [<- List.range_eq_range'] at hr;rw [ycd] at hk;obtain ⟨a2,a4⟩:=hk.ok;have a6:ops.toList.length=ops.size:=by simp
 rw [a6] at hr;cases draw with
 | false=>exact wp_region (runs_wp hr hs fun a' w' a3=>hQ .normal σ' a' w' a4 a3)
 | true =>
  simp only [ydo,Bool.false_or] at a2;unfold drawOk at a2;rw [yaq] at a2;refine wp_region_any hm ?_;have a5:=(runs_idx hr).1;refine runs_any a2.1 ops.size (Array.replicate ops.size false) (List.range ops.size) σ σ' fs a _ (by simp) (by simp) (fun i=>?_) (fun k o ho hk=>?_) (apart_of a5 a2.2) List.pairwise_lt_range hr ?_ fun a' w' a3=>hQ .normal σ' a' w' a4 a3
  ·by_cases h:i<ops.size
   ·simp [h]
   ·simp [h]
  ·have:k<ops.size:=(ybu.1 ho).1;simp [this] at hk
  ·obtain ⟨ρ,hs⟩:=hs;exact ⟨ρ,(hs.world (w':={ w with drawn:=w.drawn+1 }) ⟨rfl,rfl,rfl,yao _,fun _ _=>rfl⟩).1⟩
end
end
end Go.Proofs.YtinjiilchafleaaGreatDoor.Sym

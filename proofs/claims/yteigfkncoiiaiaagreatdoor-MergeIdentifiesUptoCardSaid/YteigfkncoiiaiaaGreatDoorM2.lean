/-
  Parts of the proof, behind each other.
-/
import Derived.Test.YteigfkncoiiaiaaGreatDoorM1
import Derived.Maps.Own
import Derived.Laws.StructEq
import Derived.ChangeKeysEq
import Derived.Great.BuildSlice
import Derived.Orders
import Derived.Scope
set_option linter.all false
set_option maxRecDepth 100000
namespace Go.Proofs.YteigfkncoiiaiaaGreatDoor.Sym
section
open Go.RowKit
theorem mkObj_eqs (σ τ:St) (nm:Nat) (k:Kd):(∀ o,(app σ (zd0 τ nm k)).kd o=if o=nm then k else σ.kd o)∧(∀ o,(app σ (zd0 τ nm k)).gn o=if o=nm then τ.gn nm+1 else σ.gn o)∧(∀ o,(app σ (zd0 τ nm k)).ig o=σ.ig o) ∧
  (∀ t,(app σ (zd0 τ nm k)).av t=σ.av t)∧∀ o i,(app σ (zd0 τ nm k)).ce o i=σ.ce o i:=by
 unfold zd0;simp only [zcl,zhz];exact ⟨fun o=>by rw [zfj,kd_gen],fun o=>by rw [zgh,gn_gen],fun o=>by rw [zi4,ig_gen],fun o=>by rw [zh0,av_gen],fun o i=>by rw [zja,ce_gen]⟩
theorem mkK_eqs (σ τ:St) (nm:Nat) (k:Kd):(∀ o,(app σ (zfk τ nm k)).kd o=if o=nm then k else σ.kd o)∧(∀ o,(app σ (zfk τ nm k)).gn o=if o=nm then τ.gn nm+1 else σ.gn o)∧(∀ o,(app σ (zfk τ nm k)).ig o=if o=nm∧zpu k=true then τ.ig nm+1 else σ.ig o) ∧
  (∀ t,(app σ (zfk τ nm k)).av t=σ.av t)∧∀ o i,(app σ (zfk τ nm k)).ce o i=σ.ce o i:=by
 have hn:zpu k=false->(∀ o,(app σ (zd0 τ nm k)).kd o=if o=nm then k else σ.kd o)∧(∀ o,(app σ (zd0 τ nm k)).gn o=if o=nm then τ.gn nm+1 else σ.gn o)∧(∀ o,(app σ (zd0 τ nm k)).ig o=if o=nm∧zpu k=true then τ.ig nm+1 else σ.ig o) ∧
  (∀ t,(app σ (zd0 τ nm k)).av t=σ.av t)∧∀ o i,(app σ (zd0 τ nm k)).ce o i=σ.ce o i:=fun hg=>by
  obtain ⟨h1,h2,h3,h4,h5⟩:=mkObj_eqs σ τ nm k;exact ⟨h1,h2,fun o=>by rw [if_neg (fun e=>by rw [hg] at e;cases e.2)];exact h3 o,h4,h5⟩
 cases k with
 | dead=>exact hn rfl
 | box t m=>exact hn rfl
 | row e m es=>exact hn rfl
 | map l=>exact hn rfl
 | bag t e m l q=>exact hn rfl
 | mapI l c=>exact hn rfl
 | que e m es=>exact hn rfl
 | grid e e' m gs q =>
  show (∀ o,(app (upd σ (.ign nm) (.n (τ.ig nm+1))) (zd0 τ nm _)).kd o=_)∧(∀ o,(app (upd σ (.ign nm) (.n (τ.ig nm+1))) (zd0 τ nm _)).gn o=_)∧(∀ o,(app (upd σ (.ign nm) (.n (τ.ig nm+1))) (zd0 τ nm _)).ig o=_) ∧
   (∀ t,(app (upd σ (.ign nm) (.n (τ.ig nm+1))) (zd0 τ nm _)).av t=_)∧∀ o i,(app (upd σ (.ign nm) (.n (τ.ig nm+1))) (zd0 τ nm _)).ce o i=_
  obtain ⟨h1,h2,h3,h4,h5⟩:=mkObj_eqs (upd σ (.ign nm) (.n (τ.ig nm+1))) τ nm (.grid e e' m gs q);refine ⟨fun o=>by rw [h1,kd_ign],fun o=>by rw [h2,gn_ign],fun o=>?_,fun t=>by rw [h4,av_ign],fun o i=>by rw [h5,ce_ign]⟩;rw [h3,ig_ign];by_cases e1:o=nm
  ·rw [if_pos e1,if_pos ⟨e1,rfl⟩]
  ·rw [if_neg e1,if_neg (fun h=>e1 h.1)]
def innK (k:Kd) (inn old:List Value):List Value:=match k with
 | .grid _ _ _ _ _=>inn
 | .bag _ _ _ _ _=>inn
 | .mapI _ _=>inn
 | _=>old
theorem fpk_innK (v:Value) (k:Kd) (inn old:List Value):fpk v (innK k inn old) k=fpk v inn k:=by cases k<;>rfl
theorem hold_innK {w:World} {S:Nat->Prop} {v:Value} {inn old:List Value}:∀ {k:Kd},zdk w S v inn k->zdk w S v (innK k inn old) k
 | .dead,h=>h
 | .box _ _,h=>h
 | .row _ _ _,h=>h
 | .grid _ _ _ _ _,h=>h
 | .map _,h=>h
 | .bag _ _ _ _ _,h=>h
 | .mapI _ _,h=>h
 | .que _ _ _,h=>h
def setK (ρ:Ly) (σ':St) (nm:Nat) (v:Value) (inn:List Value) (k:Kd):Ly:=⟨fun o=>if o=nm then v else ρ o,fun o=>if o=nm then innK k inn (ρ.inn nm) else ρ.inn o,σ'.ig⟩
section
variable {P:Program} {B:Base} {o:Oper} {σ:St} {K:Fx->Prop}
theorem adopt_one {a:Act} {w:World} {ρ:Ly} (h:SatR B σ a w ρ) {S':Nat->Prop} {v:Value} {k:Kd} {inn:List Value} {nm:Nat} {τ:St} (hg:σ.gn nm=τ.gn nm) (hi:σ.ig nm=τ.ig nm) (hh:zdk w S' v inn k) (hS:∀ b,S' b->Imm B σ ρ w b) (hz:∀ b∈fpk v inn k,B.Z b) :
  ∃ ρ':Ly,SatR { B with Z:=fun b=>B.Z b∧b∉fpk v inn k } (app σ (zfk τ nm k)) a w ρ'∧(∀ u x,RepI w (Imm B σ ρ w) u x->RepI w (Imm { B with Z:=fun b=>B.Z b∧b∉fpk v inn k } (app σ (zfk τ nm k)) ρ' w) u x) ∧
   (∀ u x,RepA w (Imm B σ ρ w) ρ σ.gn u x->RepA w (Imm { B with Z:=fun b=>B.Z b∧b∉fpk v inn k } (app σ (zfk τ nm k)) ρ' w) ρ' (app σ (zfk τ nm k)).gn u x) ∧
   (∀ b,Imm B σ ρ w b->Imm { B with Z:=fun b=>B.Z b∧b∉fpk v inn k } (app σ (zfk τ nm k)) ρ' w b)∧ρ' nm=v∧∀ o,o≠nm->ρ' o=ρ o:=by
 obtain ⟨e1,e2,e3,e4,e5⟩:=mkK_eqs σ τ nm k;have a2:∀ t m,k≠.box t m:=fun t m e=>by subst e;exact hh.elim
 have a0:∀ b,Owns (app σ (zfk τ nm k)) (setK ρ (app σ (zfk τ nm k)) nm v inn k) nm b->b∈fpk v inn k:=fun b hb=>by
  unfold Owns at hb;rw [e1,if_pos rfl] at hb;simp only [setK,if_pos] at hb;rw [fpk_innK] at hb;exact hb
 obtain ⟨h1,h2,h3,h4⟩:=h.stepZ (σ':=app σ (zfk τ nm k)) (ρ':=setK ρ (app σ (zfk τ nm k)) nm v inn k) (w':=w) (fun o=>o=nm) (fun b=>B.Z b∧b∉fpk v inn k) e4
  (fun o hd=>⟨by rw [e1,if_neg hd],by rw [e2,if_neg hd],fun i=>e5 o i,by simp [setK,hd],by simp [setK,hd],by show (app σ (zfk τ nm k)).ig o=_;rw [e3,if_neg (fun e=>hd e.1)];exact (h.igs o).symm⟩)
  (fun o hd=>by
   subst hd
   refine ⟨⟨by rw [e2,if_pos rfl,hg];omega,fun e=>by rw [e2,if_pos rfl,hg] at e;omega⟩,?_,fun e=>?_⟩
   ·show _<=(app σ (zfk τ o k)).ig o
    rw [e3,h.igs,hi]
    split<;>omega
   ·have e:(app σ (zfk τ o k)).ig o=ρ.ig o:=e
    rw [e3,h.igs,hi] at e
    cases hgk:zpu k with
    | true=>rw [hgk,if_pos ⟨rfl,rfl⟩] at e;omega
    | false =>
     simp only [setK,if_pos]
     cases k<;>first | rfl | exact hh.elim | cases hgk)
  (fun o=>rfl) (Belo.refl _ _ _) (fun o b hd ho=>by subst hd;exact .inr (.inl (hz b (a0 b ho)))) (fun o p b hd hp _ _=>hd.trans hp.symm)
  (fun b hb=>⟨(h.res b hb.1).1.2,.inr (.inl hb.1),fun o hd ho=>by subst hd;exact hb.2 (a0 b ho)⟩) fun hI hA o hd=>by
   subst hd;rw [e1,if_pos rfl];refine zkl.of_hold a2 ?_;simp only [setK,if_pos];refine hold_innK (hh.mono (fun _ _=>rfl) fun u x hr=>hI u x (hr.mono hS fun _ _ _ h=>h))
 exact ⟨_,h1,h2,h3,h4,by simp [setK],fun o ho=>by simp [setK,ho]⟩
theorem zh6 (σ:St):∀ (a b:List (Nat×Kd)),zc9 σ (a++b)=zc9 σ a++zc9 σ b
 | [],b=>rfl
 | p::a,b=>by rw [yc5,zc9,zh6 σ a b,zc9,yb9]
theorem zk3 {a:Act} {w:World} {S':Nat->Prop} (τ:St) (f:Nat->Nat):∀ {l:List Oc} {i:Nat} {us:List Value} {F:List Nat} {B:Base} {σ:St} {ρ:Ly},SatR B σ a w ρ->zmg w S' us l F->(∀ b,S' b->Imm B σ ρ w b)->F.Nodup->(∀ b∈F,B.Z b) ->
  ((zcd τ f i l).2.map (·.1)).Nodup->(∀ p∈(zcd τ f i l).2,σ.gn p.1=τ.gn p.1∧σ.ig p.1=τ.ig p.1) ->
  ∃ (ρ':Ly) (Z':Nat->Prop),SatR { B with Z:=Z' } (app σ (zc9 τ (zcd τ f i l).2)) a w ρ'∧(∀ b,B.Z b->b∉F->Z' b)∧Reps w (Imm { B with Z:=Z' } (app σ (zc9 τ (zcd τ f i l).2)) ρ' w) ρ' (app σ (zc9 τ (zcd τ f i l).2)).gn us (zcd τ f i l).1 ∧
   (∀ u x,RepA w (Imm B σ ρ w) ρ σ.gn u x->RepA w (Imm { B with Z:=Z' } (app σ (zc9 τ (zcd τ f i l).2)) ρ' w) ρ' (app σ (zc9 τ (zcd τ f i l).2)).gn u x) ∧
   (∀ b,Imm B σ ρ w b->Imm { B with Z:=Z' } (app σ (zc9 τ (zcd τ f i l).2)) ρ' w b)∧(∀ o,o∉(zcd τ f i l).2.map (·.1)->ρ' o=ρ o∧(app σ (zc9 τ (zcd τ f i l).2)).gn o=σ.gn o∧(app σ (zc9 τ (zcd τ f i l).2)).ig o=σ.ig o∧(app σ (zc9 τ (zcd τ f i l).2)).kd o=σ.kd o)
 | [],i,us,F,B,σ,ρ,h,hok,hS,hnd,hz,hn,hgs=>by
  match us,hok with
  | [],hok=>exact ⟨ρ,B.Z,h,fun _ hb _=>hb,⟨rfl,by simp⟩,fun _ _ hr=>hr,fun _ hb=>hb,fun _ _=>⟨rfl,rfl,rfl,rfl⟩⟩
 | c::l,i,us,F,B,σ,ρ,h,hok,hS,hnd,hz,hn,hgs=>by
  match us,hok with
  | u::us,⟨F1,F2,h1,h2,h3⟩ =>
   subst h3;rw [ybi] at hnd;cases c with
   | im x =>
    obtain ⟨hx,rfl⟩:=h1;obtain ⟨ρ',Z',g1,g2,g3,g4,g5,g6⟩:=zk3 τ f (l:=l) (i:=i+1) h h2 hS hnd.2.1 (fun b hb=>hz b (by simp [hb])) hn hgs;refine ⟨ρ',Z',g1,g2,⟨by simp [zcd,ocPl,g3.1],fun j y z hy hz=>?_⟩,g4,g5,g6⟩;cases j with
    | zero =>
     simp [zcd,ocPl] at hy hz;subst hy hz;exact .im _ _ (hx.mono (fun b hb=>g5 b (hS b hb)) fun _ _ _ h=>h)
    | succ j=>exact g3.2 j y z (by simpa using hy) (by simpa [zcd,ocPl] using hz)
   | ow k =>
    obtain ⟨ho1,inn,hh,rfl⟩:=h1
    have hn':(f i∉(zcd τ f (i+1) l).2.map (·.1))∧((zcd τ f (i+1) l).2.map (·.1)).Nodup:=by
     have:(zcd τ f i (.ow k::l)).2=(f i,k)::(zcd τ f (i+1) l).2:=rfl;rw [this,ya1,yb2] at hn;exact hn
    have b5:=hgs (f i,k) (by show _∈(f i,k)::_;simp);obtain ⟨ρ1,a1,a2,a3,a4,a5,a6⟩:=adopt_one h (nm:=f i) (τ:=τ) b5.1 b5.2 hh hS fun b hb=>hz b (by simp [hb]);obtain ⟨e1,e2,e3,e4,e5⟩:=mkK_eqs σ τ (f i) k;have a7:∀ p∈(zcd τ f (i+1) l).2,p.1≠f i:=fun p hp e=>hn'.1 (yao.2 ⟨p,hp,e⟩)
    obtain ⟨ρ',Z',g1,g2,g3,g4,g5,g6⟩:=zk3 τ f (l:=l) (i:=i+1) a1 h2 (fun b hb=>a4 b (hS b hb)) hnd.2.1 (fun b hb=>⟨hz b (by simp [hb]),fun hf=>hnd.2.2 b hf b hb rfl⟩) hn'.2 (fun p hp=>by
     rw [e2,e3,if_neg (a7 p hp),if_neg (fun e=>a7 p hp e.1)]
     exact hgs p (by show p∈(f i,k)::_;simp [hp]))
    have a8:app σ (zc9 τ (zcd τ f i (.ow k::l)).2)=app (app σ (zfk τ (f i) k)) (zc9 τ (zcd τ f (i+1) l).2):=by
     show app σ (zfk τ (f i) k++zc9 τ (zcd τ f (i+1) l).2)=_;rw [za2]
    rw [a8];refine ⟨ρ',Z',g1,fun b hb a9=>g2 b ⟨hb,fun hf=>a9 (by simp [hf])⟩ (fun hf=>a9 (by simp [hf])),⟨by show _=((_:AV)::(zcd τ f (i+1) l).1).length;simp [g3.1],fun j y z hy hz=>?_⟩,fun v x hr=>g4 v x (a3 v x hr),fun b hb=>g5 b (a4 b hb),fun o ho=>?_⟩
    ·cases j with
     | zero =>
      have hz:(AV.osl (f i) (τ.gn (f i)+1))=z:=by simpa [zcd,ocPl] using hz
      simp at hy;subst hy hz;obtain ⟨b1,b2,_,_⟩:=g6 (f i) hn'.1;refine .osl _ _ _ ho1 ?_ fun _=>?_
      ·rw [b2,e2,if_pos rfl];omega
      ·rw [b1,a5]
     | succ j=>exact g3.2 j y z (by simpa using hy) (by simpa [zcd,ocPl] using hz)
    ·have a0:o≠f i∧o∉(zcd τ f (i+1) l).2.map (·.1):=by
      have:(zcd τ f i (.ow k::l)).2=(f i,k)::(zcd τ f (i+1) l).2:=rfl;rw [this,ya1] at ho;exact ⟨fun e=>ho (by simp [e]),fun hm=>ho (yay _ hm)⟩
     obtain ⟨b1,b2,b3,b4⟩:=g6 o a0.2;exact ⟨by rw [b1,a6 o a0.1],by rw [b2,e2,if_neg a0.1],by rw [b3,e3,if_neg (fun e=>a0.1 e.1)],by rw [b4,e1,if_neg a0.1]⟩
def LkR (w:World) (S:Nat->Prop) (ρ:Ly) (γ:Nat->Nat) (p:Value) (qs:List Nat):LK->Prop
 | .box t al=>∃ (q:Nat) (us:List Value),qs=[q]∧p=.pointer (some ⟨q,0,none⟩)∧w.heap[q]?=some (.cells us.toArray t (0,0))∧(∀ u∈us,u.oneCell'=true)∧Reps w S ρ γ us al
 | .obj k=>flatK k=true∧∃ inn,zdk w S p inn k∧qs=fpk p inn k
def BxR (w:World) (S:Nat->Prop) (ρ:Ly) (γ:Nat->Nat):List (Nat×LK)->List Value->List Nat->Prop
 | [],[],qs=>qs=[]
 | (_,x)::bl,p::ps,qs=>∃ q1 q2,LkR w S ρ γ p q1 x∧BxR w S ρ γ bl ps q2∧qs=q1++q2
 | _,_,_=>False
theorem LkR.mono {w:World} {S S':Nat->Prop} {ρ ρ':Ly} {γ γ':Nat->Nat} (hA:∀ u x,RepA w S ρ γ u x->RepA w S' ρ' γ' u x) {p:Value} {qs:List Nat}:∀ {x:LK},LkR w S ρ γ p qs x->LkR w S' ρ' γ' p qs x
 | .box t al,⟨q,us,h1,h2,h3,h4,h5⟩=>⟨q,us,h1,h2,h3,h4,⟨h5.1,fun i u x hu hx=>hA _ _ (h5.2 i u x hu hx)⟩⟩
 | .obj k,⟨h1,inn,h2,h3⟩=>⟨h1,inn,h2.mono (fun _ _=>rfl) fun u x hr=>(hA u (.im x) (.im _ _ hr)).im_inv,h3⟩
theorem BxR.mono {w:World} {S S':Nat->Prop} {ρ ρ':Ly} {γ γ':Nat->Nat} (hA:∀ u x,RepA w S ρ γ u x->RepA w S' ρ' γ' u x):∀ {bl:List (Nat×LK)} {ps:List Value} {qs:List Nat},BxR w S ρ γ bl ps qs->BxR w S' ρ' γ' bl ps qs
 | [],[],_,h=>h
 | _::_,_::_,_,⟨q1,q2,h1,h2,h3⟩=>⟨q1,q2,h1.mono hA,h2.mono hA,h3⟩
 | [],_::_,_,h=>h.elim
 | _::_,[],_,h=>h.elim
theorem zn6 {a:Act} {w:World} {S':Nat->Prop} (τ:St):∀ {bx:yad} {ys:List Arg} {ps:List Value} {F:List Nat} {bl:List (Nat×LK)} {ss:List (Nat×Kd)} {B:Base} {σ:St} {ρ:Ly},bxPl τ bx ys=some (bl,ss)->SatR B σ a w ρ->zea w S' ps ys F->(∀ b,S' b->Imm B σ ρ w b)->F.Nodup->(∀ b∈F,B.Z b) ->
  (ss.map (·.1)).Nodup->(∀ p∈ss,σ.gn p.1=τ.gn p.1∧σ.ig p.1=τ.ig p.1) ->
  ∃ (ρ':Ly) (Z':Nat->Prop) (qs:List Nat),SatR { B with Z:=Z' } (app σ (zc9 τ ss)) a w ρ'∧(∀ b,B.Z b->b∉F->Z' b)∧(∀ q∈qs,Z' q∧q∈F)∧qs.Nodup∧BxR w (Imm { B with Z:=Z' } (app σ (zc9 τ ss)) ρ' w) ρ' (app σ (zc9 τ ss)).gn bl ps qs∧bl.map (·.1)=bx.map (·.1) ∧
   (∀ u x,RepA w (Imm B σ ρ w) ρ σ.gn u x->RepA w (Imm { B with Z:=Z' } (app σ (zc9 τ ss)) ρ' w) ρ' (app σ (zc9 τ ss)).gn u x) ∧
   (∀ b,Imm B σ ρ w b->Imm { B with Z:=Z' } (app σ (zc9 τ ss)) ρ' w b)∧(∀ o,o∉ss.map (·.1)->ρ' o=ρ o∧(app σ (zc9 τ ss)).gn o=σ.gn o∧(app σ (zc9 τ ss)).ig o=σ.ig o∧(app σ (zc9 τ ss)).kd o=σ.kd o)
 | [],[],ps,F,bl,ss,B,σ,ρ,e,h,hok,hS,hnd,hz,hn,hgs=>by
  simp only [bxPl,zkF,zkG] at e;obtain ⟨rfl,rfl⟩:=e
  match ps,hok with
  | [],hok=>exact ⟨ρ,B.Z,[],h,fun _ hb _=>hb,by simp,ycz,rfl,rfl,fun _ _ hr=>hr,fun _ hb=>hb,fun _ _=>⟨rfl,rfl,rfl,rfl⟩⟩
 | [],y::ys,ps,F,bl,ss,B,σ,ρ,e,h,hok,hS,hnd,hz,hn,hgs=>by simp [bxPl] at e
 | (b,i)::bx,[],ps,F,bl,ss,B,σ,ρ,e,h,hok,hS,hnd,hz,hn,hgs=>by simp [bxPl] at e
 | (b,i)::bx,.im _::ys,ps,F,bl,ss,B,σ,ρ,e,h,hok,hS,hnd,hz,hn,hgs=>by simp [bxPl] at e
 | (b,i)::bx,.ow _::ys,ps,F,bl,ss,B,σ,ρ,e,h,hok,hS,hnd,hz,hn,hgs=>by simp [bxPl] at e
 | (b,i)::bx,.lent k::ys,ps,F,bl,ss,B,σ,ρ,e,h,hok,hS,hnd,hz,hn,hgs=>by
  unfold bxPl at e;split at e
  ·rename_i l s2 hfk e2;simp only [zkF,zkG] at e;obtain ⟨rfl,rfl⟩:=e
   match ps,hok with
   | p::ps,⟨F1,F2,⟨p1,inn,p2,p3⟩,p6,p7⟩ =>
    subst p7;rw [ybi] at hnd;obtain ⟨hnF1,hnF2,hdis⟩:=hnd;obtain ⟨ρ',Z',qs,g1,g2,g3,g4,g5,g6,g7,g8,g9⟩:=zn6 τ e2 h p6 hS hnF2 (fun c hc=>hz c (by simp [hc])) hn hgs;refine ⟨ρ',Z',F1++qs,g1,fun c hc hnc=>g2 c hc fun hf=>hnc (by simp [hf]),fun c hc=>?_,ybi.2 ⟨hnF1,g4,fun x hx y hy=>hdis x hx y (g3 y hy).2⟩,⟨F1,qs,⟨hfk,inn,p2.mono (fun _ _=>rfl) fun u x hr=>hr.mono (fun c hc=>g8 c (hS c hc)) fun _ _ _ h=>h,p3⟩,g5,rfl⟩,by simp [g6],g7,g8,g9⟩;rcases yak.1 hc with hc | hc
    ·exact ⟨g2 c (hz c (by simp [hc])) fun hf=>hdis c hc c hf rfl,by simp [hc]⟩
    ·exact ⟨(g3 c hc).1,by simp [(g3 c hc).2]⟩
  ·cases e
 | (b,i)::bx,.box t cs::ys,ps,F,bl,ss,B,σ,ρ,e,h,hok,hS,hnd,hz,hn,hgs=>by
  unfold bxPl at e;split at e
  ·rename_i al s1 l s2 e1 e2;simp only [zkF,zkG] at e;obtain ⟨rfl,rfl⟩:=e
   match ps,hok with
   | p::ps,⟨F1,F2,⟨q,us,F',p1,p2,p3,p4,p5⟩,p6,p7⟩ =>
    subst p5 p7;have hs1:s1=(zcd τ (cellNm τ b i) 0 cs).2:=by rw [e1]
    have a7:al=(zcd τ (cellNm τ b i) 0 cs).1:=by rw [e1]
    rw [ya9,ybi] at hn;rw [yc5,yb2,ybi] at hnd;obtain ⟨hq,a0,hnF2,hdis⟩:=hnd;rw [yak,not_or] at hq;obtain ⟨ρ1,Z1,a1,a2,a3,a4,a5,a6⟩:=zk3 τ (cellNm τ b i) (l:=cs) (i:=0) h p4 hS a0 (fun c hc=>hz c (by simp [hc])) (by rw [<- hs1];exact hn.1) (fun p hp=>hgs p (yam _ (by rw [hs1];exact hp)));rw [<- hs1] at a1 a3 a4 a5 a6;rw [<- a7] at a3
    obtain ⟨ρ',Z',qs,g1,g2,g3,g4,g5,g6,g7,g8,g9⟩:=zn6 τ e2 a1 p6 (fun c hc=>a5 c (hS c hc)) hnF2 (fun c hc=>a2 c (hz c (by simp [hc])) fun hf=>hdis c hf c hc rfl) hn.2.1 (fun p hp=>by
     obtain ⟨b1,b2,b3,_⟩:=a6 p.1 fun hm=>hn.2.2 p.1 hm p.1 (yao.2 ⟨p,hp,rfl⟩) rfl
     rw [b2,b3]
     exact hgs p (yaj _ hp))
    rw [zh6,za2];refine ⟨ρ',Z',q::qs,g1,fun c hc hnc=>g2 c (a2 c hc fun hf=>hnc (by simp [hf])) fun hf=>hnc (by simp [hf]),fun c hc=>?_,yb2.2 ⟨fun hm=>hq.2 (g3 q hm).2,g4⟩,⟨[q],qs,⟨q,us,rfl,p1,p2,p3,⟨a3.1,fun j u x hu hx=>g7 _ _ (a3.2 j u x hu hx)⟩⟩,g5,rfl⟩,by simp [g6],fun v x hr=>g7 v x (a4 v x hr),fun c hc=>g8 c (a5 c hc),fun o ho=>?_⟩
    ·rcases yba.1 hc with rfl | hc
     ·exact ⟨g2 _ (a2 _ (hz _ (by simp)) hq.1) hq.2,by simp⟩
     ·exact ⟨(g3 c hc).1,by simp [(g3 c hc).2]⟩
    ·rw [ya9,yak,not_or] at ho;obtain ⟨b1,b2,b3,b4⟩:=a6 o ho.1;obtain ⟨c1,c2,c3,c4⟩:=g9 o ho.2;exact ⟨c1.trans b1,c2.trans b2,c3.trans b3,c4.trans b4⟩
  ·cases e
theorem adopt_lent {a:Act} {w:World} {b:Nat} {x:LK} {p:Value} {qs:List Nat} {B:Base} {σ:St} {ρ:Ly} (h:SatR B σ a w ρ) (hx:LkR w (Imm B σ ρ w) ρ σ.gn p qs x) (hz:∀ q∈qs,B.Z q) (hρ:ρ b=p) :
  SatR { B with Z:=fun c=>B.Z c∧c∉qs } (app σ (lkWr b x)) a w ρ∧(∀ u y,RepA w (Imm B σ ρ w) ρ σ.gn u y->RepA w (Imm { B with Z:=fun c=>B.Z c∧c∉qs } (app σ (lkWr b x)) ρ w) ρ (app σ (lkWr b x)).gn u y):=by
 cases x with
 | box t al =>
  obtain ⟨q,us,e1,e2,e3,e4,e5⟩:=hx;subst e1;have hρb:ρ b=.pointer (some ⟨q,0,none⟩):=hρ.trans e2;have a4:∀ o,(app (upd σ (.knd b) (.kd (.box t al.length))) (zfl b 0 al)).kd o=if o=b then .box t al.length else σ.kd o:=fun o=>by rw [celWr_kd,zfj]
  have a5:(app (upd σ (.knd b) (.kd (.box t al.length))) (zfl b 0 al)).gn=σ.gn:=by rw [zqb];exact funext fun o=>zgh σ b o _
  have a2:∀ c,Owns (app (upd σ (.knd b) (.kd (.box t al.length))) (zfl b 0 al)) ρ b c->c=q:=fun c hc=>by
   unfold Owns at hc;rw [a4,if_pos rfl,hρb] at hc;simpa [fpk,zbz] using hc
  obtain ⟨h1,h2,h3,h4⟩:=h.stepZ (σ':=app (upd σ (.knd b) (.kd (.box t al.length))) (zfl b 0 al)) (ρ':=ρ) (w':=w) (fun o=>o=b) (fun c=>B.Z c∧c∉[q]) (fun o=>by rw [zqc,zh0])
   (fun o hd=>⟨by rw [a4,if_neg hd],by rw [a5],fun i=>by rw [zlt,if_neg (fun z=>hd z.1),zja],rfl,rfl,rfl⟩) (fun o _=>⟨⟨by rw [a5];exact yap _,fun _=>rfl⟩,yap _,fun _=>rfl⟩)
   (fun o=>by rw [celWr_ig,zi4];exact h.igs o) (Belo.refl _ _ _) (fun o c hd ho=>by subst hd;rw [a2 c ho];exact .inr (.inl (hz q (by simp)))) (fun o p c hd hp _ _=>hd.trans hp.symm)
   (fun c hc=>⟨(h.res c hc.1).1.2,.inr (.inl hc.1),fun o hd ho=>by subst hd;exact hc.2 (by rw [a2 c ho];simp)⟩) fun hI hA o hd=>by
    subst hd;rw [a4,if_pos rfl];refine ⟨q,us,hρb,e3,e5.1,e4,fun i u hu=>?_⟩;have hi:i<al.length:=by rw [<- e5.1];exact (zkI.1 hu).1
    obtain ⟨c,hc⟩:∃ c,al[i]?=some c:=⟨_,zkM hi⟩;rw [zlt,if_pos ⟨rfl,by omega,by omega⟩,yep,zih hc];exact hA _ _ (e5.2 i u c hu hc)
  exact ⟨h1,h3⟩
 | obj k =>
  obtain ⟨e1,inn,e2,e3⟩:=hx;have a6:∀ t m,k≠.box t m:=fun t m e=>by subst e;cases e1
  have a7:∀ a0,fpk p a0 k=qs:=fun a0=>by rw [e3];cases k<;>first | rfl | cases e1
  have a3:∀ a0,zdk w (Imm B σ ρ w) p a0 k:=fun a0=>by cases k<;>first | exact e2 | cases e1
  have a2:∀ c,Owns (upd σ (.knd b) (.kd k)) ρ b c->c∈qs:=fun c hc=>by
   unfold Owns at hc;rw [zfj,if_pos rfl,hρ,a7] at hc;exact hc
  obtain ⟨h1,h2,h3,h4⟩:=h.stepZ (σ':=upd σ (.knd b) (.kd k)) (ρ':=ρ) (w':=w) (fun o=>o=b) (fun c=>B.Z c∧c∉qs) (fun o=>zh0 σ b o _)
   (fun o hd=>⟨by rw [zfj,if_neg hd],zgh σ b o _,fun i=>zja σ b o i _,rfl,rfl,rfl⟩) (fun o _=>⟨⟨by rw [zgh];exact yap _,fun _=>rfl⟩,yap _,fun _=>rfl⟩)
   (fun o=>by rw [zi4];exact h.igs o) (Belo.refl _ _ _) (fun o c hd ho=>by subst hd;exact .inr (.inl (hz c (a2 c ho)))) (fun o p c hd hp _ _=>hd.trans hp.symm)
   (fun c hc=>⟨(h.res c hc.1).1.2,.inr (.inl hc.1),fun o hd ho=>by subst hd;exact hc.2 (a2 c ho)⟩) fun hI hA o hd=>by
    subst hd;rw [zfj,if_pos rfl];refine zkl.of_hold a6 ?_;rw [hρ];exact (a3 _).mono (fun _ _=>rfl) hI
  exact ⟨h1,h3⟩
theorem zm0 {a:Act} {w:World}:∀ {bl:List (Nat×LK)} {ps:List Value} {qs:List Nat} {B:Base} {σ:St} {ρ:Ly},SatR B σ a w ρ->BxR w (Imm B σ ρ w) ρ σ.gn bl ps qs->qs.Nodup->(∀ q∈qs,B.Z q)->(bl.map (·.1)).Nodup->(∀ (j:Nat) (b:Nat) (p:Value),(bl.map (·.1))[j]?=some b->ps[j]?=some p->ρ b=p) ->
  ∃ Z':Nat->Prop,SatR { B with Z:=Z' } (app σ (bxWr bl)) a w ρ∧(∀ b,B.Z b->b∉qs->Z' b)∧(∀ u x,RepA w (Imm B σ ρ w) ρ σ.gn u x->RepA w (Imm { B with Z:=Z' } (app σ (bxWr bl)) ρ w) ρ (app σ (bxWr bl)).gn u x)
 | [],ps,qs,B,σ,ρ,h,hb,hnd,hz,hn,hρ=>by
  match ps,hb with
  | [],hb=>exact ⟨B.Z,h,fun _ hb _=>hb,fun _ _ hr=>hr⟩
 | (b,x)::bl,[],qs,B,σ,ρ,h,hb,hnd,hz,hn,hρ=>hb.elim
 | (b,x)::bl,p::ps,qs,B,σ,ρ,h,⟨q1,q2,e1,e2,e3⟩,hnd,hz,hn,hρ=>by
  subst e3;rw [ybi] at hnd;rw [ya1,yb2] at hn;obtain ⟨h1,h3⟩:=adopt_lent h e1 (fun q hq=>hz q (by simp [hq])) (hρ 0 b p rfl rfl);obtain ⟨Z',g1,g2,g3⟩:=zm0 h1 (e2.mono h3) hnd.2.1 (fun c hc=>⟨hz c (by simp [hc]),fun e=>hnd.2.2 c e c hc rfl⟩) hn.2 fun j c v hc hv=>hρ (j+1) c v (by simpa using hc) (by simpa using hv)
  have happ:app σ (bxWr ((b,x)::bl))=app (app σ (lkWr b x)) (bxWr bl):=by
   show app σ (lkWr b x++bxWr bl)=_;rw [za2]
  rw [happ];exact ⟨Z',g1,fun c hc a0=>g2 c ⟨hc,fun e=>a0 (by simp [e])⟩ fun hm=>a0 (by simp [hm]),fun u x hr=>g3 u x (h3 u x hr)⟩
theorem zti (bs:yad):∀ (σ:St),(app σ (fwr bs)).ig=σ.ig:=by
 induction bs with
 | nil=>intro σ;rfl
 | cons b bs ih =>
  intro σ;show (app (upd σ (.knd b.1) (.kd .dead)) (fwr bs)).ig=_;rw [ih];exact funext fun t=>zi4 σ b.1 t _
theorem zje {a:Act} {w w':World} {ρ:Ly} (h:SatR B σ a w ρ) (gs:yad) (hgsn:(gs.map (·.1)).Nodup) {S':Nat->Prop} {v:Value} {ps:List Value} {τ:St} {tp:Bool} {d:Nat} {l:List Oc} {ys:List Arg} {F':List Nat} {bx:yad} {bl:List (Nat×LK)} {ss':List (Nat×Kd)} {va:AV}
  (hb:Belo (fun b=>b∈zc7 σ ρ gs) w.heap.size w w') (hS:∀ b,S' b->(Imm B σ ρ w b∨w.heap.size<=b∨b∈zc7 σ ρ gs)∧b<w'.heap.size∧b∉F') (hr:zn7 w' S' v ps (.mk tp l ys) F') (hnd:F'.Nodup) (hF':∀ b∈F',(w.heap.size<=b∨b∈zc7 σ ρ gs)∧b<w'.heap.size)
  (hbl:bxPl τ bx ys=some (bl,ss')) (hps:ps=bx.map fun p=>ρ p.1) (hbn:(bx.map (·.1)).Nodup) (hva:resV tp (zcd τ (zek tp d) 0 l).1=some va) (hnm:(((zcd τ (zek tp d) 0 l).2++ss').map (·.1)).Nodup) (hnb:∀ x∈((zcd τ (zek tp d) 0 l).2++ss').map (·.1),x∉bl.map (·.1))
  (hτ:∀ p∈(zcd τ (zek tp d) 0 l).2++ss',σ.gn p.1=τ.gn p.1∧σ.ig p.1=τ.ig p.1) :
  ∃ ρ',SatR B (app (app (app σ (fwr gs)) (zc9 τ ((zcd τ (zek tp d) 0 l).2++ss'))) (bxWr bl)) a w' ρ'∧RepA w' (Imm B (app (app (app σ (fwr gs)) (zc9 τ ((zcd τ (zek tp d) 0 l).2++ss'))) (bxWr bl)) ρ' w') ρ' (app (app (app σ (fwr gs)) (zc9 τ ((zcd τ (zek tp d) 0 l).2++ss'))) (bxWr bl)).gn v va ∧
   (∀ u x,RepA w (Imm B σ ρ w) ρ σ.gn u x->RepA w' (Imm B (app (app (app σ (fwr gs)) (zc9 τ ((zcd τ (zek tp d) 0 l).2++ss'))) (bxWr bl)) ρ' w') ρ' (app (app (app σ (fwr gs)) (zc9 τ ((zcd τ (zek tp d) 0 l).2++ss'))) (bxWr bl)).gn u x) ∧
   ∀ (j:Nat) (b:Nat) (p:Value),(bl.map (·.1))[j]?=some b->ps[j]?=some p->ρ' b=p:=by
 have a7:∀ o,o∈gs.map (·.1)->∀ b,¬ Owns (app σ (fwr gs)) ρ o b:=fun o ho b d5=>(zp9 d5).2 ho
 obtain ⟨h1,d7,d3,d6⟩:=h.stepZ (σ':=app σ (fwr gs)) (ρ':=ρ) (w':=w') (fun o=>o∈gs.map (·.1)) (fun b=>B.Z b∨b∈F') (fun t=>fwr_av gs t σ) (fun o hd=>⟨by rw [zkr,if_neg hd],by rw [znr],fun i=>fwr_ce gs o i σ,rfl,rfl,rfl⟩)
  (fun o _=>⟨⟨by rw [znr];exact yap _,fun _=>rfl⟩,yap _,fun _=>rfl⟩) (fun o=>by rw [zti];exact h.igs o)
  ⟨hb.os,hb.tape,hb.output,hb.size,fun k hk hn=>hb.block k hk fun hm=>by
   obtain ⟨p,hp,ho⟩:=zdu.1 hm
   exact hn (.inr ⟨p.1,yao.2 ⟨p,hp,rfl⟩,ho⟩)⟩
  (fun o b hd ho=>absurd ho (a7 o hd b)) (fun o p b hd hp ho _=>absurd ho (a7 o hd b))
  (fun b a0=>by
   rcases a0 with a0 | a0
   ·exact ⟨ycm (h.res b a0).1.2 hb.size,.inr (.inl a0),fun o hd=>a7 o hd b⟩
   ·obtain ⟨h2,h3⟩:=hF' b a0
    refine ⟨h3,?_,fun o hd=>a7 o hd b⟩
    rcases h2 with h2 | h2
    ·exact .inl h2
    ·obtain ⟨p,hp,ho⟩:=zdu.1 h2
     exact .inr (.inr ⟨p.1,yao.2 ⟨p,hp,rfl⟩,ho⟩))
  fun _ _ o hd=>by rw [zkr,if_pos hd];trivial
 have c9:∀ b,S' b->Imm { B with Z:=fun b=>B.Z b∨b∈F' } (app σ (fwr gs)) ρ w' b:=fun b a0=>by
  obtain ⟨h2,h3,h4⟩:=hS b a0;rcases h2 with h2 | h2 | h2
  ·exact d6 b h2
  ·refine ⟨.inr (.inl (ych h.bel.size h2)),h3,fun o ho=>?_,fun hz=>?_⟩
   ·have:=(h.own o b (zp9 ho).1).2;omega
   ·rcases hz with hz | hz
    ·have:=(h.res b hz).1.2;omega
    ·exact h4 hz
  ·obtain ⟨p,hp,ho⟩:=zdu.1 h2;refine ⟨.inr (h.own p.1 b ho).1,h3,fun q hq=>?_,fun hz=>?_⟩
   ·obtain ⟨h5,h6⟩:=zp9 hq;have:=h.dis q p.1 b h5 ho;subst this;exact h6 (yao.2 ⟨p,hp,rfl⟩)
   ·rcases hz with hz | hz
    ·exact (h.res b hz).2 p.1 ho
    ·exact h4 hz
 obtain ⟨us,F1,F2,hv,hl,hy,rfl⟩:=hr;rw [ybi] at hnd;rw [ya9,ybi] at hnm
 obtain ⟨ρ2,Z2,a1,a2,a3,a4,a5,a6⟩:=zk3 τ (zek tp d) (l:=l) (i:=0) h1 hl c9 hnd.1 (fun b a0=>.inr (yam _ a0)) hnm.1 fun p hp=>by
  rw [znr,zti];exact hτ p (yam _ hp)
 obtain ⟨ρ3,Z3,qs,b1,b2,b3,b4,b5,b6,b7,b8,b9⟩:=zn6 τ hbl a1 hy (fun b a0=>a5 b (c9 b a0)) hnd.2.1 (fun b a0=>a2 b (.inr (yaj _ a0)) fun hf=>hnd.2.2 b hf b a0 rfl) hnm.2.1 fun p hp=>by
  obtain ⟨c1,c2,c3,_⟩:=a6 p.1 fun hm=>hnm.2.2 p.1 hm p.1 (yao.2 ⟨p,hp,rfl⟩) rfl;rw [c2,c3,znr,zti];exact hτ p (yaj _ hp)
 have c7:app (app (app σ (fwr gs)) (zc9 τ (zcd τ (zek tp d) 0 l).2)) (zc9 τ ss')=app (app σ (fwr gs)) (zc9 τ ((zcd τ (zek tp d) 0 l).2++ss')):=by rw [zh6,za2]
 rw [c7] at b1 b5 b7 b8 b9
 have a9:∀ (j:Nat) (b:Nat) (p:Value),(bl.map (·.1))[j]?=some b->ps[j]?=some p->ρ3 b=p:=fun j b p a0 hp=>by
  have c6:b∈bl.map (·.1):=zkH a0;rw [b6,yaf] at a0;rw [hps,yaf] at hp;cases hc:bx[j]? with
  | none=>rw [hc] at a0;cases a0
  | some y =>
   rw [hc] at a0 hp;simp only [yal,zkF] at a0 hp;have d0:b∉(zcd τ (zek tp d) 0 l).2.map (·.1):=fun hm=>hnb b (by rw [ya9];exact yam _ hm) c6;have d1:b∉ss'.map (·.1):=fun hm=>hnb b (by rw [ya9];exact yaj _ hm) c6;rw [(b9 b d1).1,(a6 b d0).1,<- hp,a0]
 obtain ⟨Z4,c1,c2,c3⟩:=zm0 b1 b5 b4 (fun q hq=>(b3 q hq).1) (by rw [b6];exact hbn) a9
 have c8:RepA w' (Imm { B with Z:=Z4 } (app (app (app σ (fwr gs)) (zc9 τ ((zcd τ (zek tp d) 0 l).2++ss'))) (bxWr bl)) ρ3 w') ρ3 (app (app (app σ (fwr gs)) (zc9 τ ((zcd τ (zek tp d) 0 l).2++ss'))) (bxWr bl)).gn v va:=by
  have a8:Reps w' (Imm { B with Z:=Z4 } (app (app (app σ (fwr gs)) (zc9 τ ((zcd τ (zek tp d) 0 l).2++ss'))) (bxWr bl)) ρ3 w') ρ3 (app (app (app σ (fwr gs)) (zc9 τ ((zcd τ (zek tp d) 0 l).2++ss'))) (bxWr bl)).gn us (zcd τ (zek tp d) 0 l).1 :=
   ⟨a3.1,fun i u x hu hx=>c3 _ _ (b7 _ _ (a3.2 i u x hu hx))⟩
  cases tp with
  | true =>
   simp only [resV,zkF] at hva;subst hva;rw [hv];exact .tup _ _ a8.1 a8.2
  | false =>
   simp only [resV] at hva;split at hva
   ·rename_i al d4;injection hva with hva
    subst hva;have hv:us=[v]:=hv;subst hv;exact a8.2 0 v al rfl (by rw [d4];rfl)
   ·cases hva
 obtain ⟨e1,e2,e3,_⟩:=c1.stepZ (σ':=app (app (app σ (fwr gs)) (zc9 τ ((zcd τ (zek tp d) 0 l).2++ss'))) (bxWr bl)) (ρ':=ρ3) (w':=w') (fun _=>False) B.Z (fun _=>rfl) (fun _ _=>⟨rfl,rfl,fun _=>rfl,rfl,rfl,rfl⟩) (fun _ hd=>hd.elim) c1.igs (Belo.refl _ _ _) (fun _ _ hd=>hd.elim) (fun _ _ _ hd=>hd.elim)
  (fun b a0=>by
   have c0:b∉F1++F2:=fun hf=>by
    rcases (hF' b hf).1 with h5 | h5
    ·have:=(h.res b a0).1.2;omega
    ·obtain ⟨p,hp,ho⟩:=zdu.1 h5
     exact (h.res b a0).2 p.1 ho
   rw [yak,not_or] at c0
   have d2:Z4 b:=c2 b (b2 b (a2 b (.inl a0) c0.1) c0.2) fun hq=>c0.2 (b3 b hq).2
   exact ⟨ycm (h.res b a0).1.2 hb.size,.inr (.inl d2),fun _ hd=>hd.elim⟩) fun _ _ _ hd=>hd.elim
 exact ⟨ρ3,e1,e3 _ _ c8,fun u x hr=>e3 _ _ (c3 _ _ (b7 _ _ (a4 _ _ (d3 _ _ hr)))),a9⟩
theorem objG_same {σ':St} {p:Nat} (h:σ'.kd p=σ.kd p):objG σ' p=objG σ p:=by unfold objG;rw [h]
theorem zdm.mem {σ':St} {gs:yad} (h:zdm σ σ' gs) {p:Nat×Nat} (hp:p∈gs):σ'.gn p.1=σ.gn p.1∧σ'.kd p.1=σ.kd p.1∧zoo σ' p.1=zoo σ p.1 :=
 zdm.head (p:=p) (c:=[]) fun l hl=>h l (by
  unfold frd at *
  rw [ybd,ydk,ybq] at hl
  exact yck.2 ⟨p,hp,hl⟩)
theorem cellG0_same {σ':St} {own:List Nat} {d i j:Nat} {c:AV} {x:Oc} {gs:yad} (e:ztj σ own d i j c=some (x,gs)) (h:∀ p∈gs,σ'.kd p.1=σ.kd p.1):ztj σ' own d i j c=some (x,gs):=by
 unfold ztj at e ⊢;split at e
 ·exact e
 ·rename_i p g;split at e
  ·rename_i k hk;injection e with e
   injection e with e1 e2
   subst e1 e2;rw [objG_same (h (p,g) (by simp)),hk]
  ·cases e
 ·cases e
theorem cellG_same {σ':St} {own:List Nat} {d i j:Nat} {c:AV} {x:Oc} {gs:yad} (e:cellG σ own d i j c=some (x,gs)) (h:∀ p∈gs,σ'.kd p.1=σ.kd p.1):cellG σ' own d i j c=some (x,gs):=by
 unfold cellG at e ⊢;split at e
 ·rename_i hh;exact e
 ·rename_i hh;exact cellG0_same e h
theorem zr7 {σ':St} {own:List Nat} {d i:Nat}:∀ {cs:List AV} {j:Nat} {xs:List Oc} {gs:yad},zpl σ own d i j cs=some (xs,gs)->(∀ p∈gs,σ'.kd p.1=σ.kd p.1)->zpl σ' own d i j cs=some (xs,gs)
 | [],_,_,_,e,_=>e
 | c::cs,j,xs,gs,e,h=>by
  simp only [zpl] at e ⊢;split at e
  ·rename_i x g1 xs1 gs1 h1 h2;simp only [zkF,zkG] at e;obtain ⟨rfl,rfl⟩:=e;rw [cellG_same h1 fun p hp=>h p (yam _ hp),zr7 h2 fun p hp=>h p (yaj _ hp)]
  ·cases e
theorem argG_same {σ':St} {own:List Nat} {d i:Nat} {c:AV} {x:Arg} {bs gs:yad} (e:argG σ own d i c=some (x,bs,gs)) (hb:zdm σ σ' bs) (hg:zdm σ σ' gs):argG σ' own d i c=some (x,bs,gs):=by
 unfold argG at e ⊢;split at e
 ·rename_i ho;split at e
  ·rename_i b g;split at e
   ·rename_i k hk;simp only [zkF,zkG] at e;obtain ⟨rfl,rfl,rfl⟩:=e;rw [objG_same (hg.mem (p:=(b,g)) (by simp)).2.1,hk]
   ·cases e
  ·rename_i b g;split at e
   ·rename_i t m hk;split at e
    ·rename_i cs a2 a0;simp only [zkF,zkG] at e;obtain ⟨rfl,rfl,rfl⟩:=e;obtain ⟨h1,h2,h3⟩:=hg.mem (p:=(b,g)) (by simp);simp only [h2,hk];rw [h3,zr7 a0 fun p hp=>(hg.mem (yay _ hp)).2.1]
    ·cases e
   ·cases e
  ·exact e
  ·cases e
 ·rename_i ho;split at e
  ·exact e
  ·split at e
   ·rename_i y bs' hy;simp only [zkF,zkG] at e;obtain ⟨rfl,rfl,rfl⟩:=e;rw [zm7 hy hb]
   ·cases e
theorem zl3 {σ':St} {own:List Nat} {d:Nat}:∀ {cs:List AV} {i:Nat} {xs:List Arg} {bs gs:yad},zkp σ own d i cs=some (xs,bs,gs)->zdm σ σ' bs->zdm σ σ' gs->zkp σ' own d i cs=some (xs,bs,gs)
 | [],i,xs,bs,gs,e,_,_=>e
 | c::cs,i,xs,bs,gs,e,hb,hg=>by
  simp only [zkp] at e ⊢;split at e
  ·rename_i x b1 g1 xs1 bs1 gs1 h1 h2;simp only [zkF,zkG] at e;obtain ⟨rfl,rfl,rfl⟩:=e;rw [argG_same h1 hb.left hg.left,zl3 h2 hb.right hg.right]
  ·cases e
theorem zoq {ρ:Ly} {bs gs:yad} (h:∀ p∈gs,p.1∉bs.map (·.1)):zc7 (app σ (fwr bs)) ρ gs=zc7 σ ρ gs:=by
 unfold zc7
 induction gs with
 | nil=>rfl
 | cons p gs ih =>
  rw [ybd,ybd,zkr,if_neg (h p (by simp)),ih fun q hq=>h q (by simp [hq])]
theorem zji:∀ {l:List (Nat×Kd)} {p:Nat×Kd},p∈l->Loc.gen p.1∈zmf l∧Loc.ign p.1∈zmf l
 | q::l,p,h=>by
  rcases yba.1 h with rfl | h
  ·exact ⟨by simp [zmf],by simp [zmf]⟩
  ·obtain ⟨h1,h2⟩:=zji h;exact ⟨by simp [zmf,h1],by simp [zmf,h2]⟩
theorem zj4 {σ':St} {b:Nat} (h:σ' (.ign b)=σ (.ign b)):σ'.ig b=σ.ig b:=by unfold St.ig;rw [h]
theorem resOk_flat {w:World} {S S':Nat->Prop} {v:Value} {ps:List Value} {r:Rs} {F:List Nat} (hf:flatRs r) (h:zn7 w S v ps r F):zn7 w S' v ps r F:=by
 cases r with
 | mk tp l ys =>
  obtain ⟨us,F1,F2,h1,h2,h3,h4⟩:=h;exact ⟨us,F1,F2,h1,h2.flat hf.1,h3.flat hf.2,h4⟩
theorem bxG_sub {own:List Nat} {d:Nat}:∀ {cs:List AV} {i:Nat} {xs:List Arg} {bs gs:yad},zkp σ own d i cs=some (xs,bs,gs)->((bxG own d i cs).map (·.1)).Sublist (gs.map (·.1))
 | [],i,xs,bs,gs,e=>by simp [bxG]
 | c::cs,i,xs,bs,gs,e=>by
  simp only [zkp] at e;split at e
  ·rename_i x b1 g1 xs1 bs1 gs1 h1 h2;simp only [zkF,zkG] at e;obtain ⟨rfl,rfl,rfl⟩:=e;have ih:=bxG_sub h2
   have up:((bxG own d (i+1) cs).map (·.1)).Sublist ((g1++gs1).map (·.1)):=by
    rw [ya9];exact ih.trans (ydj _ _)
   unfold argG at h1;unfold bxG;split at h1
   ·split at h1
    ·rename_i b g;split at h1
     ·simp only [zkF,zkG] at h1;obtain ⟨rfl,rfl,rfl⟩:=h1;simp only;split
      ·simp only [ya1,yc5];refine List.Sublist.cons_cons _ ?_;exact ih
      ·exact up
     ·cases h1
    ·rename_i b g;split at h1
     ·split at h1
      ·simp only [zkF,zkG] at h1;obtain ⟨rfl,rfl,rfl⟩:=h1;simp only [ya1,yc5];refine List.Sublist.cons_cons _ ?_;rw [ya9];exact ih.trans (ydj _ _)
      ·cases h1
     ·cases h1
    ·exact up
    ·cases h1
   ·exact up
  ·cases e
theorem agL_len:∀ (cs:List AV),(agL cs).length=cs.length
 | []=>rfl
 | _::l=>congrArg (·+1) (agL_len l)
theorem argG_nm {own:List Nat} {d i:Nat} {a:AV} {x:Arg} {bs gs:yad} (h:argG σ own d i a=some (x,bs,gs)):x≠.lent .dead:=by
 rintro rfl;unfold argG at h;split at h
 ·split at h
  ·split at h
   ·rename_i k hk;simp only [zkF,zkG] at h;unfold lentG at h;split at h
    ·obtain ⟨h1,_⟩:=h;injection h1 with h1
     exact (ziy hk).2.1 h1
    ·cases h.1
   ·cases h
  ·split at h
   ·split at h
    ·simp at h
    ·cases h
   ·cases h
  ·split at h
   ·split at h
    ·simp at h
    ·cases h
   ·cases h
  ·cases h
 ·split at h
  ·split at h
   ·simp at h
   ·cases h
  ·split at h
   ·simp at h
   ·cases h
theorem argsG_nm {own:List Nat} {d i:Nat} {al0:List AV} {xs:List Arg} {bs gs:yad} (h:zkp σ own d i al0=some (xs,bs,gs)):nmX xs=true:=by
 cases al0 with
 | nil =>
  simp only [zkp,zkF,zkG] at h;rw [<- h.1];rfl
 | cons a l =>
  simp only [zkp] at h;split at h
  ·rename_i h1 _;simp only [zkF,zkG] at h;rw [<- h.1];have:=argG_nm h1;unfold nmX;split
   ·rename_i e;injection e with e
    exact absurd e this
   ·rfl
  ·cases h
theorem aCall_ok {C:FuncId->List Arg->Rs->Prop} (hC:∀ g xs r,C g xs r->SpX P g xs r) {own:List Nat} {c:Call} {f:Operand} (hop:o.op=.call c) (hcal:c.callee=.value f) (hd:zco B.n o=true) (h:aCall own o σ K C f c.args.toList):∃ fx,K fx∧Eff P B o fx.rd σ fx.wr:=by
 unfold aCall at h;split at h
 ·rename_i d g caps b3 hf;split at h
  ·rename_i xs bs gs c0;obtain ⟨e1,h⟩:=h.ok;obtain ⟨a0,b6⟩:=zge e1;obtain ⟨c8,r,hr,h⟩:=h.out;obtain ⟨a5,e3⟩:=(hC g xs r hr).sp (argsG_nm c0);cases r with
   | mk tp l ys =>
   simp only at h;split at h
   ·rename_i al ss bl ss' d2 c6;split at h
    ·rename_i va d1;obtain ⟨e6,h⟩:=h.ok;obtain ⟨a7,b2⟩:=zge e6;have d9:al=(zcd σ (zek tp d) 0 l).1:=by rw [d2]
     have e0:ss=(zcd σ (zek tp d) 0 l).2:=by rw [d2]
     subst d9 e0;have b5:=((bxG_sub c0).nodup a0);have d4:∀ t,some d=some t->t<B.n:=fun t e=>by injection e with e;subst e;exact zdh hd b3
     have b4:∀ (σ':St),(∀ x∈opd f++opdL c.args.toList++frd σ (bs++gs)++zmf ((zcd σ (zek tp d) 0 l).2++ss'),σ' x=σ x)->∀ (a:Act) (w:World) (ρ:Ly),SatR B σ' a w ρ->∀ (K':Act->World->Prop) (Q:Exit->Act->World->Prop),
       (∀ v w' F',Belo (fun b=>b∈zc7 σ' ρ gs) w.heap.size w w'->zn7 w' (fun b=>(Imm B (app σ' (fwr bs)) ρ w b∨w.heap.size<=b∨b∈zc7 σ' ρ gs)∧b<w'.heap.size∧b∉F') v ((bxG own d 0 (c.args.toList.map (evA σ)++caps)).map fun p=>ρ p.1) (.mk tp l ys) F' ->
        F'.Nodup->(∀ b∈F',(w.heap.size<=b∨b∈zc7 σ' ρ gs)∧b<w'.heap.size)->(∀ p∈(zcd σ (zek tp d) 0 l).2++ss',σ'.gn p.1=σ.gn p.1∧σ'.ig p.1=σ.ig p.1)->K' (a.put (some d) v) w')->o.wp P a w K' Q:=by
      intro σ' hag a w ρ hs K' Q hK;have d3:=zax (zax (zax hag));have c7:=za8 (zax (zax hag));have a4:zdm σ σ' (bs++gs):=za8 (zax hag);have a8:=za8 hag
      have b8:∀ p∈bs++gs,σ'.gn p.1=p.2:=fun p hp=>by
       rw [<- c8 p hp];exact (a4.mem hp).1
      obtain ⟨us,d8,e4⟩:∃ us:List Value,a.eval f=.func (.func g) #[] us.toArray∧Reps w (Imm B σ' ρ w) ρ σ'.gn us caps:=by
       have h1:=za1 hs f;rw [zao d3] at h1;split at hf
       ·rename_i g' a3 b7;simp only [zkF,zkG] at hf;obtain ⟨rfl,rfl⟩:=hf;rw [b7] at h1;have h1:=h1.im_inv;generalize a.eval f=v at h1;cases h1 with
        | fn _ us _ hl hr =>
         refine ⟨us,rfl,by simpa using hl,fun i u y hu hy=>?_⟩;simp only [yaf] at hy;cases hc:a3[i]? with
         | none=>rw [hc] at hy;cases hy
         | some c =>
          rw [hc] at hy;simp only [yal,zkF] at hy;rw [<- hy];exact .im _ _ (hr i u c hu hc)
       ·rename_i g' a3 b7;simp only [zkF,zkG] at hf;obtain ⟨rfl,rfl⟩:=hf;rw [b7] at h1;generalize a.eval f=v at h1;cases h1 with
        | fn _ us _ hl hr=>exact ⟨us,rfl,hl,hr⟩
       ·cases hf
      have a2:=(evL_ok hs c7).app e4;have d0:=zl3 c0 a4.left a4.right;have c9:=zqi hs (bs0:=bs) (fun p hp=>b8 p (yam _ hp)) a2 d0 (fun _ h=>h) fun p hp=>b8 p (yaj _ hp);obtain ⟨e2,_⟩:=bxG_ok hs a2 d0 fun p hp=>b8 p (yaj _ hp)
      have a6:=e3 w (Imm B (app σ' (fwr bs)) ρ w) _ _ (fun b hb=>hb.2.1) c9 (zeu hs a0) fun b hb=>by
       obtain ⟨p,hp,ho⟩:=zdu.1 hb;refine ⟨fun hi=>hi.2.2.1 p.1 ?_,(hs.own p.1 b ho).2⟩;unfold Owns at ho ⊢;rw [zkr,if_neg (b6 p.1 (yao.2 ⟨p,hp,rfl⟩))];exact ho
      have run:(execOp a.eval o).run P w=.ok (.enter g (c.args.toList.map a.eval++us).toArray) w:=by
       have e:(c.args.map a.eval)++us.toArray=(c.args.toList.map a.eval++us).toArray:=by
        apply yff;simp
       simp [execOp,hop,resolve,hcal,d8,Deferred.ofValue,invoke,a5,<- e]
      unfold Oper.wp;rw [run,Oper.upon_enter];refine a6.mono ?_;rintro e w' ⟨v,F',rfl,d5,a9,d6,e5⟩;show K' (a.put o.dst v) w';rw [b3];rw [e2] at a9
      exact hK v w' F' d5 a9 d6 e5 fun p hp=>by
       obtain ⟨h5,h6⟩:=zji hp;exact ⟨zdv (a8 _ h5),zj4 (a8 _ h6)⟩
     split at h
     ·obtain ⟨b9,h⟩:=h.out;refine ⟨_,h,fun σ' hag a w ⟨ρ,hs⟩ K' Q hK=>b4 σ' hag a w ρ hs K' Q fun v w' F' h1 h2 h3 h4 h5=>hK _ _ ?_⟩;obtain ⟨ρ',g1,g2,_⟩:=zje hs gs a0 (S':=fun _=>False) h1 (fun b hb=>hb.elim) (resOk_flat b9 h2) h3 h4 c6 rfl b5 d1 a7 b2 h5;refine ⟨ρ',?_⟩;show SatR B (app σ' (fwr gs++(zc9 σ ((zcd σ (zek tp d) 0 l).2++ss')++(bxWr bl++[(.tmp d,.av va)])))) _ _ _;rw [za2,za2,za2];exact g1.put (d:=some d) d4 g2
     ·refine ⟨_,h,fun σ' hag a w ⟨ρ,hs⟩ K' Q hK=>b4 σ' hag a w ρ hs K' Q fun v w' F' h1 h2 h3 h4 h5=>hK _ _ ?_⟩;have d7:=zoq (σ:=σ') (ρ:=ρ) (bs:=bs) (gs:=gs) fun p hp=>b6 p.1 (yao.2 ⟨p,hp,rfl⟩);rw [<- d7] at h1 h2 h4;obtain ⟨ρ',g1,g2,_⟩:=zje (hs.kills bs).1 gs a0 h1 (fun b hb=>hb) h2 h3 h4 c6 rfl b5 d1 a7 b2 fun p hp=>by rw [znr,zti];exact h5 p hp
      refine ⟨ρ',?_⟩;show SatR B (app σ' (fwr bs++(fwr gs++(zc9 σ ((zcd σ (zek tp d) 0 l).2++ss')++(bxWr bl++[(.tmp d,.av va)]))))) _ _ _;rw [za2,za2,za2,za2];exact g1.put (d:=some d) d4 g2
    ·exact h.elim
   ·exact h.elim
  ·exact h.elim
 ·exact h.elim
theorem aCallA_ok {C:FuncId->List Arg->Rs->Prop} (hC:∀ g xs r,C g xs r->SpX P g xs r) {own:List Nat} {c:Call} {f:Operand} (hop:o.op=.call c) (hcal:c.callee=.value f) (hd:zco B.n o=true) (h:aCallA own o σ K C f c.args.toList):∃ fx,K fx∧Eff P B o fx.rd σ fx.wr:=by
 unfold aCallA at h;split at h
 ·rename_i d g caps cs rest b4 hf e2;split at h
  ·rename_i xs bs gs d7;obtain ⟨e7,h⟩:=h.ok;obtain ⟨a7,b5⟩:=zge e7;obtain ⟨c6,r,hr,h⟩:=h.out;obtain ⟨a8,f3⟩:SpA P g (agT (own.contains (8500000+d))) (agL cs).length xs r:=hC g _ r hr;cases r with
   | mk tp l ys =>
   simp only at h;split at h
   ·rename_i al ss bl ss' c9 d8;split at h
    ·rename_i va a3;obtain ⟨f6,h⟩:=h.ok;obtain ⟨b9,d2⟩:=zge f6;have e5:al=(zcd σ (zek tp d) 0 l).1:=by rw [c9]
     have e6:ss=(zcd σ (zek tp d) 0 l).2:=by rw [c9]
     subst e5 e6;have d5:=((bxG_sub d7).nodup a7);have e9:∀ t,some d=some t->t<B.n:=fun t e=>by injection e with e;subst e;exact zdh hd b4
     have d3:∀ (σ':St),(∀ x∈opd f++opdL c.args.toList++frd σ (bs++gs)++zmf ((zcd σ (zek tp d) 0 l).2++ss'),σ' x=σ x)->∀ (a:Act) (w:World) (ρ:Ly),SatR B σ' a w ρ->∀ (K':Act->World->Prop) (Q:Exit->Act->World->Prop),
       (∀ v u w' F',RetA (agT (own.contains (8500000+d))) v u->Belo (fun b=>b∈zc7 σ' ρ gs) w.heap.size w w'->zn7 w' (fun b=>(Imm B (app σ' (fwr bs)) ρ w b∨w.heap.size<=b∨b∈zc7 σ' ρ gs)∧b<w'.heap.size∧b∉F') u ((bxG own d 0 (cs++(rest++caps))).map fun p=>ρ p.1) (.mk tp l ys) F' ->
        F'.Nodup->(∀ b∈F',(w.heap.size<=b∨b∈zc7 σ' ρ gs)∧b<w'.heap.size)->(∀ p∈(zcd σ (zek tp d) 0 l).2++ss',σ'.gn p.1=σ.gn p.1∧σ'.ig p.1=σ.ig p.1)->K' (a.put (some d) v) w')->o.wp P a w K' Q:=by
      intro σ' hag a w ρ hs K' Q hK;have d0:=zax (zax (zax hag));have c0:=za8 (zax (zax hag));have a6:zdm σ σ' (bs++gs):=za8 (zax hag);have b2:=za8 hag
      have b6:∀ p∈bs++gs,σ'.gn p.1=p.2:=fun p hp=>by
       rw [<- c6 p hp];exact (a6.mem hp).1
      obtain ⟨us,e4,f4⟩:∃ us:List Value,a.eval f=.func (.func g) #[] us.toArray∧Reps w (Imm B σ' ρ w) ρ σ'.gn us caps:=by
       have h1:=za1 hs f;rw [zao d0] at h1;split at hf
       ·rename_i g' a5 a0;simp only [zkF,zkG] at hf;obtain ⟨rfl,rfl⟩:=hf;rw [a0] at h1;have h1:=h1.im_inv;generalize a.eval f=v at h1;cases h1 with
        | fn _ us _ hl hr =>
         refine ⟨us,rfl,by simpa using hl,fun i u y hu hy=>?_⟩;simp only [yaf] at hy;cases hc:a5[i]? with
         | none=>rw [hc] at hy;cases hy
         | some c =>
          rw [hc] at hy;simp only [yal,zkF] at hy;rw [<- hy];exact .im _ _ (hr i u c hu hc)
       ·rename_i g' a5 a0;simp only [zkF,zkG] at hf;obtain ⟨rfl,rfl⟩:=hf;rw [a0] at h1;generalize a.eval f=v at h1;cases h1 with
        | fn _ us _ hl hr=>exact ⟨us,rfl,hl,hr⟩
       ·cases hf
      have a0:=evL_ok hs c0;rw [e2] at a0
      obtain ⟨u0,vr,e1,h0,a2,e0⟩:∃ u0 vr,c.args.toList.map a.eval=.agg u0.toArray::vr∧Reps w (Imm B σ' ρ w) ρ σ'.gn u0 cs∧(∀ u∈u0,u.oneCell'=true)∧Reps w (Imm B σ' ρ w) ρ σ'.gn vr rest:=by
       generalize c.args.toList.map a.eval=vs at a0
       match vs,a0 with
       | [],a0=>have:=a0.1;simp at this
       | v::vr,a0 =>
        have h1:=a0.2 0 v (.agg cs) rfl rfl;cases h1 with
        | agg us _ hl h1 hr=>exact ⟨us,vr,rfl,⟨hl,hr⟩,h1,by simpa using a0.1,fun i u x hu hx=>a0.2 (i+1) u x (by simpa using hu) (by simpa using hx)⟩
      have a4:=h0.app (e0.app f4);have c8:=zl3 d7 a6.left a6.right;have c7:=zqi hs (bs0:=bs) (fun p hp=>b6 p (yam _ hp)) a4 c8 (fun _ h=>h) fun p hp=>b6 p (yaj _ hp);obtain ⟨e8,_⟩:=bxG_ok hs a4 c8 fun p hp=>b6 p (yaj _ hp)
      have a9:=f3 w (Imm B (app σ' (fwr bs)) ρ w) _ _ _ (fun b hb=>hb.2.1) c7 (by rw [agL_len];exact h0.1) a2 (zeu hs a7) fun b hb=>by
       obtain ⟨p,hp,ho⟩:=zdu.1 hb;refine ⟨fun hi=>hi.2.2.1 p.1 ?_,(hs.own p.1 b ho).2⟩;unfold Owns at ho ⊢;rw [zkr,if_neg (b5 p.1 (yao.2 ⟨p,hp,rfl⟩))];exact ho
      have run:(execOp a.eval o).run P w=.ok (.enter g (c.args.toList.map a.eval++us).toArray) w:=by
       have e:(c.args.map a.eval)++us.toArray=(c.args.toList.map a.eval++us).toArray:=by
        apply yff;simp
       simp [execOp,hop,resolve,hcal,e4,Deferred.ofValue,invoke,a8,<- e]
      rw [e1] at run;unfold Oper.wp;rw [run,Oper.upon_enter];refine a9.mono ?_;rintro e w' ⟨v,u,F',rfl,d1,d6,b3,d9,f5⟩;show K' (a.put o.dst v) w';rw [b4];rw [e8] at b3
      exact hK v u w' F' d1 d6 b3 d9 f5 fun p hp=>by
       obtain ⟨h5,h6⟩:=zji hp;exact ⟨zdv (b2 _ h5),zj4 (b2 _ h6)⟩
     refine ⟨_,h,fun σ' hag a w ⟨ρ,hs⟩ K' Q hK=>d3 σ' hag a w ρ hs K' Q fun v u w' F' h0 h1 h2 h3 h4 h5=>hK _ _ ?_⟩;have e3:=zoq (σ:=σ') (ρ:=ρ) (bs:=bs) (gs:=gs) fun p hp=>b5 p.1 (yao.2 ⟨p,hp,rfl⟩);rw [<- e3] at h1 h2 h4
     obtain ⟨b7,b8,d4⟩:∃ b7,resV tp (zcd σ (zek tp d) 0 l).1=some b7∧∀ (w:World) (S:Nat->Prop) (ρ:Ly) (γ:Nat->Nat),RepA w S ρ γ u b7->RepA w S ρ γ v va:=by
      generalize own.contains (8500000+d)=fl at a3 h0;cases fl with
      | false=>exact ⟨va,a3,fun _ _ _ _ hr=>by have h0:v=u:=h0;rw [h0];exact hr⟩
      | true =>
       obtain ⟨us',rfl,rfl,ho⟩:∃ us:List Value,u=.tuple us.toArray∧v=.agg us.toArray∧∀ x∈us,x.oneCell'=true:=h0;cases tp with
       | false=>cases a3
       | true =>
        have a3:some (AV.agg (zcd σ (zek true d) 0 l).1)=some va:=a3;injection a3 with a3
        subst a3;refine ⟨_,rfl,fun w S ρ γ hr=>?_⟩;generalize hq:Value.tuple us'.toArray=q at hr;cases hr with
        | tup us2 _ hl hr2 =>
         have e:us2=us':=by
          injection hq with hq
          have:=congrArg Array.toList hq;simpa using this.symm
         subst e;exact .agg _ _ hl ho hr2
     obtain ⟨ρ',g1,g2,_⟩:=zje (hs.kills bs).1 gs a7 h1 (fun b hb=>hb) h2 h3 h4 d8 rfl d5 b8 b9 d2 fun p hp=>by rw [znr,zti];exact h5 p hp
     refine ⟨ρ',?_⟩;show SatR B (app σ' (fwr bs++(fwr gs++(zc9 σ ((zcd σ (zek tp d) 0 l).2++ss')++(bxWr bl++[(.tmp d,.av va)]))))) _ _ _;rw [za2,za2,za2,za2];exact g1.put (d:=some d) e9 (d4 _ _ _ _ g2)
    ·exact h.elim
   ·exact h.elim
  ·exact h.elim
 ·exact h.elim
theorem aCallR_ok {C:FuncId->List Arg->Rs->Prop} (hC:∀ g xs r,C g xs r->SpX P g xs r) {own:List Nat} {c:Call} {f:Operand} (hop:o.op=.call c) (hcal:c.callee=.value f) (hd:zco B.n o=true) (h:aCallR own o σ K C f c.args.toList):∃ fx,K fx∧Eff P B o fx.rd σ fx.wr:=by
 unfold aCallR at h;split at h
 ·rename_i d g caps b4 hf;split at h
  ·rename_i xs bs gs d0;obtain ⟨e4,h⟩:=h.ok;obtain ⟨a3,a9⟩:=zge e4;obtain ⟨d2,r,hr,h⟩:=h.out;obtain ⟨a8,e6⟩:SpR P g xs r:=hC g _ r hr;cases r with
   | mk tp l ys =>
   simp only at h;split at h
   ·rename_i al ss bl ss' d4 d7;split at h
    ·rename_i va a0;obtain ⟨e9,h⟩:=h.ok;obtain ⟨d1,c6⟩:=zge e9;have e3:al=(zcd σ (zek tp d) 0 l).1:=by rw [d4]
     have e0:ss=(zcd σ (zek tp d) 0 l).2:=by rw [d4]
     subst e3 e0;have c8:=((bxG_sub d0).nodup a3);have e5:∀ t,some d=some t->t<B.n:=fun t e=>by injection e with e;subst e;exact zdh hd b4
     have d6:∀ (σ':St),(∀ x∈opd f++opdL c.args.toList++frd σ (bs++gs)++zmf ((zcd σ (zek tp d) 0 l).2++ss'),σ' x=σ x)->∀ (a:Act) (w:World) (ρ:Ly),SatR B σ' a w ρ->∀ (K':Act->World->Prop) (Q:Exit->Act->World->Prop),
       (∀ v u w' F',RetA 1 v u->Belo (fun b=>b∈zc7 σ' ρ gs) w.heap.size w w'->zn7 w' (fun b=>(Imm B (app σ' (fwr bs)) ρ w b∨w.heap.size<=b∨b∈zc7 σ' ρ gs)∧b<w'.heap.size∧b∉F') u ((bxG own d 0 (c.args.toList.map (evA σ)++caps)).map fun p=>ρ p.1) (.mk tp l ys) F' ->
        F'.Nodup->(∀ b∈F',(w.heap.size<=b∨b∈zc7 σ' ρ gs)∧b<w'.heap.size)->(∀ p∈(zcd σ (zek tp d) 0 l).2++ss',σ'.gn p.1=σ.gn p.1∧σ'.ig p.1=σ.ig p.1)->K' (a.put (some d) v) w')->o.wp P a w K' Q:=by
      intro σ' hag a w ρ hs K' Q hK;have d5:=zax (zax (zax hag));have b8:=za8 (zax (zax hag));have a2:zdm σ σ' (bs++gs):=za8 (zax hag);have b2:=za8 hag
      have b5:∀ p∈bs++gs,σ'.gn p.1=p.2:=fun p hp=>by
       rw [<- d2 p hp];exact (a2.mem hp).1
      obtain ⟨us,d9,e7⟩:∃ us:List Value,a.eval f=.func (.func g) #[] us.toArray∧Reps w (Imm B σ' ρ w) ρ σ'.gn us caps:=by
       have h1:=za1 hs f;rw [zao d5] at h1;split at hf
       ·rename_i g' a5 a6;simp only [zkF,zkG] at hf;obtain ⟨rfl,rfl⟩:=hf;rw [a6] at h1;have h1:=h1.im_inv;generalize a.eval f=v at h1;cases h1 with
        | fn _ us _ hl hr =>
         refine ⟨us,rfl,by simpa using hl,fun i u y hu hy=>?_⟩;simp only [yaf] at hy;cases hc:a5[i]? with
         | none=>rw [hc] at hy;cases hy
         | some c =>
          rw [hc] at hy;simp only [yal,zkF] at hy;rw [<- hy];exact .im _ _ (hr i u c hu hc)
       ·rename_i g' a5 a6;simp only [zkF,zkG] at hf;obtain ⟨rfl,rfl⟩:=hf;rw [a6] at h1;generalize a.eval f=v at h1;cases h1 with
        | fn _ us _ hl hr=>exact ⟨us,rfl,hl,hr⟩
       ·cases hf
      have a6:=evL_ok hs b8;have a4:=a6.app e7;have d3:=zl3 d0 a2.left a2.right;have b9:=zqi hs (bs0:=bs) (fun p hp=>b5 p (yam _ hp)) a4 d3 (fun _ h=>h) fun p hp=>b5 p (yaj _ hp);obtain ⟨e1,_⟩:=bxG_ok hs a4 d3 fun p hp=>b5 p (yaj _ hp)
      have a7:=e6 w (Imm B (app σ' (fwr bs)) ρ w) _ _ (fun b hb=>hb.2.1) b9 (zeu hs a3) fun b hb=>by
       obtain ⟨p,hp,ho⟩:=zdu.1 hb;refine ⟨fun hi=>hi.2.2.1 p.1 ?_,(hs.own p.1 b ho).2⟩;unfold Owns at ho ⊢;rw [zkr,if_neg (a9 p.1 (yao.2 ⟨p,hp,rfl⟩))];exact ho
      have run:(execOp a.eval o).run P w=.ok (.enter g (c.args.toList.map a.eval++us).toArray) w:=by
       have e:(c.args.map a.eval)++us.toArray=(c.args.toList.map a.eval++us).toArray:=by
        apply yff;simp
       simp [execOp,hop,resolve,hcal,d9,Deferred.ofValue,invoke,a8,<- e]
      unfold Oper.wp;rw [run,Oper.upon_enter];refine a7.mono ?_;rintro e w' ⟨v,u,F',rfl,c0,c9,b3,d8,e8⟩;show K' (a.put o.dst v) w';rw [b4];rw [e1] at b3
      exact hK v u w' F' c0 c9 b3 d8 e8 fun p hp=>by
       obtain ⟨h5,h6⟩:=zji hp;exact ⟨zdv (b2 _ h5),zj4 (b2 _ h6)⟩
     refine ⟨_,h,fun σ' hag a w ⟨ρ,hs⟩ K' Q hK=>d6 σ' hag a w ρ hs K' Q fun v u w' F' h0 h1 h2 h3 h4 h5=>hK _ _ ?_⟩;have e2:=zoq (σ:=σ') (ρ:=ρ) (bs:=bs) (gs:=gs) fun p hp=>a9 p.1 (yao.2 ⟨p,hp,rfl⟩);rw [<- e2] at h1 h2 h4
     obtain ⟨b6,b7,c7⟩:∃ b6,resV tp (zcd σ (zek tp d) 0 l).1=some b6∧∀ (w:World) (S:Nat->Prop) (ρ:Ly) (γ:Nat->Nat),RepA w S ρ γ u b6->RepA w S ρ γ v va:=by
      obtain ⟨us',rfl,rfl,ho⟩:∃ us:List Value,u=.tuple us.toArray∧v=.agg us.toArray∧∀ x∈us,x.oneCell'=true:=h0;cases tp with
      | false=>cases a0
      | true =>
       have a0:some (AV.agg (zcd σ (zek true d) 0 l).1)=some va:=a0;injection a0 with a0
       subst a0;refine ⟨_,rfl,fun w S ρ γ hr=>?_⟩;generalize hq:Value.tuple us'.toArray=q at hr;cases hr with
       | tup us2 _ hl hr2 =>
        have e:us2=us':=by
         injection hq with hq
         have:=congrArg Array.toList hq;simpa using this.symm
        subst e;exact .agg _ _ hl ho hr2
     obtain ⟨ρ',g1,g2,_⟩:=zje (hs.kills bs).1 gs a3 h1 (fun b hb=>hb) h2 h3 h4 d7 rfl c8 b7 d1 c6 fun p hp=>by rw [znr,zti];exact h5 p hp
     refine ⟨ρ',?_⟩;show SatR B (app σ' (fwr bs++(fwr gs++(zc9 σ ((zcd σ (zek tp d) 0 l).2++ss')++(bxWr bl++[(.tmp d,.av va)]))))) _ _ _;rw [za2,za2,za2,za2];exact g1.put (d:=some d) e5 (c7 _ _ _ _ g2)
    ·exact h.elim
   ·exact h.elim
  ·exact h.elim
 ·exact h.elim
end
end
section
open Go.RowKit
section
variable {P:Program} {B:Base} {o:Oper} {σ:St} {K:Fx->Prop}
theorem aCallH_ok {C:FuncId->List Arg->Rs->Prop} (hC:∀ g xs r,C g xs r->SpX P g xs r) {own:List Nat} {c:Call} {f:Operand} (hop:o.op=.call c) (hcal:c.callee=.value f) (hd:zco B.n o=true) (h:aCallH own o σ K C f c.args.toList):∃ fx,K fx∧Eff P B o fx.rd σ fx.wr:=False.elim h
end
end
section
open Go.RowKit Go.ChangeMaps
theorem ba_eq {a b:ByteArray} (h:(a==b)=true):a=b:=by
 have h:ByteArray.beq a b=true:=h;unfold ByteArray.beq at h;cases a;cases b;simp at h;rw [h]
theorem ba_rfl (a:ByteArray):(a==a)=true:=by
 show ByteArray.beq a a=true;unfold ByteArray.beq;simp
section
variable {P:Program} {B:Base} {o:Oper} {σ:St} {K:Fx->Prop}
theorem aNilCheck_ok {x:Operand} (hop:o.op=.nilCheck x) (hd:zco B.n o=true) (h:aNilCheck o σ K x):∃ fx,K fx∧Eff P B o fx.rd σ fx.wr:=False.elim h
theorem zfc {α:Type} (z:List α):∀ (l j:Nat),(List.replicate l z).flatten[j]?=if j<l*z.length then z[j%z.length]? else none
 | 0,j=>by simp
 | l+1,j=>by
  rw [List.replicate_succ,ybc,ya0,zfc z l];by_cases h:j<z.length
  ·rw [if_pos h,if_pos (by rw [Nat.add_mul];omega),ye5 h]
  ·have e:j%z.length=(j-z.length)%z.length:=Nat.mod_eq_sub_mod (by omega);rw [if_neg h,e];by_cases h2:j-z.length<l*z.length
   ·rw [if_pos h2,if_pos (by rw [Nat.add_mul];omega)]
   ·rw [if_neg h2,if_neg (by rw [Nat.add_mul];omega)]
theorem made_take (z:Array Value) (l c:Nat) (h:l<=c) (hz:0<z.size):(madeCells z (c*z.size)).toList.take (l*z.size)=(List.replicate l z.toList).flatten:=by
 apply yce;intro j;rw [zfc,ybm];have hm:l*z.size<=c*z.size:=yb0 _ h;simp only [Array.length_toList];by_cases hj:j<l*z.size
 ·rw [if_pos hj,if_pos hj];have a0:j%z.size<z.size:=yc3 _ hz;unfold madeCells;rw [ycj,yaf,Array.toList_range,ybh (by omega)];simp only [yal];rw [getElem!_pos z (j%z.size) a0,ya3,yc6 a0]
 ·rw [if_neg hj,if_neg hj]
theorem cap_bytes {c by_:Nat} (h:zaz c by_):(by_:Int)*(c:Int)<=281474976710656:=by
 have h1:=h.1;have:((by_*c:Nat):Int)<=281474976710656:=by rw [yc7];omega
 rwa [Int.natCast_mul] at this
theorem aMakeSlice_ok {own:List Nat} {t:TypeId} {len cap:Operand} (hop:o.op=.makeSlice t len cap) (hd:zco B.n o=true) (h:zol P own o σ K t len cap):∃ fx,K fx∧Eff P B o fx.rd σ fx.wr:=by
 unfold zol at h;split at h
 ·rename_i d et a2 e7;have b8:=zd9 e7;split at h
  ·rename_i l c k z by_ hl hc hk hz d8;obtain ⟨a4,h⟩:=h.ok;simp only [ya4] at a4;have d6:=zed a4.1.1;obtain ⟨i,zv,hi,c8,b6,a8,d1⟩:=zj1 a4.1.2 hk d8
   have d3:zv.cells.toList=z:=by
    unfold zeroOf at hz;simp only [hi,c8,yal,zkF] at hz;exact hz
   have d4:∀ u∈z,u.oneCell'=true:=fun u hu=>ybf.1 a4.2 u hu;have a0:z.length=k:=by rw [<- d3];simpa using d1
   obtain ⟨⟨h0,d7,a9⟩,h⟩:=h.out;have d5:(c.toNat:Int)=c:=ydc (by omega);have b7:l.toNat<=c.toNat:=by omega
   have e6:c.toNat<=17592186044416:=a9.2
   have za7:∀ σ' a w ρ,SatR B σ' a w ρ->(∀ y∈opd len++opd cap,σ' y=σ y)->(execOp a.eval o).run P w=.ok (.value (.slice (some ⟨w.heap.size,0,none⟩) l.toNat c.toNat)) (w.alloc (.cells (madeCells zv.cells (c.toNat*k)) et)):=fun σ' a w ρ hs hag=>by
    have h1:=za1 hs len;rw [zao (zax hag)] at h1;have h2:=za1 hs cap;rw [zao (za8 hag)] at h2;have hb:=cap_bytes a9;rw [<- a8,d5] at hb;have hr:=run_make (P:=P) w t et i zv b8 hi c8 .i64 .i64 l c h0 d7 hb (by omega);rw [b6] at hr;simp [execOp,hop,zcf hl h1,zcf hc h2,hr]
   have a6:∀ w:World,(w.alloc (.cells (madeCells zv.cells (c.toNat*k)) et)).ownsRow 0 et k (.slice (some ⟨w.heap.size,0,none⟩) l.toNat c.toNat) l.toNat (List.replicate l.toNat z).flatten:=fun w=>by
    refine ⟨?_,.inr ⟨w.heap.size,c.toNat,_,rfl,yag _,heap_alloc_new w _,b7,by unfold maxLen;omega,size_madeCells _ _,?_⟩⟩
    ·rw [zbv (k:=k) (fun x hx=>by rw [yby hx];exact a0),yas]
    ·rw [<- d3,<- d1];exact made_take zv.cells _ _ b7 (by omega)
   have a7:∀ u∈(List.replicate l.toNat z).flatten,u.oneCell'=true:=fun u hu=>by
    obtain ⟨x,hx,b9⟩:=ydz.1 hu;rw [yby hx] at b9;exact d4 u b9
   have m:∀ (σ':St) (w:World) (ρ:Ly),zpp σ' w (w.alloc (.cells (madeCells zv.cells (c.toNat*k)) et)) ρ none (.slice (some ⟨w.heap.size,0,none⟩) l.toNat c.toNat) none:=fun σ' w ρ =>
    ⟨World.grownBy_alloc w _ none,(fun b e=>by cases e),fun b e=>.inr (by simp only [zbz,zkF] at e;omega)⟩
   split at h
   ·split at h
    ·rename_i e' e8;split at h
     ·rename_i k' e9;obtain ⟨a3,h⟩:=h.ok;simp only [ya4] at a3;have c9:k=1:=by simpa using a3.1.1
      have c7:=zed a3.2
      have b2:z=[.slice none 0 0]:=by
       have:=a3.1.2;split at this
       ·rfl
       ·cases this
      have h:=h.out;refine ⟨_,h,fun σ' hag a w ⟨ρ,hs⟩ K' Q hK=>?_⟩;unfold Oper.wp;rw [za7 σ' a w ρ hs (zax hag),Oper.upon_value,a2];have hg:σ'.gn d=σ.gn d:=zdv (za8 hag (.gen d) (by simp));have c6:σ'.ig d=σ.ig d:=zj4 (za8 hag (.ign d) (by simp));obtain ⟨e1,e2,e3,e4,e5⟩:=mkK_eqs σ' σ d (.grid et e' k' (List.replicate l.toNat [IV.sl []]) none)
      let v:Value:=.slice (some ⟨w.heap.size,0,none⟩) l.toNat c.toNat
      let σ2:=app σ' (zfk σ d (.grid et e' k' (List.replicate l.toNat [IV.sl []]) none))
      let ρ2:Ly:=setK ρ σ2 d v (List.replicate l.toNat (.slice none 0 0)) (.grid et e' k' (List.replicate l.toNat [IV.sl []]) none)
      have d2:fpv v (List.replicate l.toNat (.slice none 0 0))=[w.heap.size]:=by
       unfold fpv;simp only [ycg,v,zbz];congr 1;exact List.filterMap_eq_nil_iff.2 fun x hx=>by rw [yby hx];rfl
      have c0:∀ b,Owns σ2 ρ2 d b->b=w.heap.size:=fun b hb=>by
       unfold Owns at hb;rw [e1,if_pos rfl] at hb;simp only [ρ2,setK,if_pos] at hb;have hb:b∈fpv v (List.replicate l.toNat (.slice none 0 0)):=hb;rw [d2] at hb;simpa using hb
      have a5:=World.grownBy_alloc w (.cells (madeCells zv.cells (c.toNat*k)) et) none
      obtain ⟨b4,_,_⟩:=hs.step (σ':=σ2) (ρ':=ρ2) (w':=w.alloc (.cells (madeCells zv.cells (c.toNat*k)) et)) (fun o=>o=d) e4
       (fun o hd=>⟨by show σ2.kd o=_;rw [e1,if_neg hd],by show σ2.gn o=_;rw [e2,if_neg hd],fun i=>e5 o i,by simp [ρ2,setK,hd],by simp [ρ2,setK,hd],by show σ2.ig o=_;rw [e3,if_neg (fun e=>hd e.1)];exact (hs.igs o).symm⟩)
       (fun o hd=>by
        subst hd
        refine ⟨⟨by rw [e2,if_pos rfl,hg];omega,fun e=>by rw [e2,if_pos rfl,hg] at e;omega⟩,?_,fun e=>?_⟩
        ·show _<=σ2.ig o
         rw [e3,hs.igs,c6,if_pos ⟨rfl,rfl⟩];omega
        ·have e:σ2.ig o=ρ.ig o:=e
         rw [e3,hs.igs,c6,if_pos ⟨rfl,rfl⟩] at e;omega)
       (fun o=>rfl) ⟨a5.os,a5.tape,a5.output,a5.size,fun b hb _=>a5.block b hb (by simp)⟩ (fun o b hd ho=>by subst hd;rw [c0 b ho];exact .inl (yap _)) (fun o p b hd hp _ _=>hd.trans hp.symm) fun hI hA o hd=>by
        subst hd;rw [e1,if_pos rfl];show zi2 _ _ (ρ2 o) (ρ2.inn o) _ _ _ _ _;simp only [ρ2,setK,if_pos];refine ⟨by show (fpv v (List.replicate l.toNat (.slice none 0 0))).Nodup;rw [d2];simp,by simp [innK],(List.replicate l.toNat z).flatten,by simp;omega,?_,a7,fun i u hu=>.inr ⟨?_,[],?_,?_⟩⟩
        ·have:=a6 w;rw [c9] at this;rw [yas];rw [c9];exact this
        ·have hu:(List.replicate l.toNat (.slice none 0 0))[i]?=some u:=hu;rw [zfc,b2];rw [ybk] at hu;split at hu
         ·rename_i b3;injection hu with hu
          subst hu;simp [b3,Nat.mod_one]
         ·cases hu
        ·have hu:(List.replicate l.toNat (Value.slice none 0 0))[i]?=some u:=hu;rw [ybk] at hu ⊢;split at hu
         ·rename_i b3;rw [if_pos b3]
         ·cases hu
        ·have hu:(List.replicate l.toNat (Value.slice none 0 0))[i]?=some u:=hu;rw [ybk] at hu;split at hu
         ·injection hu with hu
          subst hu;exact ⟨[],c7,by simp,by simp,World.ownsRow_nil _ _ _ _,rfl,by simp,by simp⟩
         ·cases hu
      refine hK _ _ ⟨ρ2,?_⟩;rw [za2];refine b4.put (d:=some d) (fun t e=>by injection e with e;subst e;exact zdh hd a2) (.osl _ _ _ rfl ?_ fun _=>?_)
      ·show _<=σ2.gn d;rw [e2,if_pos rfl];exact yap _
      ·simp [ρ2,setK,v]
     ·exact h.elim
    ·exact h.elim
   ·split at h
    ·have h:=h.out;refine ⟨_,h,fun σ' hag a w ⟨ρ,hs⟩ K' Q hK=>?_⟩;unfold Oper.wp;rw [za7 σ' a w ρ hs hag,Oper.upon_value,a2];have d0:Below w.heap.size w (w.alloc (.cells (madeCells zv.cells (c.toNat*k)) et)):=(Below.refl _ _).alloc (yap _) _;obtain ⟨e0,hI⟩:=hs.world d0;refine hK _ _ ⟨ρ,?_⟩;show SatR B (app σ' [(.tmp d,.av (.im (.sl (List.replicate l.toNat (z.map fun v=>nz1 (.val v))))))]) _ _ _;refine e0.put (d:=some d) (fun t e=>by injection e with e;subst e;exact zdh hd a2) (.im _ _ ?_);refine .sl w.heap.size 0 c.toNat k l.toNat _ (List.replicate l.toNat z).flatten (by rw [yas]) (fun x hx=>by rw [yby hx,zkK,a0]) b7 (by omega) ⟨.inr (.inl hs.bel.size),by simp,fun p d9=>?_,fun hz=>?_⟩ ?_ a7 (fun i u hu=>?_) fun i u x hu hx=>?_
     ·have:=(hs.own p _ d9).2;omega
     ·have:=(hs.res _ hz).1.2;omega
     ·rw [zbv (k:=k) (fun x hx=>by rw [yby hx];exact a0),zbv (k:=k) (fun x hx=>by rw [yby hx,zkK,a0])];simp
     ·have:=(a6 w).cells (g:=w.heap.size) rfl i u hu;rw [addr_add,yai] at this;rw [yai];exact this
     ·rw [zfc] at hu hx;rw [zkK] at hx;split at hu
      ·rename_i b5;rw [if_pos b5,yaf,hu] at hx;injection hx with hx
       subst hx;exact zjm (.val u)
      ·cases hu
    ·have h:=h.out;refine ⟨_,h,fun σ' hag a w ⟨ρ,hs⟩ K' Q hK=>?_⟩;unfold Oper.wp;rw [za7 σ' a w ρ hs (zax hag),Oper.upon_value,a2];refine hK _ _ ⟨setρ ρ d (.slice (some ⟨w.heap.size,0,none⟩) l.toNat c.toNat),?_⟩;have hg:σ'.gn d=σ.gn d:=zdv (za8 hag (.gen d) (by simp))
     have b4:=hs.new (d:=d) (k:=.row et k (List.replicate l.toNat (z.map fun v=>nz1 (.val v)))) (cs:=[]) (m σ' w ρ) rfl fun hI _=>by
      refine ⟨(List.replicate l.toNat z).flatten,d6,fun x hx=>by rw [yby hx,zkK,a0],by rw [yas];omega,?_,?_,a7,fun i u x hu hx=>?_⟩
      ·simp only [setρ,if_pos,yas];exact a6 w
      ·rw [zbv (k:=k) (fun x hx=>by rw [yby hx];exact a0),zbv (k:=k) (fun x hx=>by rw [yby hx,zkK,a0])];simp
      ·rw [zfc] at hu hx;rw [zkK] at hx;split at hu
       ·rename_i b5;rw [if_pos b5,yaf,hu] at hx;injection hx with hx
        subst hx;exact zjm (.val u)
       ·cases hu
     have:=zlc (σ:=σ) (σ':=σ') (k:=.row et k (List.replicate l.toNat (z.map fun v=>nz1 (.val v)))) (cs:=[]) (v:=.osl d (σ.gn d+1)) hg;simp only [zfl,ybq] at this;show SatR B (app σ' (zd0 σ d (.row et k (List.replicate l.toNat (z.map fun v=>nz1 (.val v))))++[(.tmp d,.av (.osl d (σ.gn d+1)))])) _ _ _;rw [this,<- hg];exact zi0 b4 rfl (zdh hd a2)
  ·exact h.elim
 ·exact h.elim
theorem aMakeMap_ok {t:TypeId} {r:Option Operand} (hop:o.op=.makeMap t r) (hd:zco B.n o=true) (h:aMakeMap o σ K t r):∃ fx,K fx∧Eff P B o fx.rd σ fx.wr:=by
 unfold aMakeMap at h;split at h
 ·rename_i d a0;refine ⟨_,h,fun σ' hag a w ⟨ρ,hs⟩ K' Q hK=>?_⟩;have hg:σ'.gn d=σ.gn d:=zdv (hag (.gen d) (by simp))
  have run:(execOp a.eval o).run P w=.ok (.value (.map (some w.heap.size))) (w.alloc (.map #[] 0)):=by
   simp [execOp,hop,Instr.makeMap]
  unfold Oper.wp;rw [run,Oper.upon_value,a0]
  have m:zpp σ' w (w.alloc (.map #[] 0)) ρ none (.map (some w.heap.size)) none :=
   ⟨World.grownBy_alloc w _ none,(fun b e=>by cases e),fun b e=>.inr (by simp only [zbz,zkF] at e;omega)⟩
  refine hK _ _ ⟨setρ ρ d (.map (some w.heap.size)),?_⟩;have a2:=hs.new (d:=d) (k:=.map []) (cs:=[]) m rfl fun hI _=>⟨w.heap.size,0,#[],by simp [setρ],heap_alloc_new w _,rfl,zp2.nil 0⟩;have:=zlc (σ:=σ) (σ':=σ') (k:=.map []) (cs:=[]) (v:=.osl d (σ.gn d+1)) hg;simp only [zfl,ybq] at this;rw [this,<- hg];exact zi0 a2 rfl (zdh hd a0)
 ·exact h.elim
theorem zn0 {w:World} {S:Nat->Prop} {ρ:Ly} {γ:Nat->Nat} {v:Value} {x:AV} {u:Value} (e:asVal x=some u) (h:RepA w S ρ γ v x):v=u:=by
 unfold asVal at e;split at e
 ·injection e with e
  subst e;have h:=h.im_inv;cases h;rfl
 ·cases e
theorem zl4 {t k e:TypeId} (h:zs1 P t=some (k,e)):P.underlying t=some (.map k e):=by
 unfold zs1 at h;split at h
 ·rename_i k' e' hu;simp only [zkF,zkG] at h;rw [hu,h.1,h.2]
 ·cases h
theorem zrh {kt:TypeId} {D:TypeDesc} (h:keyD P kt=some D):P.underlying kt=some D∧((∃ k,D=.int k)∨D=.string∨D=.bool):=by
 unfold keyD at h;split at h
 ·rename_i k hu;injection h with h;subst h;exact ⟨hu,.inl ⟨k,rfl⟩⟩
 ·rename_i hu;injection h with h;subst h;exact ⟨hu,.inr (.inl rfl)⟩
 ·rename_i hu;injection h with h;subst h;exact ⟨hu,.inr (.inr rfl)⟩
 ·cases h
theorem zr3 {kt:TypeId} {D:TypeDesc} (h:keyD P kt=some D) (em:Bool) (v:Value) (w:World):(Instr.checkKey em 10000 kt v).run P w=.ok () w:=by
 obtain ⟨hu,hD⟩:=zrh h;unfold Instr.checkKey;rw [Sem.run_bind,run_underlying hu];simp only [Result.andThen_ok];rcases hD with ⟨k,rfl⟩ | rfl | rfl<;>rfl
theorem ztq (D:TypeDesc) (k:Value):∀ (es:List MapEntry) (i:Nat),(Instr.findNow D k es i).map (·.map (·.2))=findV D k (es.map fun e=>(e.key,e.val))
 | [],i=>rfl
 | e::es,i=>by
  unfold Instr.findNow;rw [ya1];unfold findV;simp only;cases Instr.sameNow D k e.key with
  | none=>rfl
  | some b=>cases b with
   | true=>rfl
   | false=>exact ztq D k es (i+1)
theorem find_run {kt:TypeId} {D:TypeDesc} (h:keyD P kt=some D) {k:Value} {es:List MapEntry} {r:Option (Nat×Value)} (hf:Instr.findNow D k es 0=some r) (w:World):(Instr.findKey kt k es).run P w=.ok r w:=by
 unfold Instr.findKey;rw [Sem.run_bind,run_underlying (zrh h).1];simp only [Result.andThen_ok,hf,Sem.run_pure]
theorem aLookup_ok {t:TypeId} {x i:Operand} {ok:Bool} (hop:o.op=.lookup t x i ok) (hd:zco B.n o=true) (h:aLookup P o σ K t x i ok):∃ fx,K fx∧Eff P B o fx.rd σ fx.wr:=by
 unfold aLookup at h;split at h
 ·rename_i kt et b g kv a9 hx hi;have a4:=zl4 a9;split at h
  ·rename_i l D z b7 a5 hz;obtain ⟨hg,r,hr,h⟩:=h.out;have h:=h.out
   have a3:∀ σ',(∀ y∈opd x++opd i++[.gen b,.knd b],σ' y=σ y)->∀ a w,Sat B σ' a w->(execOp a.eval o).run P w=.ok (.value (if ok=true then .tuple #[r.getD z,.bool r.isSome] else r.getD z)) w:=fun σ' hag a w ⟨ρ,hs⟩=>by
    obtain ⟨ha,hg',b5,_⟩:=zc4 hag;have h1:=za1 hs x;have h2:=za1 hs i;rw [zao (zax ha),hx] at h1;rw [zao (za8 ha)] at h2;have a8:=zn0 hi h2;have ho:=hs.obs b;rw [b5.trans b7] at ho;obtain ⟨q,a6,es,e1,e2,e3,b8⟩:=ho
    have b2:a.eval x=.map (some q):=by
     generalize a.eval x=v at h1;cases h1 with
     | osl _ _ _ _ _ hh=>rw [hh (hg'.trans hg),e1]
    have a0:=ztq D kv es.toList 0;rw [e3,hr] at a0
    obtain ⟨r0,b3,a2⟩:∃ r0,Instr.findNow D kv es.toList 0=some r0∧r0.map (·.2)=r:=by
     cases hc:Instr.findNow D kv es.toList 0 with
     | none=>rw [hc] at a0;cases a0
     | some r0=>rw [hc] at a0;simp only [yal,zkF] at a0;exact ⟨r0,rfl,a0⟩
    have a7:∀ w,(zeroValue et).run P w=.ok z w:=fun w=>by
     unfold zeroV at hz;split at hz
     ·rename_i it b6;simp [zeroValue,typeInfo,b6,hz]
     ·cases hz
    have b4:=MapKept.run_getObj_map (P:=P) e2;simp only [execOp,hop,b2,a8,Instr.lookup,Sem.run_bind,run_underlying a4,Result.andThen_ok,b4,Sem.run_pure,zr3 a5,find_run a5 b3];cases r0 with
    | none =>
     simp only [ydo] at a2;subst a2;cases ok<;>simp [a7]
    | some p =>
     simp only [yal] at a2;subst a2;cases ok<;>simp
   split at h
   ·have h:=h.out;refine ⟨_,h,Eff.pure hd fun σ' hag a w ρ hs=>⟨_,a3 σ' hag a w ⟨ρ,hs⟩,?_⟩⟩;simp only [if_true]
    exact .tup [r.getD z,.bool r.isSome] _ rfl fun j u y hu hy=>by
     match j with
     | 0=>simp at hu hy;rw [<- hu,<- hy];exact zcx _
     | 1=>simp at hu hy;rw [<- hu,<- hy];exact vB_rep _
     | j+2=>simp at hu
   ·refine ⟨_,h,Eff.pure hd fun σ' hag a w ρ hs=>⟨_,a3 σ' hag a w ⟨ρ,hs⟩,?_⟩⟩;simp only [yd7,if_false];exact zcx _
  ·exact h.elim
 ·exact h.elim
theorem setV_eq (D:TypeDesc) (hD:(∃ k,D=.int k)∨D=.string∨D=.bool) (k v:Value):∀ (es:List MapEntry) (i:Nat) (l:List (Value×Value)),setV D k v (es.map fun e=>(e.key,e.val))=some l ->
  (Instr.findNow D k es i=some none∧l=(es.map fun e=>(e.key,e.val))++[(k,v)])∨∃ j e,Instr.findNow D k es i=some (some (i+j,e.val))∧es[j]?=some e∧Instr.sameBits 10000 e.key k=true∧l=(es.set j { e with key:=k,val:=v }).map fun e=>(e.key,e.val)
 | [],i,l,h=>by
  simp only [ye6,setV,zkF] at h;exact .inl ⟨rfl,by rw [<- h];rfl⟩
 | e::es,i,l,h=>by
  rw [ya1] at h;unfold setV at h;unfold Instr.findNow;simp only at h;cases hs:Instr.sameNow D k e.key with
  | none=>rw [hs] at h;cases h
  | some b =>
   rw [hs] at h;cases b with
   | true =>
    simp only [zkF] at h;refine .inr ⟨0,e,rfl,rfl,?_,by rw [<- h];rfl⟩;unfold Instr.sameNow at hs;split at hs
    ·rename_i k1 a k2 b hk;split at hs
     ·rename_i he;simp only [zkF] at hs;rw [hk];have hab:a=b:=by simpa using hs
      subst he hab;simp [Instr.sameBits]
     ·cases hs
    ·rename_i a b hk;simp only [zkF] at hs;rw [hk,ba_eq hs];exact ba_rfl _
    ·rename_i a b hk;simp only [zkF] at hs;have hab:a=b:=by simpa using hs
     rw [hk,hab];simp [Instr.sameBits]
    ·cases hs
   | false =>
    cases hr:setV D k v (es.map fun e=>(e.key,e.val)) with
    | none=>simp only [hr] at h;cases h
    | some l' =>
     simp only [hr,yal,zkF] at h;rcases setV_eq D hD k v es (i+1) l' hr with ⟨h1,h2⟩ | ⟨j,e',h1,h2,h3,h4⟩
     ·exact .inl ⟨h1,by rw [<- h,h2];rfl⟩
     ·exact .inr ⟨j+1,e',by rw [h1,yb4,ydf 1 j],by simpa using h2,h3,by rw [<- h,h4];rfl⟩
theorem aMapUpdate_ok {t:TypeId} {x i y:Operand} (hop:o.op=.mapUpdate t x i y) (hd:zco B.n o=true) (h:zo3 P o σ K t x i y):∃ fx,K fx∧Eff P B o fx.rd σ fx.wr:=by
 unfold zo3 at h;split at h
 ·rename_i kt et b g kv v c7 hx hi hy;have a5:=zl4 c7;split at h
  ·rename_i l D a8 a4;obtain ⟨hg,l',b3,h⟩:=h.out;refine ⟨_,h,fun σ' hag a w ⟨ρ,hs⟩ K' Q hK=>?_⟩;obtain ⟨ha,hg',a7,_⟩:=zc4 hag;have h1:=za1 hs x;have h2:=za1 hs i;have h3:=za1 hs y;rw [zao (zax (zax ha)),hx] at h1;rw [zao (za8 (zax ha))] at h2;rw [zao (za8 ha)] at h3;have b2:=zn0 hi h2;have hv:=zn0 hy h3;have ho:=hs.obs b;rw [a7.trans a8] at ho;obtain ⟨q,a2,es,e1,e2,e3,b9⟩:=ho
   have b4:a.eval x=.map (some q):=by
    generalize a.eval x=u at h1;cases h1 with
    | osl _ _ _ _ _ hh=>rw [hh (hg'.trans hg),e1]
   rw [<- e3] at b3;have b8:=MapKept.run_getObj_map (P:=P) e2;have a6:live σ' b:=by unfold live;rw [a7.trans a8];exact fun z=>by cases z
   have c6:zbz (ρ b)=some q:=by rw [e1];rfl
   have b7:∀ (a3:Array MapEntry) (a0:Nat),(a3.toList.map fun e=>(e.key,e.val))=l'->zp2 a3 a0->(execOp a.eval o).run P w=.ok .skip (setBlock w q (.map a3 a0))->o.wp P a w K' Q:=fun a3 a0 c0 b5 a9=>by
    unfold Oper.wp;rw [a9,Oper.upon_skip];refine hK _ _ ⟨ρ,?_⟩
    have c8:=hs.turn (b:=b) (q:=q) (w':=setBlock w q (.map a3 a0)) (k':=.map l') a6 c6 ⟨rfl,rfl,rfl,by simp [setBlock],fun i _ hi=>heap_setBlock_other e2 _ (fun e=>hi (by rw [e]))⟩ (fun c hc=>by unfold Owns;rw [a7.trans a8];exact hc) fun hI =>
     ⟨q,a0,a3,e1,heap_setBlock_same e2 _,c0,b5⟩
    rw [zcl];exact c8.put (zka hd) (zcx _)
   rcases setV_eq D (zrh a4).2 kv v es.toList 0 l' b3 with ⟨f1,f2⟩ | ⟨j,e,f1,f2,f3,f4⟩
   ·refine b7 (es.push { key:=kv,val:=v,born:=a2 }) (a2+1) (by rw [f2];simp) (b9.push _ _) ?_;simp only [execOp,hop,b4,b2,hv,Instr.mapUpdate,Sem.run_bind,run_underlying a5,Result.andThen_ok,b8,Sem.run_pure,zr3 a4,find_run a4 f1,MapKept.run_setObj_map _ e2];rfl
   ·have hj:es[j]?=some e:=by rw [<- ya3];exact f2
    have b6:j<es.size:=(yb7.1 hj).1;refine b7 (es.modify j fun e=>{ e with key:=kv,val:=v }) a2 ?_ (b9.modify _ _ fun _=>rfl) ?_
    ·rw [f4];congr 1;apply yce;intro n;rw [ya3,ydg,yeg];by_cases hn:j=n
     ·subst hn;rw [if_pos rfl,if_pos rfl,if_pos (by simpa using b6),hj];rfl
     ·rw [if_neg hn,if_neg hn,ya3]
    ·rw [yai] at f1;simp only [execOp,hop,b4,b2,hv,Instr.mapUpdate,Sem.run_bind,run_underlying a5,Result.andThen_ok,b8,Sem.run_pure,zr3 a4,find_run a4 f1,MapKept.run_setObj_map _ e2,hj,Instr.keyThatStays,yal,yae,f3,if_true];rfl
  ·exact h.elim
 ·exact h.elim
theorem aDelete_ok {c:Call} {t t':TypeId} {x i:Operand} (hop:o.op=.call c) (hc:c.callee=.builtin .delete) (ha:c.args.toList=[x,i]) (ht:c.argTypes.toList=[t,t']) (hd:zco B.n o=true) (h:aDelete P o σ K t x i):∃ fx,K fx∧Eff P B o fx.rd σ fx.wr:=False.elim h
end
end
section
open Go.RowKit
section
variable {P:Program} {B:Base} {o:Oper} {σ:St} {K:Fx->Prop}
theorem zqq {a:Act} {w:World} {ρ:Ly} (hs:SatR B σ a w ρ) {y:Operand} {n:Int} {k:IntKind} (hy:Sym.asInt (evA σ y)=some (k,n)) {m:Nat} {c:BoundsCode} (h0:0<=n) (hm:n<=m):(Instr.sliceBound (a.eval y) m c).run P w=.ok n.toNat w:=by
 have h3:0<=n∧n<=m:=⟨h0,hm⟩;simp only [zcf hy (za1 hs y),Instr.sliceBound,asIntOf,Sem.run_bind,Sem.run_pure,Result.andThen_ok,if_pos h3]
theorem zqh {a:Act} {w:World} {ρ:Ly} (hs:SatR B σ a w ρ) {b k:Nat} {t:TypeId} {es:List (List IV)} (hk:σ.kd b=.row t k es) (hn:0<es.length) :
  ∃ (q cap:Nat) (cur:Array Value) (us:List Value),ρ b=.slice (some ⟨q,0,none⟩) es.length cap∧w.heap[q]?=some (.cells cur t (0,0))∧es.length<=cap∧cap<=maxLen∧cur.size=cap*k∧cur.toList.take (es.length*k)=us∧0<k∧(∀ x∈es,x.length=k)∧es.length<=17592186044416∧us.length=es.flatten.length ∧
   (∀ u∈us,u.oneCell'=true)∧∀ (i:Nat) u x,us[i]?=some u->es.flatten[i]?=some x->RepI w (Imm B σ ρ w) u x:=by
 have ho:=hs.obs b;rw [hk] at ho;obtain ⟨us,h1,h2,h3,h4,h5,h6,h7⟩:=ho;rcases h4.2 with ⟨_,h0⟩ | ⟨q,cap,cur,e1,_,e3,e4,e5,e6,e7⟩
 ·omega
 ·exact ⟨q,cap,cur,us,e1,e3,e4,e5,e6,e7,h1,h2,h3,h5,h6,h7⟩
theorem aSliceV_ok {t:TypeId} {x lo:Operand} {b g:Nat} (hop:o.op=.slice t x (some lo) none none) (hx:evA σ x=.osl b g) (hd:zco B.n o=true) (h:aSliceV P o σ K t x b g lo):∃ fx,K fx∧Eff P B o fx.rd σ fx.wr:=by
 unfold aSliceV at h;split at h
 ·rename_i et kk l b3 k es a9 a6 b2;have hu:=zd9 a9;split at h
  ·rename_i k' a8;obtain ⟨a0,h'⟩:=h.ok;clear h;have a0:=yav a0;subst a0;obtain ⟨⟨hg,h0,hl,hn⟩,h⟩:=h'.out;refine ⟨_,h,Eff.pure hd fun σ' hag a w ρ hs=>?_⟩;obtain ⟨a4,hg',a7,_⟩:=zc4 hag;have h1:=za1 hs x;rw [zao (zax a4),hx] at h1;have a5:Sym.asInt (evA σ' lo)=some (kk,l):=by rw [zao (za8 a4)];exact a6
   obtain ⟨q,a3,cur,us,e1,e2,e3,_⟩:=zqh hs (a7.trans b2) hn;have hb:=fun c=>zqq (P:=P) (w:=w) hs a5 (m:=es.length) (c:=c) h0 (by omega);have hz:=zgj a8 w;generalize hv:a.eval x=v at h1;cases h1 with
   | osl _ _ _ a2 hgg hh =>
    rw [hh (hg'.trans hg),e1] at hv;refine ⟨.slice (if a3=l.toNat then some ⟨q,0,none⟩ else some ⟨q,l.toNat*k,none⟩) (es.length-l.toNat) (a3-l.toNat),?_,.osv _ b g l.toNat k (by rfl) hgg fun _=>⟨q,_,a3,e1,hl,rfl⟩⟩;simp only [execOp,hop,hv,Instr.sliceAt,Instr.slice,Sem.run_bind,Sem.run_pure,Result.andThen_ok,run_underlying hu,ydo,yal,hz];unfold Instr.sliceBounds;simp [hb,addr_add,hz]
  ·exact h.elim
 ·exact h.elim
theorem aSlice3_ok {t:TypeId} {x:Operand} {lo hi:Option Operand} {mx:Operand} (hop:o.op=.slice t x lo hi (some mx)) (hd:zco B.n o=true) (h:aSlice3 P o σ K t x lo hi mx):∃ fx,K fx∧Eff P B o fx.rd σ fx.wr:=False.elim h
theorem aLenV_ok {c:Call} {t:TypeId} {ts:List TypeId} {x:Operand} {b g k m:Nat} (hop:o.op=.call c) (hc:c.callee=.builtin .len) (ha:c.args.toList=[x]) (ht:c.argTypes.toList=t::ts) {e:TypeId} (he:zg7 P t=some e) (hx:evA σ x=.osv b g k m) (hd:zco B.n o=true) (h:aLenV o σ K x b g k):∃ fx,K fx∧Eff P B o fx.rd σ fx.wr:=by
 have a5:c.argTypes[0]?=some t:=by rw [<- ya3,ht];rfl
 have a4:∀ a:Act,(c.args.map a.eval)[0]?=some (a.eval x):=fun a=>by rw [<- ya3,ycj,ha];rfl
 have hu:=zd9 he
 have run:∀ (a:Act) w A n cp,a.eval x=.slice A n cp->(execOp a.eval o).run P w=.ok (.value (.int .i64 n)) w:=fun a w A n cp hv=>by
  simp only [execOp,hop,resolve,hc,invoke,builtin,Builtin.len_,a5,a4,Sem.run_bind,Sem.run_pure,Result.andThen_ok,run_underlying hu,hv,goInt]
 unfold aLenV at h;split at h
 ·rename_i t' kk es a6;obtain ⟨hg,h⟩:=h.out;have h:=h.out;refine ⟨_,h,Eff.pure hd fun σ' hag a w ρ hs=>?_⟩;obtain ⟨a0,hg',a3,_⟩:=zc4 hag;have h1:=za1 hs x;rw [zao a0,hx] at h1;obtain ⟨A,cp,hρ⟩:=zt2 hs (a3.trans a6);generalize hv:a.eval x=v at h1;cases h1 with
  | osv _ _ _ _ _ a2 hgg hh =>
   obtain ⟨q,n,c',e1,e2,e3⟩:=hh (hg'.trans hg);rw [hρ] at e1;injection e1 with _ e1 _
   subst e1;rw [e3] at hv;exact ⟨_,run a w _ _ _ hv,zcx _⟩
 ·exact h.elim
theorem aIndexV_ok {t:TypeId} {x i:Operand} {b g k m:Nat} (hop:o.op=.indexAddr t x i) (hx:evA σ x=.osv b g k m) (hd:zco B.n o=true) (h:aIndexV P o σ K t x i b g k m):∃ fx,K fx∧Eff P B o fx.rd σ fx.wr:=by
 unfold aIndexV at h;split at h
 ·rename_i kk n et t' k' es hi a6 a7;have hu:=zd9 a6;split at h
  ·rename_i m' hm;obtain ⟨a0,h'⟩:=h.ok;clear h;have a0:=yav a0;subst a0;obtain ⟨⟨h0,hg,a8⟩,h⟩:=h'.out;have h:=h.out;refine ⟨_,h,Eff.pure hd fun σ' hag a w ρ hs=>?_⟩;obtain ⟨a3,hg',a5,_⟩:=zc4 hag;have h1:=za1 hs x;have h2:=za1 hs i;rw [zao (zax a3),hx] at h1;rw [zao (za8 a3)] at h2;have hn:=zcf hi h2;obtain ⟨q,a4,cur,us,e1,e2,e3,_⟩:=zqh hs (a5.trans a7) (by omega);generalize hv:a.eval x=v at h1;cases h1 with
   | osv _ _ _ _ _ a2 hgg hh =>
    obtain ⟨q',n',c',f1,f2,f3⟩:=hh (hg'.trans hg);have a9:=f1;rw [e1] at f1;injection f1 with f1 f4 f5
    injection f1 with f1
    injection f1 with f1
    subst f1 f4 f5;rw [f3,if_neg (by omega)] at hv;have hz:=zgj hm w;have h3:0<=n∧n<(es.length-k:Nat):=⟨h0,by omega⟩;refine ⟨.pointer (some ⟨q,(k+n.toNat)*m,none⟩),?_,.elt _ b g m (k+n.toNat) 0 rfl hgg fun _=>⟨q,0,_,a4,e1,by rw [yca,yai]⟩⟩;simp only [execOp,hop,hv,hn,Instr.indexAt,asIntOf,Sem.run_bind,Sem.run_pure,Result.andThen_ok,run_underlying hu,if_pos h3,hz,addr_add];rw [Nat.add_mul]
  ·exact h.elim
 ·exact h.elim
theorem aSliceT_ok {t:TypeId} {x hi:Operand} {b g:Nat} (hop:o.op=.slice t x none (some hi) none) (hx:evA σ x=.osl b g) (hd:zco B.n o=true) (h:aSliceT P o σ K t x b g hi):∃ fx,K fx∧Eff P B o fx.rd σ fx.wr:=by
 unfold aSliceT at h;split at h
 ·rename_i et kk l a3 k es d c7 c6 b7 a4;have hu:=zd9 c7;split at h
  ·rename_i k' c0;obtain ⟨a9,h'⟩:=h.ok;clear h;have a9:=yav a9;subst a9;obtain ⟨⟨hg,h0,hl,hn⟩,h⟩:=h'.out;have h:=h.out;refine ⟨_,h,fun σ' hag a w ⟨ρ,hs⟩ K' Q hK=>?_⟩;obtain ⟨b2,hg',b5,d0⟩:=zc4 hag;have h1:=za1 hs x;rw [zao (zax b2),hx] at h1;have b6:Sym.asInt (evA σ' hi)=some (kk,l):=by rw [zao (za8 b2)];exact c6
   obtain ⟨q,cap,cur,us,e1,e2,e3,e4,e5,e6,e7,e8,e9,a2,a6,a7⟩:=zqh hs (b5.trans b7) hn;have hb:=fun c=>zqq (P:=P) (w:=w) hs b6 (m:=cap) (c:=c) h0 (by omega);have hz:=zgj c0 w
   have hv:a.eval x=.slice (some ⟨q,0,none⟩) es.length cap:=by
    generalize a.eval x=v at h1;cases h1 with
    | osl _ _ _ a8 hgg hh=>rw [hh (hg'.trans hg),e1]
   have run:(execOp a.eval o).run P w=.ok (.value (.slice (some ⟨q,0,none⟩) l.toNat cap)) w:=by
    simp only [execOp,hop,hv,Instr.sliceAt,Instr.slice,Sem.run_bind,Sem.run_pure,Result.andThen_ok,run_underlying hu,ydo,yal,hz];unfold Instr.sliceBounds;have:¬ cap=0:=by omega
    simp [hb,addr_add,hz,this]
   unfold Oper.wp;rw [run,Oper.upon_value,a4];refine hK _ _ ⟨setρ ρ b (.slice (some ⟨q,0,none⟩) l.toNat cap),?_⟩;have a0:Owns σ' ρ b q:=.root (znp (b5.trans b7)) (by rw [e1];rfl);have m:zpp σ' w w ρ (some b) (.slice (some ⟨q,0,none⟩) l.toNat cap) (some q):=⟨World.grownBy.refl _ _,fun c hc=>by injection hc with hc;subst hc;exact ⟨b,rfl,a0⟩,fun c hc=>.inl (by injection hc with hc;rw [<- hc])⟩;have a5:(es.take l.toNat).length=l.toNat:=by rw [yaz];omega
   have b4:(es.take l.toNat).flatten=es.flatten.take (l.toNat*k):=znq e8;have c9:=zbv e8;have b3:l.toNat*k<=es.length*k:=yb0 _ hl
   have c8:=hs.new (d:=b) (k:=.row a3 k (es.take l.toNat)) (cs:=[]) m rfl fun hI _=>by
    refine ⟨us.take (l.toNat*k),e7,fun y hy=>e8 y (ybg hy),by rw [a5];omega,?_,by rw [b4,yaz,yaz,a2],fun u hu=>a6 u (ybg hu),fun i u y hu hy=>?_⟩
    ·rw [a5];refine ⟨by rw [yaz];omega,.inr ⟨q,cap,cur,by simp [setρ],yag _,e2,by omega,e4,e5,?_⟩⟩;rw [<- e6,yfe,yci b3]
    ·rw [b4,ybm] at hy;rw [ybm] at hu;split at hu
     ·rename_i b9;rw [if_pos b9] at hy;exact hI _ _ (a7 i u y hu hy)
     ·cases hu
   have b8:app σ' ((.knd b,.kd .dead)::(zd0 σ b (.row a3 k (es.take l.toNat))++[(.tmp d,.av (.osl b (σ.gn b+1)))]))=app (ze3 σ' (some b) b (.row a3 k (es.take l.toNat)) []) [(.tmp d,.av (.osl b (σ'.gn b+1)))]:=by
    rw [zcl,za2];unfold ze3 zd0;rw [hg'];rfl
   show SatR B (app σ' ((.knd b,.kd .dead)::(zd0 σ b (.row a3 k (es.take l.toNat))++[(.tmp d,.av (.osl b (σ.gn b+1)))]))) _ _ _;rw [b8];exact zj0 c8 rfl (zdh hd a4)
  ·exact h.elim
 ·exact h.elim
theorem aSliceQ_ok {t:TypeId} {x lo:Operand} {b g:Nat} (hop:o.op=.slice t x (some lo) none none) (hx:evA σ x=.osl b g) (hd:zco B.n o=true) (h:aSliceQ P o σ K t x b g lo):∃ fx,K fx∧Eff P B o fx.rd σ fx.wr:=by
 unfold aSliceQ at h;split at h
 ·rename_i et kk l a2 k es d d3 c0 b6 a3;have hu:=zd9 d3;split at h
  ·rename_i k' c9;obtain ⟨a4,h'⟩:=h.ok;clear h;have a4:=yav a4;subst a4;obtain ⟨⟨hg,h0,hl⟩,h⟩:=h'.out;have h:=h.out;refine ⟨_,h,fun σ' hag a w ⟨ρ,hs⟩ K' Q hK=>?_⟩;obtain ⟨b3,hg',b4,d7⟩:=zc4 hag;have h1:=za1 hs x;rw [zao (zax b3),hx] at h1;have a8:Sym.asInt (evA σ' lo)=some (kk,l):=by rw [zao (za8 b3)];exact c0
   have ho:=hs.obs b;rw [b4.trans b6] at ho;have hQ:zjk w (Imm B σ' ρ w) (ρ b) a2 k es:=ho;obtain ⟨us,k0,hk,d5,b2,d1,d2,hv⟩:=hQ
   have a9:a.eval x=ρ b:=by
    generalize a.eval x=v at h1;cases h1 with
    | osl _ _ _ _ _ hh=>exact hh (hg'.trans hg)
   have hb:=fun c=>zqq (P:=P) (w:=w) hs a8 (m:=es.length) (c:=c) h0 (by omega);have hz:=zgj c9 w
   have key:∃ v',(execOp a.eval o).run P w=.ok (.value v') w∧(∀ q,zbz v'=some q->zbz (ρ b)=some q)∧v'.oneCell'=true∧∀ S',(∀ u x,RepI w (Imm B σ' ρ w) u x->RepI w S' u x)->zjk w S' v' a2 k (es.drop l.toNat):=by
    have b5:(es.drop l.toNat).flatten=es.flatten.drop (l.toNat*k):=zrx hk;have d4:l.toNat*k<=es.length*k:=yb0 _ hl;have b9:=zbv hk
    have mk:∀ v',((v'=.slice none 0 0∧es.drop l.toNat=[])∨∃ (q off a0:Nat) (cur:Array Value),v'=.slice (some ⟨q,off,none⟩) (es.drop l.toNat).length a0∧w.heap[q]?=some (.cells cur a2 (0,0))∧(es.drop l.toNat).length<=a0∧a0<=maxLen∧off+a0*k<=cur.size∧∀ (j:Nat) u,(us.drop (l.toNat*k))[j]?=some u->cur[off+j]?=some u)->∀ S',(∀ u x,RepI w (Imm B σ' ρ w) u x->RepI w S' u x)->zjk w S' v' a2 k (es.drop l.toNat):=fun v' b8 S' hI=>by
     refine ⟨us.drop (l.toNat*k),k0,fun x hx=>hk x (ybn hx),by rw [ybw];omega,by rw [b5,ybw,ybw,b2],fun u hu=>d1 u (ybn hu),fun i u x hu hx=>?_,b8⟩;rw [b5,ybv] at hx;rw [ybv] at hu;exact hI _ _ (d2 _ u x hu hx)
    rcases hv with ⟨e1,e2⟩ | ⟨q,off,a0,cur,e1,e2,e3,e4,e5,e6⟩
    ·have c8:l.toNat=0:=by rw [e2] at hl;simpa using hl
     refine ⟨.slice none 0 0,?_,(fun q (hq:none=some q)=>nomatch hq),rfl,mk _ (.inl ⟨rfl,by rw [e2];simp⟩)⟩;have b7:es.length=0:=by rw [e2];rfl
     rw [b7] at hb;simp only [execOp,hop,a9,e1,Instr.sliceAt,Instr.slice,Sem.run_bind,Sem.run_pure,Result.andThen_ok,run_underlying hu,ydo,yal,hz];unfold Instr.sliceBounds;simp [hb,hz,c8]
    ·refine ⟨.slice (if a0=l.toNat then some ⟨q,off,none⟩ else some ⟨q,off+l.toNat*k,none⟩) (es.length-l.toNat) (a0-l.toNat),?_,fun p hp=>?_,by rfl,mk _ (.inr ?_)⟩
     ·simp only [execOp,hop,a9,e1,Instr.sliceAt,Instr.slice,Sem.run_bind,Sem.run_pure,Result.andThen_ok,run_underlying hu,ydo,yal,hz];unfold Instr.sliceBounds;simp [hb,addr_add,hz]
     ·rw [e1];split at hp<;>exact hp
     ·by_cases hc:a0=l.toNat
      ·rw [if_pos hc];refine ⟨q,off,a0-l.toNat,cur,by rw [ybw],e2,by rw [ybw];omega,by omega,by rw [hc,ybx,ycv];omega,fun j u hu=>?_⟩
       have:(us.drop (l.toNat*k)).length=0:=by
        have:es.length=l.toNat:=by omega
        rw [ybw,b2,b9,this];omega
       rw [yau this] at hu;cases hu
      ·rw [if_neg hc];have d6:l.toNat*k+(a0-l.toNat)*k=a0*k:=by rw [<- Nat.add_mul];congr 1;omega
       refine ⟨q,off+l.toNat*k,a0-l.toNat,cur,by rw [ybw],e2,by rw [ybw];omega,by omega,by omega,fun j u hu=>?_⟩;rw [ybv] at hu;rw [yb4];exact e6 _ u hu
   obtain ⟨v',a5,a7,a6,d0⟩:=key;unfold Oper.wp;rw [a5,Oper.upon_value,a3];refine hK _ _ ⟨setρ ρ b v',?_⟩;have c6:=hs.qued (w':=w) (used:=some b) (row:=zbz (ρ b)) (d:=b) (v':=v') (e:=a2) (k:=k) (es:=es.drop l.toNat) (fun q hq=>⟨b,rfl,.root (live_que (b4.trans b6)) hq⟩) (World.grownBy.refl _ _) (fun q hq=>.inl (a7 q hq)) d0
   have c7:app σ' ((.knd b,.kd .dead)::(zd0 σ b (.que a2 k (es.drop l.toNat))++[(.tmp d,.av (.osl b (σ.gn b+1)))]))=app (ze3 σ' (some b) b (.que a2 k (es.drop l.toNat)) []) [(.tmp d,.av (.osl b (σ'.gn b+1)))]:=by
    rw [zcl,za2];unfold ze3 zd0;rw [hg'];rfl
   show SatR B (app σ' ((.knd b,.kd .dead)::(zd0 σ b (.que a2 k (es.drop l.toNat))++[(.tmp d,.av (.osl b (σ.gn b+1)))]))) _ _ _;rw [c7];exact zj0 c6 a6 (zdh hd a3)
  ·exact h.elim
 ·exact h.elim
theorem aClear_ok {c:Call} {t:TypeId} {ts:List TypeId} {x:Operand} (hop:o.op=.call c) (hc:c.callee=.builtin .clear) (ha:c.args.toList=[x]) (ht:c.argTypes.toList=t::ts) (hd:zco B.n o=true) (h:aClear P o σ K t x):∃ fx,K fx∧Eff P B o fx.rd σ fx.wr:=by
 have b7:c.argTypes[0]?=some t:=by rw [<- ya3,ht];rfl
 have c0:∀ a:Act,(c.args.map a.eval)[0]?=some (a.eval x):=fun a=>by rw [<- ya3,ycj,ha];rfl
 unfold aClear at h;split at h
 ·rename_i et b g k m d3 hx;have hu:=zd9 d3;split at h
  ·rename_i b2 k' es m' z d4 d9 hz;obtain ⟨b3,h'⟩:=h.ok;clear h;simp only [ya4] at b3;obtain ⟨⟨⟨⟨c1,c2⟩,c3⟩,c4⟩,c5⟩:=b3;have c1:=yav c1;have c2:=yav c2;have c4:=yav c4;subst c1 c2;have c3:=zed c3;obtain ⟨⟨hg,f6⟩,h⟩:=h'.out;have h:=h.out;refine ⟨_,h,fun σ' hag a w ⟨ρ,hs⟩ K' Q hK=>?_⟩;obtain ⟨d1,hg',d2,_⟩:=zc4 hag;have h1:=za1 hs x;rw [zao d1,hx] at h1;have a3:=d2.trans d4;by_cases hn:k=es.length
   ·-- nothing to clear
    have e0:es.take k++List.replicate (es.length-k) (z.map fun v=>nz1 (.val v))=es:=by rw [hn];simp
    obtain ⟨A,cp,hρ⟩:=zt2 hs a3
    have run:(execOp a.eval o).run P w=.ok (.value (.tuple #[])) w:=by
     generalize hv:a.eval x=v at h1;cases h1 with
     | osv _ _ _ _ _ a6 hgg hh =>
      obtain ⟨q,n,c',f1,f2,f3⟩:=hh (hg'.trans hg);rw [hρ] at f1;injection f1 with _ f1 _
      subst f1;have:es.length-k=0:=by omega
      rw [f3,this] at hv;generalize (if c'=k then some (⟨q,0,none⟩:Addr) else some ⟨q,k*k',none⟩)=AA at hv;simp only [execOp,hop,resolve,hc,invoke,builtin,Builtin.clear_,b7,c0,Sem.run_bind,Sem.run_pure,Result.andThen_ok,run_underlying hu,hv];cases AA<;>simp
    unfold Oper.wp;rw [run,Oper.upon_value];refine hK _ _ ⟨ρ,?_⟩;rw [e0]
    have b5:SatR B (upd σ' (.knd b) (.kd (.row b2 k' es))) a w ρ:=(hs.step (fun _=>False) (fun t=>zh0 σ' b t _) (fun o _=>⟨by
      rw [zfj]
      by_cases e:o=b
      ·rw [if_pos e,e,a3]
      ·rw [if_neg e],zgh σ' b o _,fun i=>zja σ' b o i _,rfl,rfl,rfl⟩) (fun _ h=>h.elim) (fun o=>by rw [zi4];exact hs.igs o) (Belo.refl _ _ _) (fun _ _ h=>h.elim) (fun _ _ _ h=>h.elim) (fun _ _ _ h=>h.elim)).1
    rw [zcl];exact b5.put (fun t e=>zka hd t e) (.im _ _ (.any _))
   ·obtain ⟨q,b6,cur,us,e1,e2,e3,e4,e5,e6,e7,e8,e9,a2,a7,a8⟩:=zqh hs a3 (by omega)
    obtain ⟨zv,d6,c7⟩:∃ zv:Value,(∀ w,(zeroValue et).run P w=.ok zv w)∧zv.cells.toList=z:=by
     unfold zeroOf at hz;split at hz
     ·rename_i i hi;cases hz0:i.zero with
      | none=>rw [hz0] at hz;cases hz
      | some zz =>
       rw [hz0] at hz;simp only [yal,zkF] at hz;exact ⟨zz,fun w=>by simp [zeroValue,typeInfo,hi,hz0],hz⟩
     ·cases hz
    have d8:zv.cells.size=k':=by rw [<- c4,<- c7];simp
    have c9:(Builtin.zeroCells zv.cells (es.length-k)).toList=(List.replicate (es.length-k) z).flatten:=by
     have:=made_take zv.cells (es.length-k) (es.length-k) (yap _) (by omega);rw [yb6 (by simp [madeCells])] at this;rw [<- c7];exact this
    have a0:((List.replicate (es.length-k) z).flatten).length=(es.length-k)*k':=by
     rw [zbv (k:=k') (fun x hx=>by rw [yby hx];exact c4),yas]
    have a5:∀ u∈(List.replicate (es.length-k) z).flatten,u.oneCell'=true:=fun u hu=>by
     obtain ⟨y,hy,hu⟩:=ydz.1 hu;rw [yby hy] at hu;exact ybf.1 c5 u hu
    have b9:k*k'+(es.length-k)*k'=es.length*k':=by rw [<- Nat.add_mul];congr 1;omega
    have d0:es.length*k'<=b6*k':=yb0 _ e3;have a9:=run_storeCells_at (P:=P) q (k*k') b2 ((List.replicate (es.length-k) z).flatten) 0 cur w e2 (by omega) a5;simp only [yca] at a9
    have run:(execOp a.eval o).run P w=.ok (.value (.tuple #[])) (w.setRow q (splice cur.toList (k*k') ((List.replicate (es.length-k) z).flatten)).toArray):=by
     generalize hv:a.eval x=v at h1;cases h1 with
     | osv _ _ _ _ _ a6 hgg hh =>
      obtain ⟨q',n',c',f1,f2,f3⟩:=hh (hg'.trans hg);rw [e1] at f1;injection f1 with f1 f4 f5
      injection f1 with f1
      injection f1 with f1
      subst f1 f4 f5;obtain ⟨p,hp⟩:∃ p,es.length-k=p+1:=⟨es.length-k-1,by omega⟩;rw [f3,if_neg (by omega)] at hv;rw [hp] at hv a9 c9 ⊢;simp only [execOp,hop,resolve,hc,invoke,builtin,Builtin.clear_,b7,c0,Sem.run_bind,Sem.run_pure,Result.andThen_ok,run_underlying hu,hv,d6,c9,a9];rfl
    unfold Oper.wp;rw [run,Oper.upon_value];refine hK _ _ ⟨ρ,?_⟩;have c8:us.length=es.length*k':=by rw [a2,zbv e8]
    have b8:(es.take k).length=k:=by rw [yaz];omega
    have b4:(es.take k++List.replicate (es.length-k) (z.map fun v=>nz1 (.val v))).flatten=es.flatten.take (k*k')++(List.replicate (es.length-k) (z.map fun v=>nz1 (.val v))).flatten:=by
     rw [ycs,znq e8]
    have d5:((List.replicate (es.length-k) (z.map fun v=>nz1 (.val v))).flatten).length=(es.length-k)*k':=by
     rw [zbv (k:=k') (fun x hx=>by rw [yby hx];simpa using c4),yas]
    have b5:=hs.turn (w':=w.setRow q (splice cur.toList (k*k') ((List.replicate (es.length-k) z).flatten)).toArray) (k':=.row b2 k' (es.take k++List.replicate (es.length-k) (z.map fun v=>nz1 (.val v)))) (znp a3) (q:=q) (by rw [e1];rfl)
     ⟨rfl,rfl,rfl,by simp,fun k _ hk=>setRow_other w q k _ (fun e=>hk (by rw [e]))⟩ (fun c hc=>by unfold Owns;rw [a3];exact hc) fun hI=>by
      refine ⟨us.take (k*k')++(List.replicate (es.length-k) z).flatten,e7,fun y hy=>?_,by rw [zkJ,b8,yas];omega,?_,?_,fun u hu=>?_,fun n u y hu hy=>?_⟩
      ·rcases yak.1 hy with hy | hy
       ·exact e8 y (ybg hy)
       ·rw [yby hy];simpa using c4
      ·have d7:(es.take k++List.replicate (es.length-k) (z.map fun v=>nz1 (.val v))).length=es.length:=by rw [zkJ,b8,yas];omega
       rw [d7];refine ⟨by rw [zkJ,yaz,a0,c8];omega,.inr ⟨q,b6,_,e1,yag _,setRow_heap w q cur _ b2 _ e2,e3,e4,?_,?_⟩⟩
       ·rw [yda,zc2 _ _ _ (by rw [a0];simp;omega)];simpa using e5
       ·rw [yd5,zjr _ _ _ _ (by rw [a0];omega) (by simp;omega),e6];unfold splice;rw [a0,b9,yde (by omega),ybq]
      ·rw [b4,zkJ,zkJ,yaz,yaz,a0,d5,a2]
      ·rcases yak.1 hu with hu | hu
       ·exact a7 u (ybg hu)
       ·exact a5 u hu
      ·rw [b4,ya0,yaz,<- a2,yci (by omega)] at hy;rw [ya0,yaz,yci (by omega)] at hu;split at hu
       ·rename_i a4;rw [if_pos a4,ybm,if_pos a4] at hy;rw [ybm,if_pos a4] at hu;exact hI _ _ (a8 n u y hu hy)
       ·rename_i a4;rw [if_neg a4,zfc] at hy;rw [zfc] at hu;split at hu
        ·rename_i c6;rw [zkK,if_pos c6,yaf,hu] at hy;simp only [yal,zkF] at hy;rw [<- hy];exact zjm (.val _)
        ·cases hu
    rw [zcl];exact b5.put (fun t e=>zka hd t e) (.im _ _ (.any _))
  ·exact h.elim
 ·exact h.elim
theorem aCopy_ok {c:Call} {t t':TypeId} {x y:Operand} (hop:o.op=.call c) (hc:c.callee=.builtin .copy) (ha:c.args.toList=[x,y]) (ht:c.argTypes.toList=[t,t']) (hd:zco B.n o=true) (h:aCopy P o σ K t x y):∃ fx,K fx∧Eff P B o fx.rd σ fx.wr:=False.elim h
end
end
section
open Go.RowKit
section
variable {P:Program} {B:Base} {o:Oper} {σ:St} {K:Fx->Prop}
theorem fpv_apart {v:Value} {inn:List Value} (h:(fpv v inn).Nodup) {i q:Nat} {u:Value} (hu:inn[i]?=some u) (hq:zbz u=some q):zbz v≠some q∧∀ j u',j≠i->inn[j]?=some u'->zbz u'≠some q:=by
 unfold fpv List.Nodup at h;rw [yfa] at h;rw [yb5] at h;obtain ⟨h1,h2⟩:=h;obtain ⟨hi,rfl⟩:=zkI.1 hu;refine ⟨fun e=>h1 _ (ya2 hi) q e q hq rfl,fun j u' hj a3 e=>?_⟩;obtain ⟨a0,rfl⟩:=zkI.1 a3;have h3:=yb1.1 h2;rcases yat j i with a2 | a4
 ·exact h3 j i a0 hi a2 q e q hq rfl
 ·exact h3 i j hi a0 (by omega) q hq q e rfl
theorem zha {a:Act} {w:World} {ρ:Ly} (hs:SatR B σ a w ρ) {b k:Nat} {e e':TypeId} {gs:List (List IV)} (hk:σ.kd b=.grid e e' k gs none) :
  ∃ us:List Value,(fpv (ρ b) (ρ.inn b)).Nodup∧(ρ.inn b).length=gs.length∧gs.length<=17592186044416∧w.ownsRow 0 e 1 (ρ b) gs.length us∧(∀ u∈us,u.oneCell'=true)∧us.length=gs.length ∧
   ∀ (i:Nat) u,(ρ.inn b)[i]?=some u->us[i]?=some u∧∃ es,gs[i]?=some [.sl es]∧zhl w (Imm B σ ρ w) u e' k es:=by
 have ho:=hs.obs b;rw [hk] at ho;obtain ⟨h0,h1,us,h2,h3,h4,h5⟩:=ho;refine ⟨us,h0,h1,h2,h3,h4,by rw [h3.1,yc2],fun i u hu=>?_⟩;rcases h5 i u hu with ⟨h6,_⟩ | h6
 ·cases h6
 ·exact h6
theorem ztv {a:Act} {w:World} {ρ:Ly} (hs:SatR B σ a w ρ) {b k:Nat} {e e':TypeId} {gs:List (List IV)} {hole:Option Nat} (hk:σ.kd b=.grid e e' k gs hole) :
  ∃ us:List Value,(fpv (ρ b) (ρ.inn b)).Nodup∧(ρ.inn b).length=gs.length∧gs.length<=17592186044416∧w.ownsRow 0 e 1 (ρ b) gs.length us∧(∀ u∈us,u.oneCell'=true)∧us.length=gs.length ∧
   ∀ (i:Nat) u,(ρ.inn b)[i]?=some u->(hole=some i∧u=undef)∨(us[i]?=some u∧∃ es,gs[i]?=some [.sl es]∧zhl w (Imm B σ ρ w) u e' k es):=by
 have ho:=hs.obs b;rw [hk] at ho;obtain ⟨h0,h1,us,h2,h3,h4,h5⟩:=ho;exact ⟨us,h0,h1,h2,h3,h4,by rw [h3.1,yc2],h5⟩
theorem inn_at {ρ:Ly} {b n i:Nat} (h:(ρ.inn b).length=n) (hi:i<n):∃ u,(ρ.inn b)[i]?=some u:=⟨_,zkM (by omega)⟩
theorem zhl.form {w:World} {S:Nat->Prop} {v:Value} {e:TypeId} {k:Nat} {es:List (List IV)} (h:zhl w S v e k es) (hn:0<es.length) :
  ∃ (q cap:Nat) (cur:Array Value) (us:List Value),v=.slice (some ⟨q,0,none⟩) es.length cap∧w.heap[q]?=some (.cells cur e (0,0))∧es.length<=cap∧cap<=maxLen∧cur.size=cap*k∧cur.toList.take (es.length*k)=us∧0<k∧(∀ x∈es,x.length=k)∧es.length<=17592186044416∧us.length=es.flatten.length ∧
   (∀ u∈us,u.oneCell'=true)∧(∀ (i:Nat) u x,us[i]?=some u->es.flatten[i]?=some x->RepI w S u x)∧w.ownsRow 0 e k v es.length us:=by
 obtain ⟨us,h1,h2,h3,h4,h5,h6,h7⟩:=h;rcases h4.2 with ⟨_,h0⟩ | ⟨q,cap,cur,e1,_,e3,e4,e5,e6,e7⟩
 ·omega
 ·exact ⟨q,cap,cur,us,e1,e3,e4,e5,e6,e7,h1,h2,h3,h5,h6,h7,h4⟩
theorem row_cell {w:World} {e:TypeId} {k n q cap:Nat} {v:Value} {us:List Value} (h:w.ownsRow 0 e k v n us) (hv:v=.slice (some ⟨q,0,none⟩) n cap) {p:Nat} {u:Value} (hu:us[p]?=some u):w.cell? ⟨q,p,none⟩=some u:=by
 have:=h.cells (g:=q) (by rw [hv];rfl) p u hu
 rwa [addr_add,yai] at this
theorem aIndexG_ok {t:TypeId} {x i:Operand} {b g:Nat} (hop:o.op=.indexAddr t x i) (hx:evA σ x=.osl b g) (hd:zco B.n o=true) (h:aIndexG P o σ K t x i b g):∃ fx,K fx∧Eff P B o fx.rd σ fx.wr:=by
 unfold aIndexG at h;split at h
 ·rename_i kk n et e e' k' gs hole hi a8 a9;have hu:=zd9 a8;split at h
  ·rename_i m hm;obtain ⟨a3,h'⟩:=h.ok;clear h;have a3:=yav a3;subst a3;obtain ⟨⟨h0,hg,b2⟩,h⟩:=h'.out;refine ⟨_,h,Eff.pure hd fun σ' hag a w ρ hs=>?_⟩;obtain ⟨a4,hg',a7,_⟩:=zc4 hag;have h1:=za1 hs x;have h2:=za1 hs i;rw [zao (zax a4),hx] at h1;rw [zao (za8 a4)] at h2;have hn:=zcf hi h2;obtain ⟨us,_,_,_,a5,_⟩:=ztv hs (a7.trans a9);obtain ⟨q,a6,a0⟩:=World.ownsRow.form a5 (by omega);generalize hv:a.eval x=v at h1;cases h1 with
   | osl _ _ _ a2 hgg hh =>
    rw [hh (hg'.trans hg),a0.1] at hv;have hz:=zgj hm w;have h3:0<=n∧n<gs.length:=⟨h0,by omega⟩;refine ⟨.pointer (some ⟨q,n.toNat*1,none⟩),?_,.elt _ b g 1 n.toNat 0 rfl hgg fun _=>⟨q,0,_,a6,a0.1,by rw [yca,yai]⟩⟩;simp only [execOp,hop,hv,hn,Instr.indexAt,asIntOf,Sem.run_bind,Sem.run_pure,Result.andThen_ok,run_underlying hu,if_pos h3,hz,addr_add,yai]
  ·exact h.elim
 ·exact h.elim
theorem zqe {σ':St} {l:List Loc} {b:Nat} (h:∀ x∈l++[.ign b,.knd b],σ' x=σ x):(∀ x∈l,σ' x=σ x)∧σ'.ig b=σ.ig b∧σ'.kd b=σ.kd b :=
 ⟨zax h,zj4 (za8 h _ (by simp)),zsg (za8 h _ (by simp))⟩
theorem aIndexS_ok {t:TypeId} {x i:Operand} {b g j:Nat} (hop:o.op=.indexAddr t x i) (hx:evA σ x=.sub b g j) (hd:zco B.n o=true) (h:aIndexS P o σ K t x i b g j):∃ fx,K fx∧Eff P B o fx.rd σ fx.wr:=by
 unfold aIndexS at h;split at h
 ·rename_i kk n et e e' k gs hi b3 b4;have hu:=zd9 b3;split at h
  ·rename_i m hm;obtain ⟨a4,h'⟩:=h.ok;clear h;have a4:=yav a4;subst a4;obtain ⟨es,⟨h0,hg,b5,b8⟩,h⟩:=h';refine ⟨_,h,Eff.pure hd fun σ' hag a w ρ hs=>?_⟩;obtain ⟨a5,hg',a9⟩:=zqe hag;have h1:=za1 hs x;have h2:=za1 hs i;rw [zao (zax a5),hx] at h1;rw [zao (za8 a5)] at h2;have hn:=zcf hi h2;obtain ⟨us,_,_,_,_,_,_,b2⟩:=zha hs (a9.trans b4);generalize hv:a.eval x=v at h1;cases h1 with
   | sub _ _ _ _ a2 hgg hh =>
    have a8:ρ.ig b=g:=by rw [hs.igs,hg',hg]
    have a3:=hh a8;obtain ⟨_,b6,a0,a6⟩:=b2 j v a3;rw [b5] at a0;injection a0 with a0
    injection a0 with a0
    injection a0 with a0
    subst a0;obtain ⟨q,a7,cur,b7,e1,_⟩:=a6.form (by omega);have hz:=zgj hm w;have h3:0<=n∧n<es.length:=⟨h0,by omega⟩;refine ⟨.pointer (some ⟨q,n.toNat*m,none⟩),?_,.elt2 _ b g j m n.toNat 0 rfl hgg fun _=>⟨q,_,a7,by rw [a3,e1],by rw [yca]⟩⟩;rw [e1] at hv;simp only [execOp,hop,hv,hn,Instr.indexAt,asIntOf,Sem.run_bind,Sem.run_pure,Result.andThen_ok,run_underlying hu,if_pos h3,hz,addr_add,yai]
  ·exact h.elim
 ·exact h.elim
theorem aLoadG_ok {t:TypeId} {p:Operand} {b g k i j:Nat} (hop:o.op=.load t p) (hp:evA σ p=.elt b g k i j) (hd:zco B.n o=true) (h:aLoadG P o σ K t p b g k i j):∃ fx,K fx∧Eff P B o fx.rd σ fx.wr:=by
 have run:∀ (a:Act) w v,(Instr.loadAt t (a.eval p)).run P w=.ok v w->(execOp a.eval o).run P w=.ok (.value v) w:=fun a w v hv=>by simp [execOp,hop,hv]
 unfold aLoadG at h;split at h
 ·rename_i e e' k' gs a6 c0;obtain ⟨a0,h'⟩:=h.ok;clear h;rw [ya4] at a0;have b5:=yav a0.1;have b4:=yav a0.2;subst b5 b4;obtain ⟨⟨hg,b7⟩,h⟩:=h'.out;refine ⟨_,h,Eff.pure hd fun σ' hag a w ρ hs=>?_⟩;have a7:∀ x∈opd p++(.gen b::.knd b::[.ign b]),σ' x=σ x:=fun x hx=>hag x (by simpa using hx);obtain ⟨b6,hg',b8,a9⟩:=zc4 a7;have b2:σ'.ig b=σ.ig b:=zj4 (a9 (.ign b) (by simp));have h1:=za1 hs p;rw [zao b6,hp] at h1;obtain ⟨us,_,b3,_,a4,a5,_,b9⟩:=zha hs (b8.trans c0);obtain ⟨u,hu⟩:=inn_at b3 b7;obtain ⟨a8,_⟩:=b9 i u hu;generalize hv:a.eval p=v at h1;cases h1 with
  | elt _ _ _ _ _ _ a2 hgg hh =>
   obtain ⟨q,z,n,c,e1,e2⟩:=hh (hg'.trans hg);obtain ⟨q',c6,a3⟩:=World.ownsRow.form a4 (by omega);rw [a3.1] at e1;injection e1 with e1 _ _
   injection e1 with e1
   injection e1 with e1 e3
   subst e1 e3;rw [e2,yc2,yca,yai] at hv;refine ⟨u,run a w u (by rw [hv];exact zlp a6 (row_cell a4 a3.1 a8)),.sub _ b _ i (a5 u (zkH a8)) ?_ fun _=>hu⟩;rw [hs.igs,b2];exact yap _
 ·exact h.elim
theorem aLoadS_ok {t:TypeId} {p:Operand} {b g i k j c:Nat} (hop:o.op=.load t p) (hp:evA σ p=.elt2 b g i k j c) (hd:zco B.n o=true) (h:aLoadS P o σ K t p b g i k j c):∃ fx,K fx∧Eff P B o fx.rd σ fx.wr:=by
 have run:∀ (a:Act) w v,(Instr.loadAt t (a.eval p)).run P w=.ok v w->(execOp a.eval o).run P w=.ok (.value v) w:=fun a w v hv=>by simp [execOp,hop,hv]
 unfold aLoadS at h;split at h
 ·rename_i e e' k' gs a4 c6;obtain ⟨a3,h'⟩:=h.ok;clear h;have b3:=yav a3;subst b3;obtain ⟨es,el,x,⟨hg,c7,he,hx⟩,h⟩:=h';refine ⟨_,h,Eff.pure hd fun σ' hag a w ρ hs=>?_⟩;obtain ⟨b4,hg',b5⟩:=zqe hag;have h1:=za1 hs p;rw [zao b4,hp] at h1;obtain ⟨us,_,_,_,_,_,_,b6⟩:=zha hs (b5.trans c6);generalize hv:a.eval p=v at h1;cases h1 with
  | elt2 _ _ _ _ _ _ _ a2 hgg hh =>
   have b9:ρ.ig b=g:=by rw [hs.igs,hg',hg]
   obtain ⟨q,n,cp,a8,e2⟩:=hh b9;obtain ⟨_,d0,a0,a5⟩:=b6 i _ a8;rw [c7] at a0;injection a0 with a0
   injection a0 with a0
   injection a0 with a0
   subst a0;have d1:=(zkI.1 he).1;obtain ⟨q',c8,cur,b7,e1,_,_,_,_,_,d2,a6,_,a9,c9,b8,a7⟩:=a5.form (by omega);have c0:=e1;injection e1 with e1 _ _
   injection e1 with e1
   injection e1 with e1
   subst e1;have b2:c<k':=by rw [<- a6 el (zkH he)];exact (zkI.1 hx).1
   have hf:=flat_get a6 he b2;rw [hx] at hf;obtain ⟨u,hu⟩:∃ u,b7[j*k'+c]?=some u:=⟨_,zkM (by rw [a9];exact (zkI.1 hf).1)⟩;exact ⟨u,run a w u (by rw [hv,e2];exact zlp a4 (row_cell a7 c0 hu)),.im _ _ (b8 _ u x hu hf)⟩
 ·exact h.elim
theorem aLenG_ok {c:Call} {t:TypeId} {ts:List TypeId} {x:Operand} {b g:Nat} (hop:o.op=.call c) (hc:c.callee=.builtin .len) (ha:c.args.toList=[x]) (ht:c.argTypes.toList=t::ts) {e:TypeId} (he:zg7 P t=some e) (hx:evA σ x=.osl b g) (hd:zco B.n o=true) (h:aLenG o σ K x b g):∃ fx,K fx∧Eff P B o fx.rd σ fx.wr:=by
 have a4:c.argTypes[0]?=some t:=by rw [<- ya3,ht];rfl
 have a6:∀ a:Act,(c.args.map a.eval)[0]?=some (a.eval x):=fun a=>by rw [<- ya3,ycj,ha];rfl
 have hu:=zd9 he
 have run:∀ (a:Act) w A n cp,a.eval x=.slice A n cp->(execOp a.eval o).run P w=.ok (.value (.int .i64 n)) w:=fun a w A n cp hv=>by
  simp only [execOp,hop,resolve,hc,invoke,builtin,Builtin.len_,a4,a6,Sem.run_bind,Sem.run_pure,Result.andThen_ok,run_underlying hu,hv,goInt]
 unfold aLenG at h;split at h
 ·rename_i e1 e2 k gs a7;obtain ⟨hg,h⟩:=h.out;have h:=h.out;refine ⟨_,h,Eff.pure hd fun σ' hag a w ρ hs=>?_⟩;obtain ⟨a3,hg',a5,_⟩:=zc4 hag;have h1:=za1 hs x;rw [zao a3,hx] at h1;obtain ⟨us,_,_,_,a0,_⟩:=zha hs (a5.trans a7)
  obtain ⟨A,cp,hρ⟩:∃ A c,ρ b=.slice A gs.length c:=by
   rcases a0.2 with ⟨e,h0⟩ | ⟨g,a8,cur,e,_⟩
   ·exact ⟨none,0,by rw [e,h0]⟩
   ·exact ⟨_,a8,e⟩
  generalize hv:a.eval x=v at h1;cases h1 with
  | osl _ _ _ a2 hgg hh =>
   rw [hh (hg'.trans hg),hρ] at hv;exact ⟨_,run a w _ _ _ hv,zcx _⟩
 ·exact h.elim
theorem aLenS_ok {c:Call} {t:TypeId} {ts:List TypeId} {x:Operand} {b g i:Nat} (hop:o.op=.call c) (hc:c.callee=.builtin .len) (ha:c.args.toList=[x]) (ht:c.argTypes.toList=t::ts) {e:TypeId} (he:zg7 P t=some e) (hx:evA σ x=.sub b g i) (hd:zco B.n o=true) (h:aLenS o σ K x b g i):∃ fx,K fx∧Eff P B o fx.rd σ fx.wr:=by
 have b3:c.argTypes[0]?=some t:=by rw [<- ya3,ht];rfl
 have a7:∀ a:Act,(c.args.map a.eval)[0]?=some (a.eval x):=fun a=>by rw [<- ya3,ycj,ha];rfl
 have hu:=zd9 he
 have run:∀ (a:Act) w A n cp,a.eval x=.slice A n cp->(execOp a.eval o).run P w=.ok (.value (.int .i64 n)) w:=fun a w A n cp hv=>by
  simp only [execOp,hop,resolve,hc,invoke,builtin,Builtin.len_,b3,a7,Sem.run_bind,Sem.run_pure,Result.andThen_ok,run_underlying hu,hv,goInt]
 unfold aLenS at h;split at h
 ·rename_i e1 e2 k gs b4;obtain ⟨es,⟨hg,b5⟩,h⟩:=h;have h:=h.out;refine ⟨_,h,Eff.pure hd fun σ' hag a w ρ hs=>?_⟩;obtain ⟨a5,hg',a6⟩:=zqe hag;have h1:=za1 hs x;rw [zao a5,hx] at h1;obtain ⟨us,_,_,_,_,_,_,a8⟩:=zha hs (a6.trans b4);generalize hv:a.eval x=v at h1;cases h1 with
  | sub _ _ _ _ a2 hgg hh =>
   have b2:ρ.ig b=g:=by rw [hs.igs,hg',hg]
   obtain ⟨_,b6,a0,a3⟩:=a8 i v (hh b2);rw [b5] at a0;injection a0 with a0
   injection a0 with a0
   injection a0 with a0
   subst a0;obtain ⟨b7,_,_,_,a4,_⟩:=a3
   obtain ⟨A,cp,hρ⟩:∃ A c,v=.slice A es.length c:=by
    rcases a4.2 with ⟨e,h0⟩ | ⟨g,a9,cur,e,_⟩
    ·exact ⟨none,0,by rw [e,h0]⟩
    ·exact ⟨_,a9,e⟩
   rw [hρ] at hv;exact ⟨_,run a w _ _ _ hv,zcx _⟩
 ·exact h.elim
theorem SatR.turnA {a:Act} {w w':World} {ρ:Ly} (h:SatR B σ a w ρ) {b q:Nat} {k':Kd} (hq:Owns σ ρ b q) (hg:w.grownBy w' (some q)) (hk':∀ c,c∈fpk (ρ b) (ρ.inn b) k'->Owns σ ρ b c)
  (hob:(∀ v x,RepI w (Imm B σ ρ w) v x->RepI w' (Imm B (upd σ (.knd b) (.kd k')) ρ w') v x)->zkl B (upd σ (.knd b) (.kd k')) ρ w' b k'):SatR B (upd σ (.knd b) (.kd k')) a w' ρ:=by
 refine (h.step (fun o=>o=b) (fun t=>zh0 σ b t _) (fun o hd=>⟨by rw [zfj,if_neg hd],zgh σ b o _,fun i=>zja σ b o i _,rfl,rfl,rfl⟩) (fun o _=>⟨⟨by rw [zgh];exact yap _,fun _=>rfl⟩,yap _,fun _=>rfl⟩)
  (fun o=>by rw [zi4];exact h.igs o) ⟨hg.os,hg.tape,hg.output,hg.size,fun c hc hn=>hg.block c hc fun e=>?_⟩ (fun o c hd ho=>?_) (fun o p c hd hp _ _=>hd.trans hp.symm) fun hI hA o hd=>?_).1
 ·injection e with e
  subst e;exact hn ⟨b,rfl,hq⟩
 ·subst hd;unfold Owns at ho;rw [zfj,if_pos rfl] at ho;exact .inr ⟨o,rfl,hk' c ho⟩
 ·subst hd;rw [zfj,if_pos rfl];exact hob hI
theorem aStoreS_ok {t:TypeId} {p x:Operand} {b g i k j c:Nat} (hop:o.op=.store t p x) (hp:evA σ p=.elt2 b g i k j c) (hd:zco B.n o=true) (h:aStoreS P o σ K t p x b g i k j c):∃ fx,K fx∧Eff P B o fx.rd σ fx.wr:=by
 unfold aStoreS at h;split at h
 ·rename_i m cs e e' k' gs hm c8 c6;split at h
  ·rename_i xs g9;obtain ⟨a9,h'⟩:=h.ok;clear h;simp only [ya4] at a9;obtain ⟨⟨⟨c1,c2⟩,c3⟩,c4⟩:=a9;have e4:cs.length=m:=by simpa using c1
   have i3:=zed c2;have i0:=zfx c3;have f4:k'=k:=by simpa using c4
   subst f4;obtain ⟨es,el,⟨hg,h0,a6⟩,h⟩:=h';have h:=h.out;refine ⟨_,h,fun σ' hag a w ⟨ρ,hs⟩ K' Q hK=>?_⟩;obtain ⟨d5,hg',b6⟩:=zqe hag;have h1:=za1 hs p;have h2:=za1 hs x;rw [zao (zax d5),hp] at h1;rw [zao (za8 d5)] at h2;have hr:=zgz c8 h2;have a8:=zgv c8 h2;have d2:=ztk hs (bs':=[]) (by simp) hr (zlz g9 fun l hl=>by simp [frd] at hl) (by simp);obtain ⟨us,d3,d1,b7,d0,b4,h7,e0⟩:=zha hs (b6.trans c6);have f5:ρ.ig b=g:=by rw [hs.igs,hg',hg]
   obtain ⟨q,cap,u0,a0,g8,a7⟩:∃ q cap u0,(ρ.inn b)[i]?=some u0∧a.eval p=.pointer (some ⟨q,j*k'+c,none⟩)∧∃ n,u0=.slice (some ⟨q,0,none⟩) n cap:=by
    generalize a.eval p=v at h1;cases h1 with
    | elt2 _ _ _ _ _ _ _ a2 hgg hh =>
     obtain ⟨q,n,cp,a0,e2⟩:=hh f5;exact ⟨q,cp,_,a0,e2,n,rfl⟩
   obtain ⟨h8,h9,a3,e5⟩:=e0 i u0 a0;rw [h0] at a3;injection a3 with a3
   injection a3 with a3
   injection a3 with a3
   subst a3;have g6:=(zkI.1 a6).1;obtain ⟨q',b3,cur,c9,e1,e3,d4,d7,e6,e8,h6,a4,d6,b5,e7,g7,f8⟩:=e5.form (by omega);obtain ⟨n,a7⟩:=a7
   have e9:q'=q:=by
    rw [a7] at e1;injection e1 with e1 _ _
    injection e1 with e1
    injection e1 with e1
    exact e1.symm
   subst e9;have c0:(a.eval x).cells.toList.length=m:=by rw [hr.1,e4]
   have g5:xs.length=m:=by rw [<- d2.1,c0]
   have c7:(j+1)*k'<=es.length*k':=yb0 _ g6;have f3:es.length*k'<=b3*k':=yb0 _ d4;rw [Nat.add_mul,yd3] at c7;have a5:=run_storeCells_at (P:=P) q' (j*k'+c) e' (a.eval x).cells.toList 0 cur w e3 (by omega) a8;simp only [yca] at a5;have hz:=zgj hm w;have g4:(a.eval x).cells.size=m:=by rw [<- c0];simp
   have run:(execOp a.eval o).run P w=.ok .skip (w.setRow q' (splice cur.toList (j*k'+c) (a.eval x).cells.toList).toArray):=by
    simp only [execOp,hop,Instr.storeAt,g8,Instr.sureAddr,storeVar,Sem.run_bind,Sem.run_pure,Result.andThen_ok,hz,g4];rw [if_neg (by simp),a5];rfl
   unfold Oper.wp;rw [run,Oper.upon_skip];refine hK _ _ ⟨ρ,?_⟩;have b9:c9.length=es.length*k':=by rw [b5,zbv a4]
   have d8:el.length=k':=a4 el (zkH a6);have b2:zbz u0=some q':=by rw [a7];rfl
   obtain ⟨h5,f7⟩:=fpv_apart d3 a0 b2;have d9:∀ r,r≠q'->(w.setRow q' (splice cur.toList (j*k'+c) (a.eval x).cells.toList).toArray).heap[r]?=w.heap[r]?:=fun r hr=>setRow_other w q' r _ hr
   have f9:=hs.turnA (w':=w.setRow q' (splice cur.toList (j*k'+c) (a.eval x).cells.toList).toArray) (b:=b) (q:=q') (k':=.grid e e' k' (gs.set i [.sl (es.set j (splice el c xs))]) none)
    (by unfold Owns;rw [b6.trans c6];exact fpk_inn a0 b2)
    ⟨rfl,rfl,rfl,by simp,fun k _ hk=>setRow_other w q' k _ (fun e=>hk (by rw [e]))⟩ (fun r hr=>by unfold Owns;rw [b6.trans c6];exact hr) fun hI=>by
     refine ⟨d3,by rw [ybo];exact d1,us,by rw [ybo];exact b7,?_,b4,fun i' u hu=>.inr ?_⟩
     ·rw [ybo];exact zg3 d0 fun r hr=>d9 r fun e=>h5 (by rw [<- e];exact hr)
     ·obtain ⟨g1,f6,g2,g3⟩:=e0 i' u hu;refine ⟨g1,?_⟩;by_cases b8:i'=i
      ·subst b8;rw [a0] at hu;injection hu with hu
       subst hu;refine ⟨es.set j (splice el c xs),by rw [ya7 (by rw [<- d1];exact (zkI.1 a0).1)],splice c9 (j*k'+c) (a.eval x).cells.toList,h6,fun y hy=>?_,by rw [ybo];exact d6,?_,?_,fun u hu=>?_,fun n u y hu hy=>?_⟩
       ·rcases yct hy with hy | hy
        ·exact a4 y hy
        ·rw [hy,zc2 _ _ _ (by omega),d8]
       ·rw [ybo];refine ⟨by rw [zc2 _ _ _ (by omega),b9],.inr ⟨q',b3,_,e1,yag _,setRow_heap w q' cur _ e' _ e3,d4,d7,?_,?_⟩⟩
        ·rw [yda,zc2 _ _ _ (by simp;omega)];simpa using e6
        ·rw [yd5,zjr _ _ _ _ (by omega) (by simp;omega),e8]
       ·rw [zn5 a4 a6 (by omega),zc2 _ _ _ (by omega),zc2 _ _ _ (by omega),b5]
       ·unfold splice at hu;rcases yak.1 hu with hu | hu
        ·rcases yak.1 hu with hu | hu
         ·exact e7 u (ybg hu)
         ·exact a8 u hu
        ·exact e7 u (ybn hu)
       ·rw [zn5 a4 a6 (by omega)] at hy;rcases zrl b5 (by rw [c0,g5]) (by omega) hu hy with ⟨n',h3,h4⟩ | ⟨n',h3,h4⟩
        ·exact hI _ _ (g7 n' u y h3 h4)
        ·exact hI _ _ (d2.2 n' u y h3 h4)
      ·exact ⟨f6,by rw [ybb (fun e=>b8 e.symm)];exact g2,g3.mono (fun r hr=>d9 r fun e=>f7 i' u b8 hu (by rw [<- e];exact hr)) hI⟩
   rw [zcl];exact f9.put (zka hd) (zcx _)
  ·exact h.elim
 ·exact h.elim
theorem fpv_set {v x:Value} {inn:List Value} {i:Nat} (h:(fpv v inn).Nodup) (hx:∀ q,zbz x=some q->q∉fpv v inn):(fpv v (inn.set i x)).Nodup:=by
 have hm:∀ u q,u=v∨u∈inn->zbz u=some q->q∈fpv v inn:=fun u q hu hq=>ycl.2 ⟨u,by rcases hu with rfl | hu<;>simp [*],hq⟩
 unfold fpv List.Nodup at h ⊢;rw [yfa,yb5] at h ⊢;obtain ⟨h1,h2⟩:=h;refine ⟨fun a' a3 c hc c' a0 e=>?_,?_⟩
 ·rcases yct a3 with h3 | h3
  ·exact h1 a' h3 c hc c' a0 e
  ·subst h3 e;exact hx c a0 (hm v c (.inl rfl) hc)
 ·rw [yb1] at h2 ⊢;intro j k hj hk a2 c hc c' a0 e;rw [ybo] at hj hk;rw [List.getElem_set] at hc a0;subst e;split at hc
  ·split at a0
   ·omega
   ·exact hx c hc (hm _ c (.inr (ya2 hk)) a0)
  ·split at a0
   ·exact hx c a0 (hm _ c (.inr (ya2 hj)) hc)
   ·exact h2 j k hj hk a2 c hc c a0 rfl
theorem splice_one {α:Type} {l:List α} {i:Nat} (h:i<l.length) (v:α):splice l i [v]=l.set i v:=by
 rw [List.set_eq_take_append_cons_drop,if_pos h];unfold splice;simp
theorem aStoreG_ok {t:TypeId} {p x:Operand} {b g k i j:Nat} (hop:o.op=.store t p x) (hp:evA σ p=.elt b g k i j) (hd:zco B.n o=true) (h:aStoreG P o σ K t p x b g k i j):∃ fx,K fx∧Eff P B o fx.rd σ fx.wr:=by
 unfold aStoreG at h;split at h
 ·rename_i m r gr e e' k' gs hole hm hx a7;split at h
  ·rename_i e2 k2 es e0;obtain ⟨a8,h'⟩:=h.ok;clear h;simp only [ya4] at a8;obtain ⟨⟨⟨⟨⟨c1,c2⟩,c3⟩,c4⟩,c5⟩,c6⟩:=a8;have c1:=yav c1;have c2:=yav c2;have c3:=yav c3;have c4:=yav c4;have c5:=yav c5;have a4:r≠b:=fun e=>by rw [e] at c6;simp at c6
   subst c1 c2 c3 c4 c5;obtain ⟨⟨hg,g7,h0,d8⟩,h⟩:=h'.out;have h:=h.out;refine ⟨_,h,fun σ' hag a w ⟨ρ,hs⟩ K' Q hK=>?_⟩;have d3:∀ x_1∈(opd p++opd x)++(.gen b::.knd b::[.ign b,.gen r,.knd r]),σ' x_1=σ x_1:=fun y hy=>hag y (by simpa using hy);obtain ⟨c9,hg',a6,c0⟩:=zc4 d3;have f8:σ'.ig b=σ.ig b:=zj4 (c0 (.ign b) (by simp));have d2:σ'.gn r=σ.gn r:=zdv (c0 (.gen r) (by simp));have a9:σ'.kd r=σ.kd r:=zsg (c0 (.knd r) (by simp));have h1:=za1 hs p;have h2:=za1 hs x;rw [zao (zax c9),hp] at h1;rw [zao (za8 c9),hx] at h2;obtain ⟨us,d4,e5,b6,c8,b4,d6,g5⟩:=ztv hs (a6.trans a7);have b3:=hs.obs r;rw [a9.trans e0] at b3;have d7:zhl w (Imm B σ' ρ w) (ρ r) e2 k2 es:=b3;obtain ⟨g9,_,_,_,r4,_⟩:=b3;have a2:(ρ r).oneCell'=true:=row_one r4;have g6:(ρ r).cells=#[ρ r]:=by revert a2;cases ρ r<;>simp [Value.oneCell',Value.cells]
   rcases c8.2 with ⟨_,hn⟩ | ⟨q,e4,cur,e1,_,e3,g4,d5,b2,d1⟩
   ·omega
   have f5:a.eval p=.pointer (some ⟨q,i,none⟩):=by
    generalize a.eval p=v at h1;cases h1 with
    | elt _ _ _ _ _ _ _ _ hh =>
     obtain ⟨b',z,n,c,f1,f2⟩:=hh (hg'.trans hg);rw [e1] at f1;injection f1 with f1
     injection f1 with f1
     injection f1 with f1 f3
     rw [f2,f1,<- f3,yc2,yca,yai]
   have e8:a.eval x=ρ r:=by
    generalize a.eval x=v at h2;cases h2 with
    | osl _ _ _ _ _ hh=>exact hh (d2.trans g7)
   rw [yc2] at b2 d1;have a3:=run_storeCells_at (P:=P) q i e [ρ r] 0 cur w e3 (by simp;omega) (by simpa using a2);simp only [yca] at a3;have hz:=zgj hm w
   have run:(execOp a.eval o).run P w=.ok .skip (w.setRow q (splice cur.toList i [ρ r]).toArray):=by
    simp only [execOp,hop,Instr.storeAt,f5,e8,Instr.sureAddr,storeVar,Sem.run_bind,Sem.run_pure,Result.andThen_ok,hz,g6];rw [if_neg (by simp),a3];rfl
   unfold Oper.wp;rw [run,Oper.upon_skip]
   let ρ2:Ly:=⟨ρ.root,fun o=>if o=b then (ρ.inn b).set i (ρ r) else ρ.inn o,fun o=>if o=b then ρ.ig b+1 else ρ.ig o⟩
   let τ:St:=app σ' [(.knd r,.kd .dead),(.ign b,.n (σ.ig b+1)),(.knd b,.kd (.grid e e2 k2 (gs.set i [.sl es]) none))]
   have a0:∀ o,τ.kd o=if o=b then .grid e e2 k2 (gs.set i [.sl es]) none else if o=r then .dead else σ'.kd o:=fun o=>by
    show (app σ' _).kd o=_;simp only [zcl,zhz];rw [zfj,kd_ign,zfj]
   have d0:∀ o,τ.gn o=σ'.gn o:=fun o=>by
    show (app σ' _).gn o=_;simp only [zcl,zhz];rw [zgh,gn_ign,zgh]
   have f9:∀ o,τ.ig o=if o=b then σ.ig b+1 else σ'.ig o:=fun o=>by
    show (app σ' _).ig o=_;simp only [zcl,zhz];rw [zi4,ig_ign,zi4]
   have g8:∀ t,τ.av t=σ'.av t:=fun t=>by
    show (app σ' _).av t=_;simp only [zcl,zhz];rw [zh0,av_ign,zh0]
   have f7:∀ o i,τ.ce o i=σ'.ce o i:=fun o i=>by
    show (app σ' _).ce o i=_;simp only [zcl,zhz];rw [zja,ce_ign,zja]
   have b9:Owns σ' ρ b q:=.root (by unfold live;rw [a6.trans a7];exact fun z=>by cases z) (by rw [e1];rfl);have b7:live σ' r:=znp (a9.trans e0);have e6:∀ c,zbz (ρ r)=some c->c≠q:=fun c hc e=>a4 (hs.dis r b c (.root b7 hc) (e ▸ b9));have b5:∀ c,c≠q->(w.setRow q (splice cur.toList i [ρ r]).toArray).heap[c]?=w.heap[c]?:=fun c hc=>setRow_other w q c _ hc;have d9:∀ (j:Nat) u,(ρ.inn b)[j]?=some u->∀ c,zbz u=some c->c≠q:=fun j u hu c hc e=>(fpv_apart d4 hu hc).1 (by rw [e1,e];rfl)
   obtain ⟨f4,_⟩:=hs.step (σ':=τ) (ρ':=ρ2) (w':=w.setRow q (splice cur.toList i [ρ r]).toArray) (fun o=>o=b∨o=r) g8
    (fun o ho=>⟨by rw [a0,if_neg (fun e=>ho (.inl e)),if_neg (fun e=>ho (.inr e))],d0 o,f7 o,rfl,by simp only [ρ2];rw [if_neg (fun e=>ho (.inl e))],by simp only [ρ2];rw [if_neg (fun e=>ho (.inl e))]⟩)
    (fun o ho=>by
     refine ⟨⟨by rw [d0];exact yap _,fun _=>rfl⟩,?_,fun e=>?_⟩
     ·show ρ.ig o<=(if o=b then ρ.ig b+1 else ρ.ig o)
      split
      ·rename_i e;rw [e];omega
      ·exact yap _
     ·have e:(if o=b then ρ.ig b+1 else ρ.ig o)=ρ.ig o:=e
      show (if o=b then (ρ.inn b).set i (ρ r) else ρ.inn o)=_
      split at e
      ·rename_i e2;rw [e2] at e;omega
      ·rename_i e2;rw [if_neg e2])
    (fun o=>by
     show (if o=b then ρ.ig b+1 else ρ.ig o)=_
     rw [f9]
     split
     ·rw [hs.igs,f8]
     ·exact hs.igs o)
    ⟨rfl,rfl,rfl,by simp,fun c hc hn=>b5 c fun e=>hn ⟨b,.inl rfl,e ▸ b9⟩⟩
    (fun o c ho hc=>by
     rcases ho with rfl | rfl
     ·unfold Owns at hc
      rw [a0,if_pos rfl] at hc
      have hc:c∈fpv (ρ o) (if o=o then (ρ.inn o).set i (ρ r) else ρ.inn o):=hc
      rw [if_pos rfl] at hc
      obtain ⟨u,hu,b8⟩:=ycl.1 hc
      rcases yba.1 hu with rfl | hu
      ·exact .inr ⟨o,.inl rfl,.root b9.lv b8⟩
      ·rcases yct hu with hu | rfl
       ·obtain ⟨n,hn⟩:=ycy hu
        exact .inr ⟨o,.inl rfl,by unfold Owns;rw [a6.trans a7];exact fpk_inn hn b8⟩
       ·exact .inr ⟨r,.inr rfl,.root b7 b8⟩
     ·exact absurd (by rw [a0,if_neg a4,if_pos rfl]) hc.lv)
    (fun o p c ho hp f6 e9=>by
     rcases ho with rfl | rfl
     ·rcases hp with rfl | rfl
      ·rfl
      ·exact absurd (by rw [a0,if_neg a4,if_pos rfl]) e9.lv
     ·exact absurd (by rw [a0,if_neg a4,if_pos rfl]) f6.lv)
    fun hI _ o ho=>by
     by_cases c7:o=b
     ·subst c7;rw [a0,if_pos rfl];show zi2 _ _ (ρ o) (if o=o then (ρ.inn o).set i (ρ r) else ρ.inn o) _ _ _ _ _;rw [if_pos rfl];refine ⟨fpv_set d4 fun c hc hm=>?_,by rw [ybo,ybo];exact e5,us.set i (ρ r),by rw [ybo];exact b6,?_,fun u hu=>?_,fun i' u hu=>.inr ?_⟩
      ·exact a4 (hs.dis r o c (.root b7 hc) (by unfold Owns;rw [a6.trans a7];exact hm))
      ·rw [ybo];refine ⟨by rw [ybo,d6,yc2],.inr ⟨q,e4,_,e1,yag _,setRow_heap w q cur _ e _ e3,g4,d5,?_,?_⟩⟩
       ·rw [yda,zc2 _ _ _ (by simp;omega),yc2];simpa using b2
       ·rw [yd5,yc2,zjr _ _ _ _ (by simp;omega) (by simp;omega),d1,splice_one (by omega)]
      ·rcases yct hu with hu | rfl
       ·exact b4 u hu
       ·exact a2
      ·by_cases a5:i'=i
       ·subst a5;rw [ya7 (by omega)] at hu;injection hu with hu
        subst hu;exact ⟨ya7 (by omega),es,ya7 (by omega),d7.mono (fun c hc=>b5 c (e6 c hc)) hI⟩
       ·rw [ybb (fun e=>a5 e.symm)] at hu
        obtain ⟨g1,e7,g2,g3⟩:=(g5 i' u hu).resolve_left fun hh=>by
         rw [hh.1] at d8;exact a5 d8
        exact ⟨by rw [ybb (fun e=>a5 e.symm)];exact g1,e7,by rw [ybb (fun e=>a5 e.symm)];exact g2,g3.mono (fun c hc=>b5 c (d9 i' u hu c hc)) hI⟩
     ·rw [a0,if_neg c7,if_pos (ho.resolve_left c7)];trivial
   refine hK _ _ ⟨ρ2,?_⟩;show SatR B (app σ' ([(.knd r,.kd .dead),(.ign b,.n (σ.ig b+1)),(.knd b,.kd (.grid e e2 k2 (gs.set i [.sl es]) none))]++wrT o.dst (.im (.val undef)))) _ _ _;rw [za2];exact f4.put (zka hd) (zcx _)
  ·exact h.elim
 ·exact h.elim
theorem aAppendS_ok {c:Call} {t:TypeId} {x y:Operand} {b g i:Nat} (hop:o.op=.call c) (hc:c.callee=.builtin .append) (hargs:c.args=#[x,y]) (hts:c.argTypes=#[t,t]) (hx:evA σ x=.sub b g i) (hd:zco B.n o=true) (h:aAppendS P o σ K t x y b g i):∃ fx,K fx∧Eff P B o fx.rd σ fx.wr:=False.elim h
theorem aMoves_ok {own:List Nat} {x:Operand} (hop:o.op=.move x∨o.op=.assign x) (hd:zco B.n o=true) (h:aMoves own o σ K x):∃ fx,K fx∧Eff P B o fx.rd σ fx.wr:=by
 have a2:=aMove_ok (P:=P) (B:=B) (σ:=σ) hop hd;unfold aMoves at h;split at h
 ·rename_i d a0;split at h
  ·split at h
   ·rename_i y bs a7;obtain ⟨a4,h⟩:=h.out;refine ⟨_,h,fun σ' hag a w ⟨ρ,hs⟩ K' Q hK=>?_⟩;have a3:zdm σ σ' bs:=za8 hag
    have a5:∀ p∈bs,σ'.gn p.1=p.2:=fun p hp=>by
     rw [<- a4 p hp];exact zdv (a3 (.gen p.1) (by unfold frd;exact yck.2 ⟨p,hp,by simp⟩))
    have h1:=za1 hs x;have hf:=fz_ok hs (bs':=bs) a5 h1 (by rw [zao (zax hag)];exact zm7 a7 a3) fun _ h=>h;obtain ⟨a6,_⟩:=hs.kills bs;have run:(execOp a.eval o).run P w=.ok (.value (a.eval x)) w:=by rcases hop with e | e<;>simp [execOp,e]
    unfold Oper.wp;rw [run,Oper.upon_value,a0];refine hK _ _ ⟨ρ,?_⟩;show SatR B (app σ' (fwr bs++[(.tmp d,.av (.im y))])) _ _ _;rw [za2];exact a6.put (d:=some d) (fun t e=>by injection e with e;subst e;exact zdh hd a0) (.im _ _ hf)
   ·exact h.elim
  ·exact ⟨_,h,by rw [a0] at a2;exact a2⟩
 ·rename_i a0;exact ⟨_,h,by rw [a0] at a2;exact a2⟩
theorem zpf {a:Act} {w:World} {ρ:Ly} {S:Nat->Prop} {γ:Nat->Nat} {d:Nat} {us vs:List Value}:∀ (fs:List Field) (i:Nat) (xs ys:List AV) (r:Bool),fs.length=xs.length->intFs P i fs=true->eqCs xs ys=some r ->
  (∀ (j:Nat) x,xs[j]?=some x->∃ u,us[i+j]?=some u∧RepA w S ρ γ u x)->(∀ (j:Nat) x,ys[j]?=some x->∃ u,vs[i+j]?=some u∧RepA w S ρ γ u x)->(Op.eqFields (d+1) us.toArray vs.toArray fs).run P w=.ok r w
 | [],i,xs,ys,r,hl,_,he,_,_=>by
  have hx:xs=[]:=yau hl.symm;subst hx;cases ys with
  | nil =>
   simp only [eqCs,zkF] at he;subst he;simp [Op.eqFields]
  | cons y ys=>simp [eqCs] at he
 | f::fs,i,[],ys,r,hl,_,_,_,_=>by simp at hl
 | f::fs,i,x::xs,[],r,_,_,he,_,_=>by simp [eqCs] at he
 | f::fs,i,x::xs,y::ys,r,hl,hF,he,hx,hy=>by
  simp only [eqCs] at he;split at he
  ·rename_i k n k' m r' ex ey er;split at he
   ·rename_i hk;have hk:=of_decide_eq_true hk;subst hk;injection he with he
    subst he;simp only [intFs,intF,ya4,decide_eq_true_eq] at hF;obtain ⟨⟨⟨hname,hoff⟩,hty⟩,hF⟩:=hF;have hoff:=yav hoff
    obtain ⟨k0,hu⟩:∃ k0,P.underlying f.type=some (.int k0):=by
     split at hty
     ·exact ⟨_,by assumption⟩
     ·cases hty
    have hp:P.plainKey f.type=true:=by unfold Program.plainKey;rw [hu]
    obtain ⟨u,a0,a4⟩:=hx 0 x rfl;obtain ⟨v,a2,a3⟩:=hy 0 y rfl;rw [yca] at a0 a2;have e1:=zcf ex a4;have e2:=zcf ey a3;subst e1 e2;have p1:=run_part_plain (P:=P) w hp (xs:=us.toArray) (off:=f.offset) (v:=.int k n) (by rw [hoff];simpa using a0);have p2:=run_part_plain (P:=P) w hp (xs:=vs.toArray) (off:=f.offset) (v:=.int k m) (by rw [hoff];simpa using a2);have p3:=run_equalIn_int (P:=P) w d f.type k k0 n m hu
    have ih:=zpf (a:=a) (d:=d) fs (i+1) xs ys r' (by simpa using hl) hF er (fun j z hz=>by
     have:=hx (j+1) z (by simpa using hz)
     rwa [show i+(j+1)=i+1+j by omega] at this) (fun j z hz=>by
     have:=hy (j+1) z (by simpa using hz)
     rwa [show i+(j+1)=i+1+j by omega] at this)
    simp only [Op.eqFields,if_pos hname,Sem.run_bind,p1,p2,p3,Result.andThen_ok];by_cases h:n=m
    ·subst h;simp [ih]
    ·have:(n==m)=false:=by simpa using h
     simp [this,h]
   ·cases he
  ·cases he
theorem aBinS_ok {op:BinOp} {t z:TypeId} {x y:Operand} (hop:o.op=.binOp op t x y z) (hd:zco B.n o=true) (h:aBinS P o σ K op t x y):∃ fx,K fx∧Eff P B o fx.rd σ fx.wr:=by
 unfold aBinS at h;split at h
 ·rename_i xs ys hx hy;split at h
  ·rename_i r hr;obtain ⟨hT,h⟩:=h.out
   obtain ⟨fs,hu,a5,hF,a6,a4⟩:∃ fs,P.underlying t=some (.struct fs)∧fs.toList.length=xs.length∧intFs P 0 fs.toList=true∧P.stoodInHeld t=false∧P.eqGuardType P.depth t=false:=by
    unfold eqT at hT;split at hT
    ·rename_i fs hu;simp only [ya4,ydu] at hT;exact ⟨fs,hu,yav hT.1.1.1,hT.1.1.2,hT.1.2,hT.2⟩
    ·cases hT
   have a3:P.fieldsOf t=fs:=by unfold Program.fieldsOf;rw [hu]
   have a2:∀ σ' (a:Act) w ρ,SatR B σ' a w ρ->(∀ l∈opd x++opd y,σ' l=σ l)->∃ us vs:List Value,a.eval x=.agg us.toArray∧a.eval y=.agg vs.toArray∧(Op.equalIn 10000 t (.agg us.toArray) (.agg vs.toArray)).run P w=.ok r w:=fun σ' a w ρ hs hag=>by
    have g1:=za1 hs x;have g2:=za1 hs y;rw [zao (zax hag)] at g1;rw [zao (za8 hag)] at g2;obtain ⟨us,e1,r1,_⟩:=zlh hx g1;obtain ⟨vs,e2,r2,_⟩:=zlh hy g2;refine ⟨us,vs,e1,e2,?_⟩;rw [run_equalIn_agg w 9999 t _ _ (by rw [a3];exact hu) a6,a3]
    have get:∀ {us:List Value} {xs:List AV},Reps w (Imm B σ' ρ w) ρ σ'.gn us xs->∀ (j:Nat) x,xs[j]?=some x->∃ u,us[0+j]?=some u∧RepA w (Imm B σ' ρ w) ρ σ'.gn u x:=fun {us xs} hr j x hx=>by
     have hj:=(zkI.1 hx).1;rw [<- hr.1] at hj;exact ⟨us[j],by rw [yai];exact zkM hj,hr.2 j _ x (zkM hj) hx⟩
    exact zpf (a:=a) (d:=9998) fs.toList 0 xs ys r a5 hF hr (get r1) (get r2)
   split at h
   ·have h:=h.out;refine ⟨_,h,Eff.pure hd fun σ' hag a w ρ hs=>⟨.bool r,?_,zcx _⟩⟩;obtain ⟨us,vs,e1,e2,a0⟩:=a2 σ' a w ρ hs hag;simp only [execOp,hop,e1,e2,Sem.run_bind,run_eqGuard_agg w _ t x y _ _ a4,Result.andThen_ok,run_eql_struct,a0,Sem.run_pure]
   ·have h:=h.out;refine ⟨_,h,Eff.pure hd fun σ' hag a w ρ hs=>⟨.bool (!r),?_,zcx _⟩⟩;obtain ⟨us,vs,e1,e2,a0⟩:=a2 σ' a w ρ hs hag;simp only [execOp,hop,e1,e2,Sem.run_bind,run_eqGuard_agg w _ t x y _ _ a4,Result.andThen_ok,run_neq_struct,a0,Sem.run_pure]
   ·exact h.elim
  ·exact h.elim
 ·exact h.elim
end
end
section
open Go.RowKit
section
variable {P:Program} {B:Base} {o:Oper} {σ:St} {K:Fx->Prop}
theorem zpj {σ':St} {a:Act} {w:World} {ρ:Ly} (h:SatR B σ' a w ρ) {bs':yad} (hgk:∀ p∈bs',σ'.gn p.1=p.2):∀ {l:List (Nat×Operand)} {i:Nat} {vs:List IV} {bs:yad},zrp σ i l=some (vs,bs)->(∀ y∈opdL (l.map (·.2)),σ' y=σ y)->zdm σ σ' bs->(∀ b∈bs,b∈bs') ->
  (l.map fun p=>(p.1,a.eval p.2))=(((l.map fun p=>a.eval p.2).zipIdx i).map fun x=>(x.2,x.1))∧ziw w (Imm B (app σ' (fwr bs')) ρ w) (l.map fun p=>a.eval p.2) vs
 | [],i,vs,bs,e,_,_,_=>by
  simp only [zrp,zkF,zkG] at e;rw [<- e.1];exact ⟨rfl,rfl,fun i u x hu=>by simp at hu⟩
 | (j,x)::l,i,vs,bs,e,hag,hsame,hs=>by
  simp only [zrp] at e;split at e
  ·rename_i hij;subst hij;split at e
   ·rename_i v b1 vs1 bs1 h1 h2;simp only [zkF,zkG] at e;obtain ⟨rfl,rfl⟩:=e;have hx:evA σ' x=evA σ x:=zao fun y hy=>hag y (by simp only [ya1,opdL,ybd];exact yam _ hy);have r1:=fz_ok h hgk (za1 h x) (x:=v) (bs:=b1) (by rw [hx];exact zm7 h1 hsame.left) fun b hb=>hs b (yam _ hb);obtain ⟨r2,r3⟩:=zpj h hgk h2 (fun y hy=>hag y (by simp only [ya1,opdL,ybd];exact yaj _ hy)) hsame.right fun b hb=>hs b (yaj _ hb);refine ⟨by rw [ya1,r2];rfl,by simpa using r3.1,fun n u y hu hy=>?_⟩;cases n with
    | zero=>simp at hu hy;rw [<- hu,<- hy];exact r1
    | succ n=>exact r3.2 n u y (by simpa using hu) (by simpa using hy)
   ·cases e
  ·cases e
theorem cellsI_rep {w:World} {S:Nat->Prop} {v:Value} {x:IV} (h:RepI w S v x) (h0:0<(zf6 x).length):ziw w S v.cells.toList (zf6 x)∧∀ u∈v.cells.toList,u.oneCell'=true:=by
 have one:v.oneCell'=true->zf6 x=[x]->ziw w S v.cells.toList (zf6 x)∧∀ u∈v.cells.toList,u.oneCell'=true:=fun h1 hx=>by
  have:v.cells=#[v]:=by revert h1;cases v<;>simp [Value.oneCell',Value.cells]
  rw [this,hx];refine ⟨⟨rfl,fun i u y hu hy=>?_⟩,fun u hu=>by simp at hu;rw [hu];exact h1⟩;cases i with
  | zero=>simp at hu hy;rw [<- hu,<- hy];exact h
  | succ i=>simp at hu
 have h':=h;cases h' with
 | val _ =>
  simp only [zf6] at h0;split at h0
  ·rename_i h1;exact one h1 (by simp only [zf6];rw [if_pos h1])
  ·simp at h0
 | any _=>simp [zf6] at h0
 | ex _ h1=>exact one h1 rfl
 | emp _ _=>exact one rfl rfl
 | sl _ _ _ _ _ _ _ _ _ _ _ _ _ _ _ _=>exact one rfl rfl
 | agg us cs hl h1 hr=>exact ⟨⟨by simpa [Value.cells,zf6] using hl,fun i u y hu hy=>hr i u y (by simpa [Value.cells] using hu) hy⟩,fun u hu=>h1 u (by simpa [Value.cells] using hu)⟩
 | ref _ _ _ _ _ _ _ _ _=>exact one rfl rfl
 | fn _ _ _ _ _=>exact one rfl rfl
theorem flat_reps {w:World} {S:Nat->Prop} {k:Nat} (hk0:0<k):∀ {us:List Value} {vs:List IV},ziw w S us vs->(∀ v∈vs,(zf6 v).length=k) ->
  (∀ u∈us,u.cells.size=k)∧ziw w S (us.flatMap fun u=>u.cells.toList) (vs.map zf6).flatten∧∀ u∈us.flatMap fun u=>u.cells.toList,u.oneCell'=true
 | [],[],_,_=>⟨by simp,⟨rfl,by simp⟩,by simp⟩
 | u::us,v::vs,h,hk=>by
  obtain ⟨r1,r2⟩:=cellsI_rep (h.2 0 u v rfl rfl) (by rw [hk v (by simp)];exact hk0);obtain ⟨r3,r4,r5⟩:=flat_reps hk0 (us:=us) (vs:=vs) ⟨by simpa using h.1,fun i u x hu hx=>h.2 (i+1) u x (by simpa using hu) (by simpa using hx)⟩ fun v hv=>hk v (by simp [hv]);have hl:u.cells.toList.length=k:=by rw [r1.1,hk v (by simp)]
  refine ⟨fun x hx=>?_,⟨by simp only [ybd,ya1,ybc,zkJ,r1.1,r4.1],fun i x y hx hy=>?_⟩,fun x hx=>?_⟩
  ·rcases yba.1 hx with rfl | hx
   ·simpa using hl
   ·exact r3 x hx
  ·rw [ybd,ya0] at hx;rw [ya1,ybc,ya0] at hy;rw [r1.1] at hx;split at hx
   ·rename_i a0;rw [if_pos a0] at hy;exact r1.2 i x y hx hy
   ·rename_i a0;rw [if_neg a0] at hy;exact r4.2 _ x y hx hy
  ·rw [ybd] at hx;rcases yak.1 hx with hx | hx
   ·exact r2 x hx
   ·exact r5 x hx
 | [],_::_,h,_=>by have:=h.1;simp at this
 | _::_,[],h,_=>by have:=h.1;simp at this
theorem zmm {t et len k:Nat} {w:World} {parts:Array (Nat×Value)} {us:List Value} (hu:P.underlying t=some (.slice et)) (hk:szOf P et=some k) (hz:zOk P et k=true) (hb:∃ b,byteOf P et=some b) (hk0:0<k) (hsm:len*k<=65536) (hl:us.length=len) (hp:parts.toList=(us.zipIdx 0).map fun x=>(x.2,x.1)) (hus:∀ u∈us,u.cells.size=k) :
  (Instr.buildSlice t len parts).run P w=.ok (.slice (some ⟨w.heap.size,0,none⟩) len len) (w.alloc (.cells (us.flatMap fun u=>u.cells.toList).toArray et)):=by
 obtain ⟨b,hb⟩:=hb;obtain ⟨i,z,hi,a4,a3,_,a5⟩:=zj1 hz hk hb
 have a0:∀ cells:Array Value,cells.size=len*k->Instr.fill (fun j=>some (j*k,k)) cells parts.toList=some (us.flatMap fun u=>u.cells.toList).toArray:=fun cells hc=>by
  rw [hp];exact Great.fill_whole hk0 us cells hus (by rw [hl,hc])
 by_cases h0:len*k=0
 ·have hf:=a0 ((Array.range (len*k)).map ((#[]:Array Value)[·%(#[]:Array Value).size]!)) (by simp);have a2:¬ len*k > 2^24:=by omega
  simp [Instr.buildSlice,run_underlying hu,zgj hk,a2,h0,newRow];simp [h0] at hf;rw [hf];simp
 ·have:=run_buildSlice (P:=P) w t et len parts (us.flatMap fun u=>u.cells.toList).toArray i z hu hi a4 (by rw [a3];omega) (by rw [a3];exact h0) (by rw [a3];exact a0 _ (by simp));exact this
theorem zs5 {own:List Nat} {t:TypeId} {len:Nat} {parts:Array (Nat×Operand)} (hop:o.op=.buildSlice t len parts) (hd:zco B.n o=true) (hbyt:∀ et,zg7 P t=some et->∃ b,byteOf P et=some b) (h:zj7 P own o σ K t len parts):∃ fx,K fx∧Eff P B o fx.rd σ fx.wr:=by
 unfold zj7 at h;split at h
 ·rename_i d et a0 b9;have b4:=zd9 b9;split at h
  ·rename_i k vs bs hk a6;obtain ⟨a9,h⟩:=h.ok;simp only [ya4] at a9;obtain ⟨⟨⟨⟨c1,c2⟩,c3⟩,c4⟩,c5⟩:=a9;have a5:vs.length=len:=by simpa using c1
   have b6:=zfx c2;have a8:=zed c3;have b2:∀ v∈vs,(zf6 v).length=k:=fun v hv=>by simpa using ybf.1 c5 v hv
   obtain ⟨b7,h⟩:=h.out
   have za7:∀ σ' a w ρ,SatR B σ' a w ρ->(∀ y∈opdL (parts.toList.map (·.2)),σ' y=σ y)->zdm σ σ' bs->∃ us:List Value,(execOp a.eval o).run P w=.ok (.value (.slice (some ⟨w.heap.size,0,none⟩) len len)) (w.alloc (.cells us.toArray et)) ∧
     us.length=len*k∧ziw w (Imm B (app σ' (fwr bs)) ρ w) us (vs.map zf6).flatten∧(∀ u∈us,u.oneCell'=true):=fun σ' a w ρ hs hag1 hsame=>by
    have c8:∀ p∈bs,σ'.gn p.1=p.2:=fun p hp=>by
     rw [<- b7 p hp];exact zdv (hsame (.gen p.1) (by unfold frd;exact yck.2 ⟨p,hp,by simp⟩))
    obtain ⟨r1,r2⟩:=zpj hs c8 a6 hag1 hsame (fun _ h=>h);obtain ⟨r3,r4,r5⟩:=flat_reps a8 r2 b2;have b5:=zmm (P:=P) (w:=w) (parts:=parts.map fun p=>(p.1,a.eval p.2)) b4 hk c4 (hbyt et b9) a8 b6 (by rw [r2.1,a5]) (by rw [ycj];exact r1) r3;refine ⟨_,?_,?_,r4,r5⟩
    ·simp only [execOp,hop,Sem.run_bind,b5,Result.andThen_ok,Sem.run_pure]
    ·rw [r4.1,zbv (k:=k) (fun x hx=>by obtain ⟨v,hv,rfl⟩:=yao.1 hx;exact b2 v hv),zkK,a5]
   have a3:∀ x∈vs.map zf6,x.length=k:=fun x hx=>by obtain ⟨v,hv,rfl⟩:=yao.1 hx;exact b2 v hv
   have c9:len<=65536:=ych (Nat.le_mul_of_pos_right len a8) b6;split at h
   ·refine ⟨_,h,fun σ' hag a w ⟨ρ,hs⟩ K' Q hK=>?_⟩;obtain ⟨us,run,a7,a4,b3⟩:=za7 σ' a w ρ hs (zax (zax hag)) (za8 (zax hag));obtain ⟨a2,_⟩:=hs.kills bs;unfold Oper.wp;rw [run,Oper.upon_value,a0];refine hK _ _ ⟨setρ ρ d (.slice (some ⟨w.heap.size,0,none⟩) len len),?_⟩
    have hg:(app σ' (fwr bs)).gn d=σ.gn d:=by
     rw [znr];exact zdv (za8 hag (.gen d) (by simp))
    have m:zpp (app σ' (fwr bs)) w (w.alloc (.cells us.toArray et)) ρ none (.slice (some ⟨w.heap.size,0,none⟩) len len) none :=
     ⟨World.grownBy_alloc w _ none,(fun b e=>by cases e),fun b e=>.inr (by simp only [zbz,zkF] at e;omega)⟩
    have c6:=a2.new (d:=d) (k:=.row et k (vs.map zf6)) (cs:=[]) m rfl fun hI _=>by
     refine ⟨us,a8,a3,by rw [zkK,a5];omega,?_,a4.1,b3,fun i u x hu hx=>hI _ _ (a4.2 i u x hu hx)⟩;simp only [setρ,if_pos,zkK,a5];exact ⟨a7,.inr ⟨w.heap.size,len,us.toArray,rfl,yag _,heap_alloc_new w _,yap _,by unfold maxLen;omega,by simpa using a7,by rw [<- a7];simp⟩⟩
    show SatR B (app σ' (fwr bs++(zd0 σ d (.row et k (vs.map zf6))++[(.tmp d,.av (.osl d (σ.gn d+1)))]))) _ _ _;rw [za2];have:=zlc (σ:=σ) (σ':=app σ' (fwr bs)) (k:=.row et k (vs.map zf6)) (cs:=[]) (v:=.osl d (σ.gn d+1)) hg;simp only [zfl,ybq] at this;rw [this,<- hg];exact zi0 c6 rfl (zdh hd a0)
   ·refine ⟨_,h,fun σ' hag a w ⟨ρ,hs⟩ K' Q hK=>?_⟩;obtain ⟨us,run,a7,a4,b3⟩:=za7 σ' a w ρ hs (zax hag) (za8 hag);obtain ⟨a2,_⟩:=hs.kills bs;unfold Oper.wp;rw [run,Oper.upon_value,a0];have b8:Below w.heap.size w (w.alloc (.cells us.toArray et)):=(Below.refl _ _).alloc (yap _) _;obtain ⟨c7,hI⟩:=a2.world b8;refine hK _ _ ⟨ρ,?_⟩;show SatR B (app σ' (fwr bs++[(.tmp d,.av (.im (.sl (vs.map zf6))))])) _ _ _;rw [za2];refine c7.put (d:=some d) (fun t e=>by injection e with e;subst e;exact zdh hd a0) (.im _ _ ?_);refine .sl w.heap.size 0 len k len _ us (by rw [zkK,a5]) a3 (yap _) (by omega) ⟨.inr (.inl hs.bel.size),by simp,fun p c0=>?_,fun hz=>?_⟩ a4.1 b3 (fun i u hu=>?_) fun i u x hu hx=>hI _ _ (a4.2 i u x hu hx)
    ·have:=(a2.own p _ c0).2;omega
    ·have:=(a2.res _ hz).1.2;omega
    ·rw [yai];unfold World.cell?;simp only [heap_alloc_new];simpa using hu
  ·exact h.elim
 ·exact h.elim
end
end
section
open Go.RowKit
section
variable {P:Program} {B:Base} {o:Oper} {σ:St} {K:Fx->Prop}
theorem one_cells {v:Value} (h1:v.oneCell'=true):v.cells=#[v]:=by revert h1;cases v<;>simp [Value.oneCell',Value.cells]
theorem imm_block {a:Act} {w w':World} {ρ:Ly} (hs:SatR B σ a w ρ) {q:Option Nat} (hg:w.grownBy w' q) (hq:∀ b,q=some b->∃ o,Owns σ ρ o b):∀ u x,RepI w (Imm B σ ρ w) u x->RepI w' (Imm B σ ρ w) u x:=fun u x h =>
 h.mono (fun _ hb=>hb) fun p v hb hc=>by
  rw [World.cell?_of_block (hg.block p.block hb.2.1 fun e=>by
   obtain ⟨o,ho⟩:=hq p.block e.symm
   exact hb.2.2.1 o ho)]
  exact hc
theorem aBuildG_ok {t:TypeId} {len:Nat} {parts:Array (Nat×Operand)} (hop:o.op=.buildSlice t len parts) (hd:zco B.n o=true) (hbyt:∀ et,zg7 P t=some et->∃ b,byteOf P et=some b) (h:aBuildG P o σ K t len parts):∃ fx,K fx∧Eff P B o fx.rd σ fx.wr:=by
 unfold aBuildG at h;split at h
 ·rename_i d et x a8 c0 a3;have b5:=zd9 c0;split at h
  ·rename_i k r gr hk hx;split at h
   ·rename_i e' k' es c8;obtain ⟨a6,h'⟩:=h.ok;clear h;simp only [ya4] at a6;obtain ⟨⟨c1,c2⟩,c3⟩:=a6;have c1:=yav c1;have c2:=yav c2;subst c1 c2;obtain ⟨b6,h⟩:=h'.out;have h:=h.out;refine ⟨_,h,fun σ' hag a w ⟨ρ,hs⟩ K' Q hK=>?_⟩;have b7:=zax (zax hag);have b3:zdm σ σ' [(r,gr)]:=za8 (zax hag);have a7:=za8 hag;obtain ⟨b4,a4,_⟩:=b3.mem (p:=(r,gr)) (by simp);have b4:σ'.gn r=gr:=b4.trans (b6 (r,gr) (by simp));have a4:=a4.trans c8;have h1:=za1 hs x;rw [zao b7,hx] at h1
    have hv:a.eval x=ρ r:=by
     generalize a.eval x=v at h1;cases h1 with
     | osl _ _ _ _ _ hh=>exact hh b4
    have ho:=hs.obs r;rw [a4] at ho;have a2:(ρ r).oneCell'=true:=zdk.one (inn:=ρ.inn r) (k:=.row e' k' es) ho
    have a5:=zmm (P:=P) (w:=w) (len:=1) (k:=1) (parts:=parts.map fun p=>(p.1,a.eval p.2)) (us:=[ρ r]) b5 hk c3 (hbyt et c0) (by omega) (by omega) rfl (by rw [ycj,a3];simp [hv]) (fun u hu=>by
     rw [yar] at hu
     rw [hu,one_cells a2]
     rfl)
    have c6:([ρ r].flatMap fun u=>u.cells.toList)=[ρ r]:=by simp [one_cells a2]
    rw [c6] at a5
    have run:(execOp a.eval o).run P w=.ok (.value (.slice (some ⟨w.heap.size,0,none⟩) 1 1)) (w.alloc (.cells [ρ r].toArray et)):=by
     simp only [execOp,hop,Sem.run_bind,a5,Result.andThen_ok,Sem.run_pure]
    unfold Oper.wp;rw [run,Oper.upon_value,a8];refine hK _ _ ?_;have b9:Below w.heap.size w (w.alloc (.cells [ρ r].toArray et)):=(Below.refl _ _).alloc (yap _) _;have hI:∀ u y,RepI w (Imm B σ' ρ w) u y->RepI (w.alloc (.cells [ρ r].toArray et)) (Imm B σ' ρ w) u y:=imm_block hs (World.grownBy_alloc w _ none) fun b e=>by cases e
    have b8:zc7 σ' ρ [(r,gr)]=fpk (ρ r) (ρ.inn r) (.row e' k' es):=by
     unfold zc7;rw [ybd,ydk,ybq,a4]
    have c9:fpk (ρ r) (ρ.inn r) (.row e' k' es)=(zbz (ρ r)).toList:=by
     unfold fpk;rfl
    have a0:∀ b∈zc7 σ' ρ [(r,gr)],b<w.heap.size:=fun b hb=>by
     obtain ⟨p,_,ho⟩:=zdu.1 hb;exact (hs.own p.1 b ho).2
    have hF:fpv (.slice (some ⟨w.heap.size,0,none⟩) 1 1) [ρ r]=w.heap.size::zc7 σ' ρ [(r,gr)]:=by
     rw [b8,c9];unfold fpv;rw [ycg];show w.heap.size::List.filterMap zbz [ρ r]=_;congr 1
    have c7:∀ t,some d=some t->t<B.n:=fun t e=>by injection e with e;subst e;exact zdh hd a8
    have a9:∀ b∈zc7 σ' ρ [(r,gr)],¬ Imm B σ' ρ w b:=fun b hb hi=>by
     obtain ⟨p,_,ho⟩:=zdu.1 hb;exact hi.2.2.1 p.1 ho
    have b2:=zdk.mono (inn:=ρ.inn r) (k:=.row e' k' es) (w':=w.alloc (.cells [ρ r].toArray et)) ho (fun b hb=>heap_alloc_old _ _ (a0 b (by rw [b8];exact hb))) hI
    obtain ⟨ρ',g1,g2,_⟩:=zje hs [(r,gr)] (by simp) (S':=Imm B σ' ρ w) (v:=.slice (some ⟨w.heap.size,0,none⟩) 1 1) (ps:=[]) (τ:=σ) (tp:=false) (d:=d) (l:=[.ow (.grid et e' k' [[IV.sl es]] none)]) (ys:=[]) (F':=w.heap.size::zc7 σ' ρ [(r,gr)]) (bx:=[]) (bl:=[]) (ss':=[]) (va:=.osl d (σ.gn d+1))
     (.of b9) (fun b hb=>⟨.inl hb,by have:=hb.2.1;simp;omega,fun hm=>by
      rcases yba.1 hm with e | hm
      ·have:=hb.2.1;omega
      ·exact a9 b hm hb⟩)
     ⟨_,_,[],rfl,⟨_,[],⟨rfl,[ρ r],⟨by rw [hF];exact yb2.2 ⟨fun hm=>by have:=a0 _ hm;omega,zeu hs (by simp)⟩,rfl,[ρ r],by simp,⟨rfl,.inr ⟨w.heap.size,1,[ρ r].toArray,rfl,yag _,heap_alloc_new w _,yap _,by unfold maxLen;omega,rfl,rfl⟩⟩,fun u hu=>by rw [yar] at hu;rw [hu];exact a2,fun i u hu=>.inr ⟨hu,es,by
      cases i with
      | zero=>rfl
      | succ i=>simp at hu,by
      cases i with
      | zero =>
       simp at hu
       subst hu
       exact b2
      | succ i=>simp at hu⟩⟩,rfl⟩,rfl,rfl⟩,rfl,by
      show w.heap.size::zc7 σ' ρ [(r,gr)]=(fpv (.slice (some ⟨w.heap.size,0,none⟩) 1 1) [ρ r]++[])++[]
      rw [hF]
      simp⟩
     (yb2.2 ⟨fun hm=>by have:=a0 _ hm;omega,zeu hs (by simp)⟩)
     (fun b hb=>by
      rcases yba.1 hb with e | hb
      ·exact ⟨.inl (by omega),by rw [e];simp⟩
      ·exact ⟨.inr hb,by have:=a0 b hb;simp;omega⟩)
     rfl rfl (by simp) rfl (by simp [zcd,ocPl]) (fun x _=>by simp) (fun p hp=>by
      obtain ⟨h5,h6⟩:=zji hp
      exact ⟨zdv (a7 _ h5),zj4 (a7 _ h6)⟩)
    refine ⟨ρ',?_⟩;show SatR B (app σ' (fwr [(r,gr)]++(zc9 σ [(d,.grid et e' k' [[IV.sl es]] none)]++[(.tmp d,.av (.osl d (σ.gn d+1)))]))) _ _ _;rw [za2,za2];exact g1.put (d:=some d) c7 g2
   ·exact h.elim
  ·exact h.elim
 ·exact h.elim
theorem aAppendG_ok {c:Call} {t:TypeId} {x y:Operand} {b2 gc:Nat} (hop:o.op=.call c) (hc:c.callee=.builtin .append) (hargs:c.args=#[x,y]) (hts:c.argTypes=#[t,t]) (hy:evA σ y=.osl b2 gc) (hd:zco B.n o=true) (h:aAppendG P o σ K t x y b2 gc):∃ fx,K fx∧Eff P B o fx.rd σ fx.wr:=by
 unfold aAppendG at h;split at h
 ·rename_i d et e e' k a8 d3 i5 b9;have e8:=zd9 i5;split at h
  ·rename_i m by_ b gb hm h7 hx;split at h
   ·rename_i e1 d9 k1 gs b5;obtain ⟨c9,h'⟩:=h.ok;clear h;simp only [ya4,ydu] at c9;obtain ⟨⟨⟨⟨⟨⟨c1,c2⟩,c3⟩,c4⟩,c5⟩,c6⟩,c7⟩:=c9;have c1:=yav c1;have c2:=yav c2;have c3:=yav c3;have c4:=yav c4;have c5:=yav c5;have g5:b≠b2:=fun e=>by rw [e] at c7;simp at c7
    subst c1 c2 c4 c5;subst c3;obtain ⟨d1,h⟩:=h'.out;obtain ⟨b3,h⟩:=h.out;have h:=h.out;obtain ⟨i,z,hi,hz,e5,b8,i4⟩:=zj1 c6 hm h7;refine ⟨_,h,fun σ' hag a w ⟨ρ,hs⟩ K' Q hK=>?_⟩;have f9:=zax (zax (zax hag));have f6:=za8 (zax (zax hag));have b4:zdm σ σ' [(b,gb),(b2,gc)]:=za8 (zax hag);have d0:=za8 hag;obtain ⟨e4,f7,_⟩:=b4.mem (p:=(b,gb)) (by simp);obtain ⟨d6,e9,_⟩:=b4.mem (p:=(b2,gc)) (by simp);have e4:σ'.gn b=gb:=e4.trans (d1 (b,gb) (by simp));have d6:σ'.gn b2=gc:=d6.trans (d1 (b2,gc) (by simp));have b5:=f7.trans b5;have b9:=e9.trans b9;have h1:=za1 hs x;rw [zao f9,hx] at h1;have h2:=za1 hs y;rw [zao f6,hy] at h2
    have g9:a.eval x=ρ b:=by
     generalize a.eval x=v at h1;cases h1 with
     | osl _ _ _ _ _ hh=>exact hh e4
    have h8:a.eval y=ρ b2:=by
     generalize a.eval y=v at h2;cases h2 with
     | osl _ _ _ _ _ hh=>exact hh d6
    obtain ⟨ub,nb,lb,i7,a6,f8,i3,g6⟩:=zha hs b5;obtain ⟨uc,nc,lc,i6,c8,d4,i0,f5⟩:=zha hs b9
    obtain ⟨A,cp,g7,b7⟩:∃ (A:Option Addr) (cp:Nat),ρ b2=.slice A a8.length cp∧(0<a8.length->∃ bb q,A=some ⟨bb,q,none⟩∧∀ (j:Nat) u,uc[j]?=some u->w.cell? ⟨bb,q+j,none⟩=some u):=by
     rcases c8.2 with ⟨e0,h0⟩ | ⟨q,g8,cur,e0,_⟩
     ·exact ⟨none,0,by rw [e0,h0],fun h=>by omega⟩
     ·exact ⟨_,g8,e0,fun _=>⟨q,0,rfl,fun j u hu=>by rw [yai];exact row_cell c8 e0 hu⟩⟩
    obtain ⟨v',w',f3,a5,a0,f4⟩:=zg8 (P:=P) (w:=w) 0 t o.type e1 i z 1 by_ e8 hi hz e5 b8 i4 (by omega) (ρ b) gs.length ub a6 A a8.length cp uc (by rw [i0,yc2]) b7 d4 (by unfold maxLen;have:=b3.2;omega) (by exact b3.1) (yag _)
    have run:(execOp a.eval o).run P w=.ok (.value v') w':=by
     have e0:(Builtin.append_ #[t,t] o.type #[a.eval x,a.eval y]).run P w=.ok v' w':=by rw [g9,h8,g7];exact f3
     simp [execOp,hop,resolve,hc,hargs,hts,invoke,builtin,e0]
    unfold Oper.wp;rw [run,Oper.upon_value,d3];refine hK _ _ ?_
    have b6:zc7 σ' ρ [(b,gb),(b2,gc)]=fpv (ρ b) (ρ.inn b)++fpv (ρ b2) (ρ.inn b2):=by
     unfold zc7;rw [ybd,ybd,ydk,ybq,b5,b9];rfl
    have a4:(zc7 σ' ρ [(b,gb),(b2,gc)]).Nodup:=zeu hs (by simp [g5])
    have a3:∀ q∈zc7 σ' ρ [(b,gb),(b2,gc)],q<w.heap.size:=fun q hq=>by
     obtain ⟨p,_,ho⟩:=zdu.1 hq;exact (hs.own p.1 q ho).2
    have d7:∀ q∈zc7 σ' ρ [(b,gb),(b2,gc)],¬ Imm B σ' ρ w q:=fun q hq hi=>by
     obtain ⟨p,_,ho⟩:=zdu.1 hq;exact hi.2.2.1 p.1 ho
    have d5:∀ q,(ρ b).ownBlock=some q->q∈zc7 σ' ρ [(b,gb),(b2,gc)]:=fun q hq=>by
     rw [zgp a6] at hq;rw [b6];refine yam _ ?_;unfold fpv;rw [ycg,hq];exact ybr ..
    have hI:∀ u y,RepI w (Imm B σ' ρ w) u y->RepI w' (Imm B σ' ρ w) u y:=imm_block hs a0 fun q hq=>by
     obtain ⟨p,_,ho⟩:=zdu.1 (d5 q hq);exact ⟨p.1,ho⟩
    -- where the new row of rows lies
    have a2:((ρ.inn b++ρ.inn b2).filterMap zbz).Sublist (zc7 σ' ρ [(b,gb),(b2,gc)]):=by
     rw [b6,yen];refine List.Sublist.append ?_ ?_
     ·unfold fpv;rw [ycg];split
      ·exact List.Sublist.refl _
      ·exact ydr _ _
     ·unfold fpv;rw [ycg];split
      ·exact List.Sublist.refl _
      ·exact ydr _ _
    have c0:fpv v' (ρ.inn b++ρ.inn b2)=(zbz v').toList++(ρ.inn b++ρ.inn b2).filterMap zbz:=by
     unfold fpv;rw [ycg];cases zbz v'<;>rfl
    have a7:∀ q,zbz v'=some q->(q=w.heap.size∨zbz (ρ b)=some q)∧q<w'.heap.size:=fun q hq=>by
     refine ⟨?_,(a5.lt q (show v'.ownBlock=some q by rw [zgp a5];exact hq)).2⟩;rw [<- zgp a5] at hq;rcases f4 with e | e
     ·right;rw [<- zgp a6,<- e];exact hq
     ·left;rw [e] at hq;exact (Option.some.inj hq).symm
    have g4:(fpv v' (ρ.inn b++ρ.inn b2)).Nodup:=by
     rw [c0];have h3:=a2.nodup a4;cases hq:zbz v' with
     | none=>exact h3
     | some q =>
      refine yb2.2 ⟨fun hm=>?_,h3⟩;rcases (a7 q hq).1 with e | e
      ·have:=a3 q (a2.subset hm);omega
      ·have hm:q∈(ρ.inn b++ρ.inn b2).filterMap zbz:=hm
       have hm:q∈(ρ.inn b).filterMap zbz∨q∈(ρ.inn b2).filterMap zbz:=by
        rw [<- yak,<- yen];exact hm
       rw [b6,ybi] at a4
       have e3:fpv (ρ b) (ρ.inn b)=q::(ρ.inn b).filterMap zbz:=by
        unfold fpv;rw [ycg,e]
       rw [e3] at a4;rcases hm with hm | hm
       ·exact (yb2.1 a4.1).1 hm
       ·refine a4.2.2 q (ybr ..) q ?_ rfl;unfold fpv;rw [ycg];split
        ·exact hm
        ·exact yay _ hm
    have a9:∀ u∈ρ.inn b++ρ.inn b2,∀ q,zbz u=some q->w'.heap[q]?=w.heap[q]?:=fun u hu q hq=>by
     have hm:q∈(ρ.inn b++ρ.inn b2).filterMap zbz:=ycl.2 ⟨u,hu,hq⟩;refine a0.block q (a3 q (a2.subset hm)) fun e=>?_;rw [zgp a6] at e
     have hm:q∈(ρ.inn b).filterMap zbz∨q∈(ρ.inn b2).filterMap zbz:=by
      rw [<- yak,<- yen];exact hm
     rw [b6,ybi] at a4
     have e3:fpv (ρ b) (ρ.inn b)=q::(ρ.inn b).filterMap zbz:=by
      unfold fpv;rw [ycg,<- e]
     rw [e3] at a4;rcases hm with hm | hm
     ·exact (yb2.1 a4.1).1 hm
     ·refine a4.2.2 q (ybr ..) q ?_ rfl;unfold fpv;rw [ycg];split
      ·exact hm
      ·exact yay _ hm
    have e2:zi2 w' (Imm B σ' ρ w) v' (ρ.inn b++ρ.inn b2) e1 d9 k1 (gs++a8) none:=by
     refine ⟨g4,by rw [zkJ,zkJ,lb,lc],ub++uc,by rw [zkJ];have:=b3.2;omega,by rw [zkJ];exact a5,fun u hu=>?_,fun j u hu=>.inr ?_⟩
     ·rcases yak.1 hu with hu | hu
      ·exact f8 u hu
      ·exact d4 u hu
     ·have d2:=zkH hu;have el:ub.length=(ρ.inn b).length:=i3.trans lb.symm;have e7:gs.length=(ρ.inn b).length:=lb.symm;by_cases hj:j<(ρ.inn b).length
      ·rw [yan hj] at hu;obtain ⟨g1,es,g2,g3⟩:=g6 j u hu;refine ⟨by rw [yan (by rw [el];exact hj)];exact g1,es,by rw [yan (by rw [e7];exact hj)];exact g2,g3.mono (a9 u d2) hI⟩
      ·have d8:(ρ.inn b).length<=j:=ycw hj;rw [yax d8] at hu;obtain ⟨g1,es,g2,g3⟩:=f5 _ u hu;refine ⟨by rw [yax (by rw [el];exact d8),el];exact g1,es,by rw [yax (by rw [e7];exact d8),e7];exact g2,g3.mono (a9 u d2) hI⟩
    have hF:∀ q∈fpv v' (ρ.inn b++ρ.inn b2),(w.heap.size<=q∨q∈zc7 σ' ρ [(b,gb),(b2,gc)])∧q<w'.heap.size:=fun q hq=>by
     rw [c0] at hq;rcases yak.1 hq with hq | hq
     ·have hq:zbz v'=some q:=by simpa using hq
      obtain ⟨h3,h4⟩:=a7 q hq;refine ⟨?_,h4⟩;rcases h3 with e | e
      ·exact .inl (by omega)
      ·exact .inr (d5 q (by rw [zgp a6];exact e))
     ·have h3:=a2.subset hq;have:=a3 q h3;have:=a0.size;exact ⟨.inr h3,by omega⟩
    have h9:∀ t,some d=some t->t<B.n:=fun t e=>by injection e with e;subst e;exact zdh hd d3
    have e6:v'.oneCell'=true:=row_one a5
    obtain ⟨ρ',g1,g2,_⟩:=zje hs [(b,gb),(b2,gc)] (by simp [g5]) (S':=Imm B σ' ρ w) (v:=v') (ps:=[]) (τ:=σ) (tp:=false) (d:=d) (l:=[.ow (.grid e1 d9 k1 (gs++a8) none)]) (ys:=[]) (F':=fpv v' (ρ.inn b++ρ.inn b2)) (bx:=[]) (bl:=[]) (ss':=[]) (va:=.osl d (σ.gn d+1))
     ⟨a0.os,a0.tape,a0.output,a0.size,fun q hq hn=>a0.block q hq fun e=>hn (d5 q e.symm)⟩ (fun q hq=>⟨.inl hq,by have:=hq.2.1;have:=a0.size;omega,fun hm=>by
      rcases (hF q hm).1 with e | e
      ·have:=hq.2.1;omega
      ·exact d7 q e hq⟩)
     ⟨_,_,[],rfl,⟨_,[],⟨e6,ρ.inn b++ρ.inn b2,e2,rfl⟩,rfl,rfl⟩,rfl,by
      show fpv v' (ρ.inn b++ρ.inn b2)=(fpv v' (ρ.inn b++ρ.inn b2)++[])++[]
      simp⟩
     g4 hF rfl rfl (by simp) rfl (by simp [zcd,ocPl]) (fun x _=>by simp) (fun p hp=>by
      obtain ⟨h5,h6⟩:=zji hp
      exact ⟨zdv (d0 _ h5),zj4 (d0 _ h6)⟩)
    refine ⟨ρ',?_⟩;show SatR B (app σ' (fwr [(b,gb),(b2,gc)]++(zc9 σ [(d,.grid e1 d9 k1 (gs++a8) none)]++[(.tmp d,.av (.osl d (σ.gn d+1)))]))) _ _ _;rw [za2,za2];exact g1.put (d:=some d) h9 g2
   ·exact h.elim
  ·exact h.elim
 ·exact h.elim
end
end
section
open Go.RowKit Go.ChangeMaps
section
variable {P:Program} {B:Base} {o:Oper} {σ:St} {K:Fx->Prop}
theorem zqf {t e:TypeId} {n:Nat} (h:arrOf P t=some (n,e)):P.underlying t=some (.array n e):=by
 unfold arrOf at h;split at h
 ·rename_i n' e' hu;simp only [zkF,zkG] at h;rw [hu,h.1,h.2]
 ·cases h
theorem zqx {t:TypeId} {n:Nat} (h:intArr P t=some n):∃ e,P.underlying t=some (.array n e)∧P.underlying e=some (.int .i64)∧szOf P e=some 1:=by
 unfold intArr at h;split at h
 ·rename_i n' e he;split at h
  ·rename_i h1 h2;injection h with h
   subst h;exact ⟨e,zqf he,h1,h2⟩
  ·cases h
 ·cases h
theorem flat_sing {α β:Type} (f:α->β):∀ cs:List α,(cs.map fun v=>[f v]).flatten=cs.map f
 | []=>rfl
 | c::cs=>by rw [ya1,ybc,flat_sing f cs];rfl
theorem aAllocA_ok {t:TypeId} (hop:o.op=.alloc t) (hd:zco B.n o=true) (h:aAllocA P o σ K t):∃ fx,K fx∧Eff P B o fx.rd σ fx.wr:=by
 unfold aAllocA at h;split at h
 ·rename_i d cs a3 hz;obtain ⟨a0,h⟩:=h.ok;simp only [ya4] at a0;have a4:=a0.1.1;have a8:=zed a0.1.2;have a9:=zfx a0.2;have h:=h.out;refine ⟨_,h,fun σ' hag a w ⟨ρ,hs⟩ K' Q hK=>?_⟩;have hg:σ'.gn d=σ.gn d:=zdv (hag (.gen d) (by simp))
  obtain ⟨z,a6,a5⟩:∃ z:Value,(∀ w,(zeroValue t).run P w=.ok z w)∧z.cells.toList=cs:=by
   unfold zeroOf at hz;split at hz
   ·rename_i i hi;cases hz0:i.zero with
    | none=>rw [hz0] at hz;cases hz
    | some z =>
     rw [hz0] at hz;simp only [yal,zkF] at hz;exact ⟨z,fun w=>by simp [zeroValue,typeInfo,hi,hz0],hz⟩
   ·cases hz
  have run:(execOp a.eval o).run P w=.ok (.value (.pointer (some ⟨w.heap.size,0,none⟩))) (w.alloc (.cells cs.toArray t)):=by
   rw [<- a5];simp [execOp,hop,Instr.alloc,a6,newVar,newRow]
  unfold Oper.wp;rw [run,Oper.upon_value,a3]
  let hv:Value:=.slice (some ⟨w.heap.size,0,none⟩) cs.length cs.length
  refine hK _ _ ⟨setρ ρ d hv,?_⟩
  have m:zpp σ' w (w.alloc (.cells cs.toArray t)) ρ none hv none :=
   ⟨World.grownBy_alloc w _ none,(fun b e=>by cases e),fun b e=>.inr (by simp only [hv,zbz,zkF] at e;omega)⟩
  have a2:(cs.map fun v=>[nz1 (IV.val v)]).flatten=cs.map fun v=>nz1 (.val v):=flat_sing (fun v=>nz1 (IV.val v)) cs
  have a7:=hs.new (d:=d) (k:=.row t 1 (cs.map fun v=>[nz1 (.val v)])) (cs:=[]) m rfl fun hI _=>by
   refine ⟨cs,by omega,fun x hx=>by obtain ⟨u,_,rfl⟩:=yao.1 hx;rfl,by rw [zkK];omega,?_,by rw [a2];simp,fun u hu=>ybf.1 a4 u hu,fun i u x hu hx=>?_⟩
   ·simp only [setρ,if_pos,zkK];refine ⟨by simp,.inr ⟨w.heap.size,cs.length,cs.toArray,rfl,yag _,heap_alloc_new w _,yap _,by unfold maxLen;omega,by simp,by simp⟩⟩
   ·rw [a2,yaf,hu] at hx;injection hx with hx
    subst hx;exact zjm (.val u)
  have:=zlc (σ:=σ) (σ':=σ') (k:=.row t 1 (cs.map fun v=>[nz1 (.val v)])) (cs:=[]) (v:=.elt d (σ.gn d+1) 1 0 0) hg;simp only [zfl,ybq] at this;show SatR B (app σ' (zd0 σ d (.row t 1 (cs.map fun v=>[nz1 (.val v)]))++[(.tmp d,.av (.elt d (σ.gn d+1) 1 0 0))])) _ _ _;rw [this,<- hg];exact a7.put (d:=some d) (fun t e=>by injection e with e;subst e;exact zdh hd a3) (.elt _ _ _ _ _ _ rfl (by rw [zj2,if_pos rfl];omega) fun _=>⟨w.heap.size,0,cs.length,cs.length,by simp [setρ,hv],by simp⟩)
 ·exact h.elim
theorem aAllocs_ok {t:TypeId} (hop:o.op=.alloc t) (hd:zco B.n o=true) (h:aAllocs P o σ K t):∃ fx,K fx∧Eff P B o fx.rd σ fx.wr:=by
 unfold aAllocs at h;split at h
 ·split at h
  ·exact aAlloc_ok hop hd h
  ·exact aAllocA_ok hop hd h
 ·exact aAlloc_ok hop hd h
theorem aIndexA_ok {t et:TypeId} {n:Nat} {x i:Operand} (hop:o.op=.indexAddr t x i) (ht:arrOf P t=some (n,et)) (hd:zco B.n o=true) (h:aIndexA P o σ K n et x i):∃ fx,K fx∧Eff P B o fx.rd σ fx.wr:=by
 have hu:=zqf ht;unfold aIndexA at h;split at h
 ·rename_i kk j m hi hm
  have run:∀ (a:Act) w q p,a.eval x=.pointer (some ⟨q,p,none⟩)->a.eval i=.int kk j->0<=j->j<n->(execOp a.eval o).run P w=.ok (.value (.pointer (some ⟨q,p+j.toNat*m,none⟩))) w:=fun a w q p hv hn h0 a0=>by
   have hz:=zgj hm w;have h3:0<=j∧j<(n:Int):=⟨h0,a0⟩;simp only [execOp,hop,hv,hn,Instr.indexAt,asIntOf,Instr.sureAddr,Sem.run_bind,Sem.run_pure,Result.andThen_ok,run_underlying hu,if_pos h3,hz,addr_add]
  split at h
  ·rename_i b g k p q hx
   have a4:∀ (σ':St),(∀ y∈opd x++opd i++[Loc.gen b],σ' y=σ y)->∀ a w ρ,SatR B σ' a w ρ->σ.gn b=g->∃ v,a.eval x=v∧RepA w (Imm B σ' ρ w) ρ σ'.gn v (.elt b g k p q)∧a.eval i=.int kk j∧σ'.gn b=g:=fun σ' hag a w ρ hs hg=>by
    have h1:=za1 hs x;have h2:=za1 hs i;rw [zao (zax (zax hag)),hx] at h1;rw [zao (za8 (zax hag))] at h2;exact ⟨_,rfl,h1,zcf hi h2,(zdv (za8 hag (.gen b) (by simp))).trans hg⟩
   split at h
   ·rename_i hc;simp only [ya4,Nat.beq_eq] at hc;obtain ⟨⟨⟨rfl,rfl⟩,rfl⟩,rfl⟩:=hc;obtain ⟨⟨h0,a0,hg⟩,h⟩:=h.out;refine ⟨_,h,Eff.pure hd fun σ' hag a w ρ hs=>?_⟩;obtain ⟨v,hv,h1,h2,hg'⟩:=a4 σ' hag a w ρ hs hg;cases h1 with
    | elt _ _ _ _ _ _ a2 hgg hh =>
     obtain ⟨q0,z0,n0,c0,e1,e2⟩:=hh hg';subst e2;have a3:=run a w q0 (z0+(0*1+0)) hv h2 h0 a0;exact ⟨_,a3,.elt _ b g 1 j.toNat 0 rfl hgg fun _=>⟨q0,z0,n0,c0,e1,by simp⟩⟩
   ·obtain ⟨⟨h0,a0,hg⟩,h⟩:=h.out;refine ⟨_,h,Eff.pure hd fun σ' hag a w ρ hs=>?_⟩;obtain ⟨v,hv,h1,h2,hg'⟩:=a4 σ' hag a w ρ hs hg;cases h1 with
    | elt _ _ _ _ _ _ a2 hgg hh =>
     obtain ⟨q0,z0,n0,c0,e1,e2⟩:=hh hg';subst e2;have a3:=run a w q0 _ hv h2 h0 a0;exact ⟨_,a3,.elt _ b g k p (q+j.toNat*m) rfl hgg fun _=>⟨q0,z0,n0,c0,e1,by rw [yb4,yb4]⟩⟩
  ·rename_i cs hx;obtain ⟨⟨h0,a0⟩,h⟩:=h.out;refine ⟨_,h,Eff.pure hd fun σ' hag a w ρ hs=>?_⟩;have h1:=za1 hs x;have h2:=za1 hs i;rw [zao (zax hag),hx] at h1;rw [zao (za8 hag)] at h2;have hn:=zcf hi h2;have h1:=h1.im_inv;generalize hv:a.eval x=v at h1;cases h1 with
   | ref b q us _ hS hl a2 hu' hr =>
    refine ⟨_,run a w b q hv hn h0 a0,.im _ _ (.ref b (q+j.toNat*m) (us.drop (j.toNat*m)) (cs.drop (j.toNat*m)) hS (by simp [hl]) (fun u a5=>a2 u (ybn a5)) (fun p u hj=>?_) fun p u y hj hy=>?_)⟩
    ·rw [ybv] at hj;have:=hu' _ u hj
     rwa [<- yb4] at this
    ·rw [ybv] at hj hy;exact hr _ u y hj hy
  ·rename_i b g p hx;obtain ⟨⟨h0,a0,hg⟩,h⟩:=h.out;refine ⟨_,h,Eff.pure hd fun σ' hag a w ρ hs=>?_⟩;have h1:=za1 hs x;have h2:=za1 hs i;rw [zao (zax (zax hag)),hx] at h1;rw [zao (za8 (zax hag))] at h2;have hn:=zcf hi h2;have hg':=(zdv (za8 hag (.gen b) (by simp))).trans hg;generalize hv:a.eval x=v at h1;cases h1 with
   | own _ _ _ _ a2 hgg hh =>
    obtain ⟨q,e1,e2⟩:=hh hg';exact ⟨_,run a w q p (hv.trans e2) hn h0 a0,.own _ b g (p+j.toNat*m) rfl hgg fun _=>⟨q,e1,rfl⟩⟩
  ·exact h.elim
 ·exact h.elim
theorem flat_ones {α:Type}:∀ {es:List (List α)},(∀ x∈es,x.length=1)->es.flatten.length=es.length
 | [],_=>rfl
 | x::es,h=>by
  rw [ybc,zkJ,flat_ones fun y hy=>h y (by simp [hy]),h x (by simp),zkL];omega
theorem aLoadA_ok {t:TypeId} {p:Operand} {b g k i j:Nat} (hop:o.op=.load t p) (hp:evA σ p=.elt b g k i j) (hw:wholeA P t k=true) (hd:zco B.n o=true) (h:aLoadA P o σ K t p b g k i j):∃ fx,K fx∧Eff P B o fx.rd σ fx.wr:=by
 have a0:zmr P t=some true:=by
  unfold wholeA at hw;split at hw
  ·rename_i n hn;obtain ⟨e,hu,_⟩:=zqx hn;unfold zmr;rw [hu];rfl
  ·cases hw
 unfold aLoadA at h;split at h
 ·rename_i t' k' es m a8 hm;obtain ⟨hc,h⟩:=h.ok;simp only [ya4,Nat.beq_eq] at hc;obtain ⟨⟨⟨rfl,rfl⟩,rfl⟩,rfl⟩:=hc;obtain ⟨⟨hg,a3⟩,h⟩:=h.out;have h:=h.out;refine ⟨_,h,Eff.pure hd fun σ' hag a w ρ hs=>?_⟩;obtain ⟨a6,hg',a7,_⟩:=zc4 hag;have h1:=za1 hs p;rw [zao a6,hp] at h1;have ho:=hs.obs b;rw [a7.trans a8] at ho;obtain ⟨us,h2,h3,h4,h5,h6,h7,h8⟩:=ho;generalize hv:a.eval p=v at h1;cases h1 with
  | elt _ _ _ _ _ _ a2 hgg hh =>
   obtain ⟨q,z,n,c,e1,e2⟩:=hh (hg'.trans hg)
   have a4:z=0:=by
    rcases h5.2 with ⟨f,_⟩ | ⟨_,_,_,f,_⟩
    ·rw [f] at e1;cases e1
    ·rw [f] at e1;injection e1 with e1 _ _
     injection e1 with e1
     injection e1 with _ e1
     exact e1.symm
   subst a4;rw [yai] at e2;subst e2;have a5:us.length=m:=by rw [h6,flat_ones h3,a3]
   refine ⟨.agg us.toArray,?_,.im _ _ (.agg us _ h6 h7 h8)⟩
   have:=zla (P:=P) (t:=t) (us:=us) a0 (by rw [a5];exact hm) (b:=q) (q:=0*1+0) (w:=w) (fun p u hu=>by
    have:=h5.cells (g:=q) (by rw [e1];rfl) p u hu
    rw [addr_add,yai] at this
    simpa using this)
   have hr:(Instr.loadAt t (a.eval p)).run P w=.ok (.agg us.toArray) w:=by rw [hv];exact this
   simp [execOp,hop,hr]
 ·exact h.elim
theorem aLenM_ok {c:Call} {t kt et:TypeId} {ts:List TypeId} {x:Operand} {b g:Nat} {l:List (Value×Value)} (hop:o.op=.call c) (hc:c.callee=.builtin .len) (ha:c.args.toList=[x]) (ht:c.argTypes.toList=t::ts) (hm:zs1 P t=some (kt,et)) (hx:evA σ x=.osl b g) (hkd:σ.kd b=.map l) (hd:zco B.n o=true) (h:aLenM o σ K x b g l):∃ fx,K fx∧Eff P B o fx.rd σ fx.wr:=by
 have a7:c.argTypes[0]?=some t:=by rw [<- ya3,ht];rfl
 have a6:∀ a:Act,(c.args.map a.eval)[0]?=some (a.eval x):=fun a=>by rw [<- ya3,ycj,ha];rfl
 have hu:=zl4 hm;unfold aLenM at h;obtain ⟨hg,h⟩:=h.out;have h:=h.out;refine ⟨_,h,Eff.pure hd fun σ' hag a w ρ hs=>?_⟩;obtain ⟨a3,hg',a5,_⟩:=zc4 hag;have h1:=za1 hs x;rw [zao a3,hx] at h1;have ho:=hs.obs b;rw [a5.trans hkd] at ho;obtain ⟨q,a4,es,e1,e2,e3,a8⟩:=ho;have a0:=MapKept.run_getObj_map (P:=P) e2;generalize hv:a.eval x=v at h1;cases h1 with
 | osl _ _ _ a2 hgg hh =>
  rw [hh (hg'.trans hg),e1] at hv;have hl:l.length=es.size:=by rw [<- e3];simp
  refine ⟨.int .i64 es.size,?_,by rw [hl];exact zcx _⟩;simp only [execOp,hop,resolve,hc,invoke,builtin,Builtin.len_,a7,a6,Sem.run_bind,Sem.run_pure,Result.andThen_ok,run_underlying hu,hv,goInt,a0]
theorem part_int {e:TypeId} {w:World} (hu:P.underlying e=some (.int .i64)) {ks:yab} {i:Nat} {c:Int} (h:ks[i]?=some c):(part e (ks.map (Value.int .i64)).toArray i).run P w=.ok (.int .i64 c) w:=by
 have a0:zmr P e=some false:=by unfold zmr;rw [hu];rfl
 have hi:(ks.map (Value.int .i64)).toArray[i]?=some (.int .i64 c):=by simp [h]
 unfold part;rw [Sem.run_bind,zo8 a0];simp only [Result.andThen_ok,yd7,if_false,hi,Sem.run_pure]
theorem zsm {kt e:TypeId} {n:Nat} (hu:P.underlying kt=some (.array n e)) (he:P.underlying e=some (.int .i64)) (hs:szOf P e=some 1) (em:Bool) {ks:yab} (hl:ks.length=n) (w:World):(Instr.checkKey em 10000 kt (wA ks)).run P w=.ok () w:=by
 unfold wA;rw [Instr.checkKey];simp only [Sem.run_bind,run_underlying hu,Result.andThen_ok];simp only [Std.Legacy.Range.forIn_eq_forIn_range',Std.Legacy.Range.size,yep,Nat.add_one_sub_one,Nat.div_one];have a0:∀ i∈List.range' 0 n,i<ks.length:=fun i hi=>by rw [hl];simpa using List.mem_range'_1.1 hi
 generalize List.range' 0 n=is at a0
 induction is with
 | nil=>simp
 | cons j is ih =>
  have hj:=a0 j (by simp);have hp:=part_int (w:=w) he (zkM hj)
  have a2:(Instr.checkKey em 9999 e (.int .i64 ks[j])).run P w=.ok () w:=by
   rw [Instr.checkKey,Sem.run_bind,run_underlying he];rfl
  simp only [List.forIn_cons,Sem.run_bind,zgj hs,Result.andThen_ok,yc2,hp,a2,Sem.run_pure];exact ih fun y hy=>a0 y (by simp [hy])
theorem eq_items {e:TypeId} (he:P.underlying e=some (.int .i64)) {ks ls:yab} (hl:ks.length=ls.length) (w:World):∀ is:List Nat,(∀ i∈is,i<ks.length) ->
  (Op.eqItems 9999 e 1 (ks.map (Value.int .i64)).toArray (ls.map (Value.int .i64)).toArray is).run P w=.ok (is.all fun i=>decide (ks[i]?=ls[i]?)) w
 | [],_=>by simp [Op.eqItems]
 | i::is,h=>by
  have hi:=h i (by simp);have hi':i<ls.length:=by omega
  have p1:=part_int (w:=w) he (zkM hi);have p2:=part_int (w:=w) he (zkM hi')
  have a0:(Op.equalIn 9999 e (.int .i64 ks[i]) (.int .i64 ls[i])).run P w=.ok (ks[i]==ls[i]) w:=by
   rw [Op.equalIn,Sem.run_bind,run_underlying he];simp
  rw [yfg,zkM hi,zkM hi'];simp only [Op.eqItems,yc2,Sem.run_bind,p1,p2,a0,Result.andThen_ok];by_cases hc:ks[i]=ls[i]
  ·simp [hc,eq_items he hl w is fun j hj=>h j (by simp [hj])]
  ·simp [hc]
theorem all_get {ks ls:yab} {n:Nat} (h1:ks.length=n) (h2:ls.length=n):((List.range n).all fun i=>decide (ks[i]?=ls[i]?))=decide (ks=ls):=by
 rw [yeq];simp only [ybf,ya8,decide_eq_true_eq];constructor
 ·intro h;apply yce;intro i;by_cases hi:i<n
  ·exact h i hi
  ·rw [yaq (by omega),yaq (by omega)]
 ·rintro rfl i _;rfl
theorem equal_arr {kt e:TypeId} {n:Nat} (hu:P.underlying kt=some (.array n e)) (he:P.underlying e=some (.int .i64)) (hs:szOf P e=some 1) {ks ls:yab} (h1:ks.length=n) (h2:ls.length=n) (w:World):(Op.equal kt (wA ks) (wA ls)).run P w=.ok (decide (ks=ls)) w:=by
 obtain ⟨i,hi,a2⟩:∃ i,P.info? e=some i∧i.size=1:=by
  unfold szOf at hs;cases hi:P.info? e with
  | none=>rw [hi] at hs;cases hs
  | some i=>rw [hi] at hs;exact ⟨i,rfl,by simpa using hs⟩
 have a0:P.cellsOf e=1:=by simp [Program.cellsOf,hi,a2]
 unfold Op.equal wA;rw [show Op.maxDepth=9999+1 from rfl,run_equalIn_array w 9999 _ _ hu hi,a0,eq_items he (by omega) w _ (fun i hi=>by rw [h1];simpa using hi),all_get h1 h2]
theorem zmt {kt e:TypeId} {n:Nat} (hu:P.underlying kt=some (.array n e)) (he:P.underlying e=some (.int .i64)) (hs:szOf P e=some 1) {ks:yab} (h1:ks.length=n) (w:World):∀ (es:List MapEntry) (i:Nat) (m:List (yab×Value)),es.map (fun e=>(e.key,e.val))=m.map (fun p=>(wA p.1,p.2))->(∀ p∈m,p.1.length=n) ->
  ((Instr.findAsking kt (wA ks) es i).run P w=.ok none w∧getA ks m=none∧∀ v,setA ks v m=m++[(ks,v)]) ∨
  ∃ j e,(Instr.findAsking kt (wA ks) es i).run P w=.ok (some (i+j,e.val)) w∧getA ks m=some e.val∧es[j]?=some e∧e.key=wA ks∧∀ v,(setA ks v m).map (fun p=>(wA p.1,p.2))=(es.set j { e with key:=wA ks,val:=v }).map (fun e=>(e.key,e.val))
 | [],i,[],_,_=>.inl ⟨by simp [Instr.findAsking],rfl,fun _=>rfl⟩
 | [],_,_::_,h,_=>by simp at h
 | _::_,_,[],h,_=>by simp at h
 | x::es,i,p::m,h,hm=>by
  simp only [ya1,List.cons.injEq,zkG] at h;obtain ⟨⟨hk,hv⟩,ht⟩:=h;have heq:=equal_arr hu he hs h1 (hm p (by simp)) w;by_cases hc:ks=p.1
  ·refine .inr ⟨0,x,?_,?_,rfl,by rw [hk,hc],fun v=>?_⟩
   ·rw [Instr.findAsking,Sem.run_bind,hk,heq];simp [hc]
   ·simp [getA,hc,hv]
   ·simp [setA,hc,ht]
  ·have hdc:decide (ks=p.1)=false:=by simp [hc]
   rcases zmt hu he hs h1 w es (i+1) m ht fun q hq=>hm q (by simp [hq]) with ⟨f1,f2,f3⟩ | ⟨j,y,f1,f2,f3,f4,f5⟩
   ·refine .inl ⟨?_,?_,fun v=>?_⟩
    ·rw [Instr.findAsking,Sem.run_bind,hk,heq];simp [hc,f1]
    ·simp [getA,hc,f2]
    ·simp [setA,hc,f3]
   ·refine .inr ⟨j+1,y,?_,?_,by simpa using f3,f4,fun v=>?_⟩
    ·rw [Instr.findAsking,Sem.run_bind,hk,heq];simp [hc,f1,yb4,ydf 1 j]
    ·simp [getA,hc,f2]
    ·simp [setA,hc,f5,hk,hv]
theorem find_arr {kt e:TypeId} {n:Nat} (hu:P.underlying kt=some (.array n e)) {k:Value} {es:List MapEntry} (w:World):∀ {ks:yab},k=wA ks->(Instr.findKey kt k es).run P w=(Instr.findAsking kt k es 0).run P w∨(es=[]∧(Instr.findKey kt k es).run P w=.ok none w):=by
 rintro ks rfl;unfold Instr.findKey;rw [Sem.run_bind,run_underlying hu];simp only [Result.andThen_ok];cases es with
 | nil=>exact .inr ⟨rfl,rfl⟩
 | cons x es=>exact .inl (by simp [Instr.findNow,Instr.sameNow,wA])
theorem zrm {kt e:TypeId} {n:Nat} (hu:P.underlying kt=some (.array n e)) {es:List MapEntry} (w:World) (ks:yab):(Instr.findKey kt (wA ks) es).run P w=(Instr.findAsking kt (wA ks) es 0).run P w:=by
 rcases find_arr hu (es:=es) w (ks:=ks) rfl with h | ⟨rfl,h⟩
 ·exact h
 ·rw [h];simp [Instr.findAsking]
theorem agg_wA {w:World} {S:Nat->Prop} {v:Value} {ks:yab} (h:RepI w S v (.agg (ks.map fun c=>.val (.int .i64 c)))):v=wA ks:=by
 cases h with
 | agg us cs hl h1 hr =>
  unfold wA;congr 2;apply yce;intro i;by_cases hi:i<us.length
  ·have hk:i<ks.length:=by simpa [hl] using hi
   obtain ⟨u,hu⟩:∃ u,us[i]?=some u:=⟨_,zkM hi⟩;have:=hr i u (.val (.int .i64 ks[i])) hu (by simp [zkM hk]);cases this;rw [hu];simp [zkM hk]
  ·have hk:¬ i<ks.length:=by simpa [hl] using hi
   rw [yaq (by omega),yaq (by simp;omega)]
theorem same_zip:∀ ks:yab,(((ks.map (Value.int .i64)).zip (ks.map (Value.int .i64))).all fun (x,y)=>Instr.sameBits 9999 x y)=true
 | []=>rfl
 | k::ks=>by
  rw [ya1,List.zip_cons_cons,yfg,same_zip ks];simp [Instr.sameBits]
theorem sameBits_wA (ks:yab):Instr.sameBits 10000 (wA ks) (wA ks)=true:=by
 unfold wA;rw [Instr.sameBits];simp only [beq_self_eq_true,Bool.true_and];exact same_zip ks
theorem zra {t:TypeId} {n:Nat} (h:zto P t=some n):∃ kt et e,P.underlying t=some (.map kt et)∧zs1 P t=some (kt,et)∧P.underlying kt=some (.array n e)∧P.underlying e=some (.int .i64)∧szOf P e=some 1:=by
 unfold zto at h;split at h
 ·rename_i k et hm;obtain ⟨e,h1,h2,h3⟩:=zqx h;exact ⟨k,et,e,zl4 hm,hm,h1,h2,h3⟩
 ·cases h
theorem aLookupA_ok {n:Nat} {t:TypeId} {x i:Operand} {ok:Bool} (hop:o.op=.lookup t x i ok) (hka:zto P t=some n) (hd:zco B.n o=true) (h:aLookupA P o σ K n t x i ok):∃ fx,K fx∧Eff P B o fx.rd σ fx.wr:=by
 obtain ⟨kt,et,e,a3,b3,hu,he,a4⟩:=zra hka;unfold aLookupA at h;split at h
 ·rename_i b7 b9 b g cs a0 hx hi;rw [b3] at a0;simp only [zkF,zkG] at a0;obtain ⟨rfl,rfl⟩:=a0;split at h
  ·rename_i l z b6 hz;obtain ⟨hg,ks,m,⟨k1,k2,k3,k4⟩,h⟩:=h.out;have h:=h.out
   have a2:∀ σ',(∀ y∈opd x++opd i++[.gen b,.knd b],σ' y=σ y)->∀ a w,Sat B σ' a w->(execOp a.eval o).run P w=.ok (.value (if ok=true then .tuple #[(getA ks m).getD z,.bool (getA ks m).isSome] else (getA ks m).getD z)) w:=fun σ' hag a w ⟨ρ,hs⟩=>by
    obtain ⟨ha,hg',a9,_⟩:=zc4 hag;have h1:=za1 hs x;have h2:=za1 hs i;rw [zao (zax ha),hx] at h1;rw [zao (za8 ha),hi,k1] at h2;have b2:=agg_wA h2.im_inv;have ho:=hs.obs b;rw [a9.trans b6] at ho;obtain ⟨q,a7,es,e1,e2,e3,b8⟩:=ho
    have b5:a.eval x=.map (some q):=by
     generalize a.eval x=v at h1;cases h1 with
     | osl _ _ _ _ _ hh=>rw [hh (hg'.trans hg),e1]
    have a8:∀ w,(zeroValue et).run P w=.ok z w:=fun w=>by
     unfold zeroV at hz;split at hz
     ·rename_i it b4;simp [zeroValue,typeInfo,b4,hz]
     ·cases hz
    have a5:=MapKept.run_getObj_map (P:=P) e2;have a6:=zmt hu he a4 k2 w es.toList 0 m (e3.trans k3) k4;simp only [execOp,hop,b5,b2,Instr.lookup,Sem.run_bind,run_underlying a3,Result.andThen_ok,a5,Sem.run_pure,zsm hu he a4 _ k2,zrm hu];rcases a6 with ⟨f1,f2,_⟩ | ⟨j,y,f1,f2,_⟩
    ·rw [f1,f2];cases ok<;>simp [a8]
    ·rw [f1,f2];cases ok<;>simp
   split at h
   ·have h:=h.out;refine ⟨_,h,Eff.pure hd fun σ' hag a w ρ hs=>⟨_,a2 σ' hag a w ⟨ρ,hs⟩,?_⟩⟩;simp only [if_true]
    exact .tup [(getA ks m).getD z,.bool (getA ks m).isSome] _ rfl fun j u y hu hy=>by
     match j with
     | 0=>simp at hu hy;rw [<- hu,<- hy];exact zcx _
     | 1=>simp at hu hy;rw [<- hu,<- hy];exact vB_rep _
     | j+2=>simp at hu
   ·refine ⟨_,h,Eff.pure hd fun σ' hag a w ρ hs=>⟨_,a2 σ' hag a w ⟨ρ,hs⟩,?_⟩⟩;simp only [yd7,if_false];exact zcx _
  ·exact h.elim
 ·exact h.elim
theorem zsq {n:Nat} {t:TypeId} {x i y:Operand} (hop:o.op=.mapUpdate t x i y) (hka:zto P t=some n) (hd:zco B.n o=true) (h:zmv P o σ K n t x i y):∃ fx,K fx∧Eff P B o fx.rd σ fx.wr:=by
 obtain ⟨kt,et,e,a4,c8,hu,he,a5⟩:=zra hka;unfold zmv at h;split at h
 ·rename_i b g cs v c7 hx hi hy;split at h
  ·rename_i l a8;obtain ⟨hg,ks,m,⟨k1,k2,k3,k4⟩,h⟩:=h.out;have h:=h.out;refine ⟨_,h,fun σ' hag a w ⟨ρ,hs⟩ K' Q hK=>?_⟩;obtain ⟨ha,hg',a6,_⟩:=zc4 hag;have h1:=za1 hs x;have h2:=za1 hs i;have h3:=za1 hs y;rw [zao (zax (zax ha)),hx] at h1;rw [zao (za8 (zax ha)),hi,k1] at h2;rw [zao (za8 ha)] at h3;have b3:=agg_wA h2.im_inv;have hv:=zn0 hy h3;have ho:=hs.obs b;rw [a6.trans a8] at ho;obtain ⟨q,a2,es,e1,e2,e3,b4⟩:=ho
   have b6:a.eval x=.map (some q):=by
    generalize a.eval x=u at h1;cases h1 with
    | osl _ _ _ _ _ hh=>rw [hh (hg'.trans hg),e1]
   have a9:=MapKept.run_getObj_map (P:=P) e2;have a7:live σ' b:=by unfold live;rw [a6.trans a8];exact fun z=>by cases z
   have c0:zbz (ρ b)=some q:=by rw [e1];rfl
   have b8:∀ (a3:Array MapEntry) (a0:Nat),(a3.toList.map fun e=>(e.key,e.val))=(setA ks v m).map (fun p=>(wA p.1,p.2))->zp2 a3 a0->(execOp a.eval o).run P w=.ok .skip (setBlock w q (.map a3 a0))->o.wp P a w K' Q:=fun a3 a0 b9 b7 b2=>by
    unfold Oper.wp;rw [b2,Oper.upon_skip];refine hK _ _ ⟨ρ,?_⟩
    have c6:=hs.turn (b:=b) (q:=q) (w':=setBlock w q (.map a3 a0)) (k':=.map ((setA ks v m).map fun p=>(wA p.1,p.2))) a7 c0 ⟨rfl,rfl,rfl,by simp [setBlock],fun i _ hi=>heap_setBlock_other e2 _ (fun e=>hi (by rw [e]))⟩ (fun c hc=>by unfold Owns;rw [a6.trans a8];exact hc) fun hI =>
     ⟨q,a0,a3,e1,heap_setBlock_same e2 _,b9,b7⟩
    rw [zcl];exact c6.put (zka hd) (zcx _)
   rcases zmt hu he a5 k2 w es.toList 0 m (e3.trans k3) k4 with ⟨f1,f2,f3⟩ | ⟨j,y',f1,f2,f3,f4,f5⟩
   ·refine b8 (es.push { key:=wA ks,val:=v,born:=a2 }) (a2+1) (by rw [f3];simp [<- k3,e3]) (b4.push _ _) ?_;simp only [execOp,hop,b6,b3,hv,Instr.mapUpdate,Sem.run_bind,run_underlying a4,Result.andThen_ok,a9,Sem.run_pure,zsm hu he a5 _ k2,zrm hu,f1,MapKept.run_setObj_map _ e2];rfl
   ·have hj:es[j]?=some y':=by rw [<- ya3];exact f3
    have b5:j<es.size:=(yb7.1 hj).1;refine b8 (es.modify j fun e=>{ e with key:=wA ks,val:=v }) a2 ?_ (b4.modify _ _ fun _=>rfl) ?_
    ·rw [f5];congr 1;apply yce;intro n;rw [ya3,ydg,yeg];by_cases hn:j=n
     ·subst hn;rw [if_pos rfl,if_pos rfl,if_pos (by simpa using b5),hj];rfl
     ·rw [if_neg hn,if_neg hn,ya3]
    ·simp only [execOp,hop,b6,b3,hv,Instr.mapUpdate,Sem.run_bind,run_underlying a4,Result.andThen_ok,a9,Sem.run_pure,zsm hu he a5 _ k2,zrm hu,f1,yai];rw [hj];simp only [yal,yae,f4];unfold Instr.keyThatStays;rw [sameBits_wA];simp only [if_true,Sem.run_pure,Result.andThen_ok,MapKept.run_setObj_map _ e2];rfl
  ·exact h.elim
 ·exact h.elim
end
end
section
open Go.RowKit
section
variable {P:Program} {B:Base} {o:Oper} {σ:St} {K:Fx->Prop}
theorem znc {α:Type} {p:α->Prop}:∀ (ds cs:List α) (i:Nat),(∀ x∈cs,p x)->(∀ x∈ds,p x)->∀ x∈zgq cs i ds,p x
 | [],cs,i,h,_=>h
 | d::ds,cs,i,h,k=>by
  rw [zgq];refine znc ds _ _ (fun x hx=>?_) fun x hx=>k x (by simp [hx]);rcases yct hx with h1 | h1
  ·exact h x h1
  ·rw [h1];exact k d (by simp)
theorem zli (off:Nat):∀ (vs:List Value) (j:Nat) (cells:Array Value),((vs.zipIdx j).foldl (fun cs (p:Value×Nat)=>cs.setIfInBounds (off+p.2) p.1) cells).toList=zgq cells.toList (off+j) vs
 | [],j,cells=>rfl
 | v::vs,j,cells=>by
  rw [List.zipIdx_cons,ycu,zli off vs,zgq,Array.toList_setIfInBounds,yb4]
theorem zlk {w:World} {S:Nat->Prop} {ρ:Ly} {γ:Nat->Nat}:∀ {vs:List Value} {ds:List AV} {us:List Value} {cs:List AV} (i:Nat),Reps w S ρ γ us cs->Reps w S ρ γ vs ds->Reps w S ρ γ (zgq us i vs) (zgq cs i ds)
 | [],[],us,cs,i,h,_=>h
 | v::vs,d::ds,us,cs,i,h,k=>by
  rw [zgq,zgq];refine zlk (i+1) ⟨by simpa using h.1,fun j u x hu hx=>?_⟩ ⟨by simpa using k.1,fun j u x hu hx=>k.2 (j+1) u x (by simpa using hu) (by simpa using hx)⟩;rw [yeg] at hu hx;by_cases e:i=j
  ·rw [if_pos e] at hu hx;split at hu
   ·rename_i h1;rw [if_pos (by rw [<- h.1];exact h1)] at hx;injection hu with hu
    injection hx with hx
    rw [<- hu,<- hx];exact k.2 0 v d rfl rfl
   ·cases hu
  ·rw [if_neg e] at hu hx;exact h.2 j u x hu hx
 | [],_::_,_,_,_,_,h=>by have:=h.1;simp at this
 | _::_,[],_,_,_,_,h=>by have:=h.1;simp at this
theorem plc_get {t:TypeId} {ps:yad} (h:plcOf P t=some ps) {i off ft m:Nat} (hf:fldOf P t i=some (off,ft)) (hm:szOf P ft=some m):ps.toArray[i]?=some (off,m):=by
 obtain ⟨fs,x,hu,hx,ho,ht⟩:=fld_spec hf;unfold plcOf at h;rw [hu] at h;simp only at h
 have key:∀ (l:List Field) (ps:yad),l.mapM (fun f=>(P.info? f.type).map fun i=>(f.offset,i.size))=some ps->∀ (i:Nat) x,l[i]?=some x->∀ m,szOf P x.type=some m->ps[i]?=some (x.offset,m):=by
  intro l
  induction l with
  | nil=>intro ps _ i x hx;simp at hx
  | cons f l ih =>
   intro ps hp i x hx m hm;simp only [List.mapM_cons,Option.bind_eq_bind,Option.pure_def] at hp;cases hi:P.info? f.type with
   | none=>simp [hi] at hp
   | some ii =>
    cases hr:l.mapM (fun f=>(P.info? f.type).map fun i=>(f.offset,i.size)) with
    | none=>simp [hi,hr] at hp
    | some rest =>
     simp [hi,hr] at hp;subst hp;cases i with
     | zero =>
      simp at hx;subst hx;unfold szOf at hm;rw [hi] at hm;simp at hm;simp [hm]
     | succ i=>simpa using ih rest hr i x (by simpa using hx) m hm
 have:=key fs.toList ps h i x (by rw [ya3];exact hx) m (by rw [ht];exact hm);rw [<- ho];simpa using this
theorem zq8 {t:TypeId} {ps:yad} (hps:plcOf P t=some ps) {σ':St} {a:Act} {w:World} {ρ:Ly} (h:SatR B σ' a w ρ):∀ {l:List (Nat×Operand)} {cs cs':List AV} {cells:Array Value},buildA P t σ l cs=some cs'->(∀ y∈opdL (l.map (·.2)),σ' y=σ y) ->
  Reps w (Imm B σ' ρ w) ρ σ'.gn cells.toList cs->(∀ u∈cells.toList,u.oneCell'=true)->∃ cells',Instr.fill (ps.toArray[·]?) cells (l.map fun p=>(p.1,a.eval p.2))=some cells'∧Reps w (Imm B σ' ρ w) ρ σ'.gn cells'.toList cs'∧∀ u∈cells'.toList,u.oneCell'=true
 | [],cs,cs',cells,e,_,hr,h1=>by
  simp only [buildA,zkF] at e;subst e;exact ⟨cells,rfl,hr,h1⟩
 | (i,x)::l,cs,cs',cells,e,hag,hr,h1=>by
  simp only [buildA] at e;split at e
  ·rename_i off ft vs hf hc;split at e
   ·rename_i m hm;split at e
    ·rename_i hchk;rw [ya4] at hchk;have hml:m=vs.length:=by simpa using hchk.1
     have a4:=zfx hchk.2;have hx:=za1 h x;rw [zao fun y hy=>hag y (by simp only [ya1,opdL,ybd];exact yam _ hy)] at hx;have r1:=zgz hc hx;have r2:=zgv hc hx;have a5:(a.eval x).cells.size=m:=by rw [hml,<- r1.1];simp
     have a0:=zli off (a.eval x).cells.toList 0 cells;rw [yca] at a0;generalize a2:((a.eval x).cells.zipIdx.foldl (fun cs (p:Value×Nat)=>cs.setIfInBounds (off+p.2) p.1) cells)=cells1
     have a3:cells1.toList=zgq cells.toList off (a.eval x).cells.toList:=by
      rw [<- a0,<- a2,<- Array.foldl_toList,Array.toList_zipIdx]
     obtain ⟨cells',q1,q2,q3⟩:=zq8 hps h (l:=l) (cells:=cells1) e (fun y hy=>hag y (by simp only [ya1,opdL,ybd];exact yaj _ hy)) (by rw [a3];exact zlk off hr r1) (by rw [a3];exact znc _ _ _ h1 r2);refine ⟨cells',?_,q2,q3⟩;rw [<- q1,<- a2]
     have hg:¬ ((a.eval x).cells.size≠m∨off+(a.eval x).cells.size > cells.size):=by
      have:=hr.1;simp at this;omega
     simp only [ya1,Instr.fill,plc_get hps hf hm];rw [if_neg (by simpa using hg)]
    ·cases e
   ·cases e
  ·cases e
theorem aBuild_ok {t:TypeId} {parts:Array (Nat×Operand)} (hop:o.op=.build t parts) (hd:zco B.n o=true) (h:aBuild P o σ K t parts):∃ fx,K fx∧Eff P B o fx.rd σ fx.wr:=by
 unfold aBuild at h;split at h
 ·rename_i z hz;split at h
  ·rename_i cs a6;obtain ⟨a2,h⟩:=h.ok;rw [ya4] at a2;refine ⟨_,h,Eff.pure hd fun σ' hag a w ρ hs=>?_⟩;obtain ⟨ps,a0⟩:=ye7.1 a2.1
   obtain ⟨it,zv,a5,a3,a4⟩:∃ it zv,P.info? t=some it∧it.zero=some zv∧zv.cells.toList=z:=by
    unfold zeroOf at hz;split at hz
    ·rename_i i hi;cases a3:i.zero with
     | none=>rw [a3] at hz;cases hz
     | some zv =>
      rw [a3] at hz;simp only [yal,zkF] at hz;exact ⟨i,zv,hi,a3,hz⟩
    ·cases hz
   obtain ⟨fs,hu,a7⟩:∃ fs,P.underlying t=some (.struct fs)∧fs.toList.mapM (fun f=>(P.info? f.type).map fun i=>(f.offset,i.size))=some ps:=by
    unfold plcOf at a0;split at a0
    ·rename_i fs hu;exact ⟨fs,hu,a0⟩
    ·cases a0
   obtain ⟨cells',q1,q2,q3⟩:=zq8 a0 hs (cells:=zv.cells) a6 hag (by rw [a4];exact ⟨by simp,fun i u y hu hy=>by
    simp only [yaf,hu,yal,zkF] at hy
    rw [<- hy]
    exact .im _ _ (.val _)⟩) (by rw [a4];exact fun u hu=>ybf.1 a2.2 u hu)
   refine ⟨.agg cells',?_,by simpa using zl8 q2 q3⟩
   have hb:P.built t (parts.map fun (i,x)=>(i,a.eval x)).toList=some cells':=by
    unfold Program.built;simp only [a5,hu,a3,a7,ycj];exact q1
   simp only [execOp,hop,Sem.run_bind,run_build w t _ cells' hb,Result.andThen_ok,Sem.run_pure]
  ·exact h.elim
 ·exact h.elim
theorem zrg {pl:Nat->Option (Nat×Nat)} {σ':St} {a:Act} {w:World} {ρ:Ly} (h:SatR B σ' a w ρ):∀ {l:List (Nat×Operand)} {cs cs':List AV} {cells:Array Value},buildG pl σ l cs=some cs'->(∀ y∈opdL (l.map (·.2)),σ' y=σ y) ->
  Reps w (Imm B σ' ρ w) ρ σ'.gn cells.toList cs->(∀ u∈cells.toList,u.oneCell'=true)->∃ cells',Instr.fill pl cells (l.map fun p=>(p.1,a.eval p.2))=some cells'∧Reps w (Imm B σ' ρ w) ρ σ'.gn cells'.toList cs'∧∀ u∈cells'.toList,u.oneCell'=true
 | [],cs,cs',cells,e,_,hr,h1=>by
  simp only [buildG,zkF] at e;subst e;exact ⟨cells,rfl,hr,h1⟩
 | (i,x)::l,cs,cs',cells,e,hag,hr,h1=>by
  simp only [buildG] at e;split at e
  ·rename_i off m vs hf hc;split at e
   ·rename_i hchk;rw [ya4] at hchk;have hml:m=vs.length:=by simpa using hchk.1
    have a4:=zfx hchk.2;have hx:=za1 h x;rw [zao fun y hy=>hag y (by simp only [ya1,opdL,ybd];exact yam _ hy)] at hx;have r1:=zgz hc hx;have r2:=zgv hc hx;have a5:(a.eval x).cells.size=m:=by rw [hml,<- r1.1];simp
    have a0:=zli off (a.eval x).cells.toList 0 cells;rw [yca] at a0;generalize a2:((a.eval x).cells.zipIdx.foldl (fun cs (p:Value×Nat)=>cs.setIfInBounds (off+p.2) p.1) cells)=cells1
    have a3:cells1.toList=zgq cells.toList off (a.eval x).cells.toList:=by
     rw [<- a0,<- a2,<- Array.foldl_toList,Array.toList_zipIdx]
    obtain ⟨cells',q1,q2,q3⟩:=zrg h (l:=l) (cells:=cells1) e (fun y hy=>hag y (by simp only [ya1,opdL,ybd];exact yaj _ hy)) (by rw [a3];exact zlk off hr r1) (by rw [a3];exact znc _ _ _ h1 r2);refine ⟨cells',?_,q2,q3⟩;rw [<- q1,<- a2]
    have hg:¬ ((a.eval x).cells.size≠m∨off+(a.eval x).cells.size > cells.size):=by
     have:=hr.1;simp at this;omega
    simp only [ya1,Instr.fill,hf];rw [if_neg (by simpa using hg)]
   ·cases e
  ·cases e
theorem aBuildR_ok {t et:TypeId} {n:Nat} {parts:Array (Nat×Operand)} (hop:o.op=.build t parts) (ht:arrOf P t=some (n,et)) (hd:zco B.n o=true) (h:aBuildR P o σ K t et parts):∃ fx,K fx∧Eff P B o fx.rd σ fx.wr:=by
 unfold aBuildR at h;split at h
 ·rename_i z m hz hm;split at h
  ·rename_i cs a5;obtain ⟨a2,h⟩:=h.ok;refine ⟨_,h,Eff.pure hd fun σ' hag a w ρ hs=>?_⟩
   obtain ⟨it,zv,a4,a0,a3⟩:∃ it zv,P.info? t=some it∧it.zero=some zv∧zv.cells.toList=z:=by
    unfold zeroOf at hz;split at hz
    ·rename_i i hi;cases a0:i.zero with
     | none=>rw [a0] at hz;cases hz
     | some zv =>
      rw [a0] at hz;simp only [yal,zkF] at hz;exact ⟨i,zv,hi,a0,hz⟩
    ·cases hz
   obtain ⟨ie,a6,a7⟩:∃ ie,P.info? et=some ie∧ie.size=m:=by
    unfold szOf at hm;cases hi:P.info? et with
    | none=>rw [hi] at hm;cases hm
    | some i =>
     rw [hi] at hm;simp only [yal,zkF] at hm;exact ⟨i,rfl,hm⟩
   obtain ⟨cells',q1,q2,q3⟩:=zrg hs (cells:=zv.cells) a5 hag (by rw [a3];exact ⟨by simp,fun i u y hu hy=>by
    simp only [yaf,hu,yal,zkF] at hy
    rw [<- hy]
    exact .im _ _ (.val _)⟩) (by rw [a3];exact fun u hu=>ybf.1 a2 u hu)
   refine ⟨.agg cells',?_,by simpa using zl8 q2 q3⟩
   have hb:P.built t (parts.map fun (i,x)=>(i,a.eval x)).toList=some cells':=by
    unfold Program.built;simp only [a4,zqf ht,a0,a6,a7,ycj];exact q1
   simp only [execOp,hop,Sem.run_bind,run_build w t _ cells' hb,Result.andThen_ok,Sem.run_pure]
  ·exact h.elim
 ·exact h.elim
theorem aIndexX_ok {t:TypeId} {x i:Operand} (hop:o.op=.index t x i) (hd:zco B.n o=true) (h:aIndexX P o σ K t x i):∃ fx,K fx∧Eff P B o fx.rd σ fx.wr:=by
 unfold aIndexX at h;split at h
 ·rename_i n et cs k j ht a4 hj;split at h
  ·rename_i m a3 hm;obtain ⟨hi,h'⟩:=h.ok;clear h;rw [ya4] at hi;have hn:n=2:=by simpa using hi.1
   have a8:=zfx hi.2;subst hn;have hu:=zqf ht
   have a0:∀ (q:Nat),j=(↑q:Int)->q<2->∀ σ',(∀ l∈opd x++opd i,σ' l=σ l)->∀ a w ρ,SatR B σ' a w ρ->∃ u,(execOp a.eval o).run P w=.ok (.value u) w∧RepA w (Imm B σ' ρ w) ρ σ'.gn u (aggA ((cs.drop (q*m)).take m)):=fun q hq hq2 σ' hag a w ρ hs=>by
    have h1:=za1 hs x;rw [zao (zax hag)] at h1;have h2:=za1 hs i;rw [zao (za8 hag)] at h2;obtain ⟨us,hv,hr,a2⟩:=zlh a4 h1;have a6:=zcf hj h2;have ha:=zo8 a3 w;have hz:=zgj hm w;refine ⟨.agg ((us.drop (q*m)).take m).toArray,?_,zl8 ⟨by simp [hr.1],fun j u y hj a5=>?_⟩ fun u a7=>a2 u (ybn (ybg a7))⟩
    ·have e1:(0:Int)<=j∧j<2:=by omega
     have e2:j.toNat=q:=by omega
     simp [execOp,hop,hv,a6,Instr.index,asIntOf,run_underlying hu,part,ha,hz,e1,e2]
    ·exact hr.2 _ u y (zcp hj).1 (zcp a5).1
   have h:=h'.out;by_cases e:j=0
   ·refine ⟨_,h.1 (zkB e),Eff.pure hd fun σ' hag a w ρ hs=>?_⟩;have:=a0 0 (by omega) (by omega) σ' hag a w ρ hs;simpa using this
   ·obtain ⟨h1,h⟩:=(h.2 (zkA e)).out;refine ⟨_,h,Eff.pure hd fun σ' hag a w ρ hs=>?_⟩;have:=a0 1 (by omega) (by omega) σ' hag a w ρ hs;simpa using this
  ·exact h.elim
 ·exact h.elim
theorem znh {t:TypeId} {k:Nat} (h:szOf P t=some k):∃ b,byteOf P t=some b:=by
 unfold szOf at h;unfold byteOf;cases hi:P.info? t with
 | none=>rw [hi] at h;cases h
 | some i=>exact ⟨i.bytes,rfl⟩
theorem aOp_ok {C:FuncId->List Arg->Rs->Prop} (hC:∀ g xs r,C g xs r->SpX P g xs r) {own:List Nat} (hd:zco B.n o=true) (h:aOp P own o σ K C):∃ fx,K fx∧Eff P B o fx.rd σ fx.wr:=by
 unfold aOp at h;split at h
 ·rename_i x a0;exact aMoves_ok (.inl a0) hd h
 ·rename_i x a0;exact aMoves_ok (.inr a0) hd h
 ·rename_i c x y a0;exact aPick_ok a0 hd h
 ·rename_i t p a0;unfold aLoads at h;split at h
  ·rename_i hp;exact aLoadS_ok a0 hp hd h
  ·rename_i hp;split at h
   ·exact aLoadG_ok a0 hp hd h
   ·split at h
    ·rename_i hw;exact aLoadA_ok a0 hp hw hd h
    ·exact aLoad_ok a0 hd h
  ·exact aLoad_ok a0 hd h
 ·rename_i t p x a0;split at h
  ·rename_i hp;split at h
   ·exact aStoreG_ok a0 hp hd h
   ·exact aStoreE_ok a0 hd hp h
  ·rename_i hp;exact aStoreS_ok a0 hp hd h
  ·exact aStore_ok a0 hd h
 ·rename_i t x a0;exact aBox_ok a0 hd h
 ·rename_i t a0;exact aAllocs_ok a0 hd h
 ·rename_i t p f a0;exact aFieldAddr_ok a0 hd h
 ·rename_i t x f a0;exact aField_ok a0 hd h
 ·rename_i t x i a0;unfold aIndexes at h;split at h
  ·rename_i hx;exact aIndexV_ok a0 hx hd h
  ·rename_i hx;exact aIndexS_ok a0 hx hd h
  ·rename_i hx;split at h
   ·exact aIndexG_ok a0 hx hd h
   ·exact znj a0 hd h
  ·split at h
   ·rename_i ht;exact aIndexA_ok a0 ht hd h
   ·exact znj a0 hd h
 ·rename_i t x lo hi mx a0;cases mx with
  | some m=>exact aSlice3_ok a0 hd h
  | none =>
  replace h:aSlices P o σ K t x lo hi:=h;unfold aSlices at h;split at h
  ·rename_i hx;split at h
   ·split at h
    ·exact aSliceQ_ok a0 hx hd h
    ·exact aSliceV_ok a0 hx hd h
   ·exact aSliceT_ok a0 hx hd h
   ·exact h.elim
  ·exact aSlice_ok a0 hd h
 ·rename_i t parts a0;unfold aBuilds at h;split at h
  ·rename_i ht;exact aBuildR_ok a0 ht hd h
  ·exact aBuild_ok a0 hd h
 ·rename_i t x i a0;exact aIndexX_ok a0 hd h
 ·rename_i t len parts a0;split at h
  ·rename_i d0 b3;split at h
   ·refine aBuildG_ok a0 hd (fun et a7=>?_) h;unfold aBuildG at h;split at h
    ·rename_i d b4 x b2 a5 hp;rw [a7] at a5;injection a5 with a5
     subst a5;split at h
     ·rename_i k r gr hk hx;exact znh hk
     ·exact h.elim
    ·exact h.elim
   ·refine zs5 a0 hd (fun et a7=>?_) h;unfold zj7 at h;split at h
    ·rename_i d b4 b2 a5;rw [a7] at a5;injection a5 with a5
     subst a5;split at h
     ·rename_i k vs bs hk _;exact znh hk
     ·exact h.elim
    ·exact h.elim
  ·exact h.elim
 ·rename_i x i a0;exact aExtract_ok a0 hd h
 ·rename_i op t x y t' a0;unfold aBins at h;split at h
  ·exact aBinS_ok a0 hd h
  ·split at h
   ·rename_i hp;exact aBinN_ok a0 hp hd h
   ·exact aBin_ok a0 hd h
 ·rename_i op t x a0;exact aUn_ok a0 hd h
 ·rename_i src dst x a0;obtain ⟨hm,h⟩:=h.ok;exact aConvert_ok a0 hd (ye7.1 hm) h
 ·rename_i fn first a9 a0;exact aMakeFunc_ok a0 hd h
 ·rename_i x a0;exact aNilCheck_ok a0 hd h
 ·rename_i t len b5 a0;exact aMakeSlice_ok a0 hd h
 ·rename_i t r a0;exact aMakeMap_ok a0 hd h
 ·rename_i t x i ok a0;split at h
  ·rename_i a8;exact aLookupA_ok a0 a8 hd h
  ·exact aLookup_ok a0 hd h
 ·rename_i t x i y a0;split at h
  ·rename_i a8;exact zsq a0 a8 hd h
  ·exact aMapUpdate_ok a0 hd h
 ·rename_i c a0;unfold aCalls at h;split at h
  ·rename_i b a3;unfold aBuiltin at h;split at h
   ·split at h
    ·rename_i x a2;split at h
     ·rename_i t ts a4;unfold aLens at h;split at h
      ·rename_i hx;split at h
       ·rename_i he;exact aLenV_ok a0 a3 a2 a4 he hx hd h
       ·exact h.elim
      ·rename_i hx;split at h
       ·rename_i he;exact aLenS_ok a0 a3 a2 a4 he hx hd h
       ·exact h.elim
      ·rename_i hx;split at h
       ·split at h
        ·rename_i he;exact aLenG_ok a0 a3 a2 a4 he hx hd h
        ·exact h.elim
       ·split at h
        ·rename_i hm hk;exact aLenM_ok a0 a3 a2 a4 hm hx hk hd h
        ·exact aLen_ok a0 a3 a2 a4 hd h
      ·exact aLen_ok a0 a3 a2 a4 hd h
     ·exact h.elim
    ·exact h.elim
   ·split at h
    ·rename_i x y a2;split at h
     ·rename_i t t' a4;obtain ⟨a6,h⟩:=h.ok;have a6:t'=t:=by simpa using a6
      subst a6;split at h
      ·rename_i hx;exact aAppendS_ok a0 a3 (by rw [<- yc8 (xs:=c.args),a2]) (by rw [<- yc8 (xs:=c.argTypes),a4]) hx hd h
      ·split at h
       ·rename_i hy;exact aAppendG_ok a0 a3 (by rw [<- yc8 (xs:=c.args),a2]) (by rw [<- yc8 (xs:=c.argTypes),a4]) hy hd h
       ·exact aAppend_ok a0 a3 (by rw [<- yc8 (xs:=c.args),a2]) (by rw [<- yc8 (xs:=c.argTypes),a4]) hd h
     ·exact h.elim
    ·exact h.elim
   ·split at h
    ·rename_i x y a2;exact aMax_ok a0 a3 a2 hd h
    ·exact h.elim
   ·split at h
    ·rename_i x y a2;exact aMin_ok a0 a3 a2 hd h
    ·rename_i x y z a2;exact aMin3_ok a0 a3 a2 hd h
    ·exact h.elim
   ·split at h
    ·rename_i x t ts a2 a4;exact aClear_ok a0 a3 a2 a4 hd h
    ·exact h.elim
   ·split at h
    ·rename_i x y t t' a2 a4;exact aCopy_ok a0 a3 a2 a4 hd h
    ·exact h.elim
   ·split at h
    ·rename_i x y t t' a2 a4;exact aDelete_ok a0 a3 a2 a4 hd h
    ·exact h.elim
   ·exact h.elim
  ·rename_i f a3;split at h
   ·split at h
    ·exact aCallH_ok hC a0 a3 hd h
    ·split at h
     ·split at h
      ·exact aCallR_ok hC a0 a3 hd h
      ·exact aCallA_ok hC a0 a3 hd h
     ·exact aCall_ok hC a0 a3 hd h
   ·exact h.elim
  ·exact h.elim
 ·exact h.elim
def EffG (P:Program) (B:Base) (ops:Array Oper) (o:Oper) (rd:List Loc) (σ:St) (wr:List (Loc×Ct)):Prop :=
 ∀ σ',(∀ l∈rd,σ' l=σ l)->∀ a w,Sat B σ' a w->∀ (K:Act->World->Prop) (Q:Exit->Act->World->Prop),(∀ a' w',Sat B (app σ' wr) a' w'->K a' w') ->
  if Region.wanted o (yielded ops a.tmps)=true then o.wp P a w K Q else K (a.put o.dst undef) w
theorem aGuard_ok {C:FuncId->List Arg->Rs->Prop} (hC:∀ g xs r,C g xs r->SpX P g xs r) {own:List Nat} {ops:Array Oper} (h:aGuard P C B.n own ops.toList o σ K):∃ fx,K fx∧EffG P B ops o fx.rd σ fx.wr:=by
 unfold aGuard at h;obtain ⟨hd,h⟩:=h.ok;split at h
 ·rename_i hg;obtain ⟨fx,hk,he⟩:=aOp_ok (B:=B) hC hd h;refine ⟨fx,hk,fun σ' hag a w hs K' Q hK=>?_⟩;have:Region.wanted o (yielded ops a.tmps)=true:=by simp [Region.wanted,hg]
  rw [if_pos this];exact he σ' hag a w hs K' Q hK
 ·rename_i j a0 hg;split at h
  ·rename_i t ht;split at h
   ·rename_i b hb
    have hy:∀ σ' a w,σ' (.tmp t)=σ (.tmp t)->Sat B σ' a w->yielded ops a.tmps j=some b:=fun σ' a w hag ⟨ρ,hs⟩=>by
     have h1:=hs.tms t;have e:σ'.av t=σ.av t:=by unfold St.av;rw [hag]
     rw [e] at h1;have h2:=zhn hb h1;have hj:(ops[j]?).bind (·.dst)=some t:=by rw [<- ya3];exact ht
     have a3:a.tmps[t]?=some (.bool b):=by
      rw [yc1] at h2;cases hc:a.tmps[t]? with
      | none=>rw [hc] at h2;cases h2
      | some v=>rw [hc] at h2;simp only [yae] at h2;rw [h2]
     unfold yielded;rw [hj];simp only [ybt,a3]
    have hw:∀ σ' a w,σ' (.tmp t)=σ (.tmp t)->Sat B σ' a w->Region.wanted o (yielded ops a.tmps)=(b==a0):=fun σ' a w hag hs=>by
     simp only [Region.wanted,hg,hy σ' a w hag hs];cases b<;>cases a0<;>rfl
    have h:=h.out;cases hbw:(b==a0) with
    | true =>
     obtain ⟨fx,hk,he⟩:=aOp_ok (B:=B) hC hd (h.1 hbw);refine ⟨_,hk,fun σ' hag a w hs K' Q hK=>?_⟩;rw [if_pos (by rw [hw σ' a w (hag _ (by simp)) hs];exact hbw)];exact he σ' (fun l hl=>hag l (by simp [hl])) a w hs K' Q hK
    | false =>
     refine ⟨_,h.2 hbw,fun σ' hag a w hs K' Q hK=>?_⟩;rw [if_neg (by rw [hw σ' a w (hag _ (by simp)) hs,hbw];simp)];obtain ⟨ρ,hs⟩:=hs;exact hK _ _ ⟨ρ,hs.put (zka hd) (zcx _)⟩
   ·split at h
    ·rename_i v hv;obtain ⟨a2,h⟩:=h.ok
     have hw:∀ σ' a w,σ' (.tmp t)=σ (.tmp t)->Sat B σ' a w->Region.wanted o (yielded ops a.tmps)=false:=fun σ' a w hag ⟨ρ,hs⟩=>by
      have h1:=hs.tms t;have e:σ'.av t=σ.av t:=by unfold St.av;rw [hag]
      rw [e,hv] at h1;have h2:=h1.im_inv;have hj:(ops[j]?).bind (·.dst)=some t:=by rw [<- ya3];exact ht
      have hy:yielded ops a.tmps j=none:=by
       unfold yielded;rw [hj];simp only [ybt];cases hc:a.tmps[t]? with
       | none=>rfl
       | some u =>
        have e2:a.tmps.getD t undef=u:=by rw [yc1,hc];rfl
        rw [e2] at h2;obtain rfl:u=v:=by cases h2;rfl
        cases u<;>first | rfl | (cases a2)
      simp only [Region.wanted,hg,hy];rfl
     refine ⟨_,h,fun σ' hag a w hs K' Q hK=>?_⟩;rw [if_neg (by rw [hw σ' a w (hag _ (by simp)) hs];simp)];obtain ⟨ρ,hs⟩:=hs;exact hK _ _ ⟨ρ,hs.put (zka hd) (zcx _)⟩
    ·exact h.elim
  ·exact h.elim
end
inductive Runs (P:Program) (B:Base) (ops:Array Oper):List Nat->St->List (Nat×Fx)->St->Prop
 | nil (σ:St):Runs P B ops [] σ [] σ
 | cons (i:Nat) (o:Oper) (l:List Nat) (σ σ':St) (fx:Fx) (fs:List (Nat×Fx)) (ho:ops[i]?=some o) (he:EffG P B ops o fx.rd σ fx.wr) (h:Runs P B ops l (app σ fx.wr) fs σ'):Runs P B ops (i::l) σ ((i,fx)::fs) σ'
section
variable {P:Program} {B:Base} {ops:Array Oper}
theorem aOps_runs {C:FuncId->List Arg->Rs->Prop} (hC:∀ g xs r,C g xs r->SpX P g xs r) {own:List Nat}:∀ (l:List Oper) (k:Nat) (fs0:List Mk) (σ:St) (K:List Mk->St->Prop),(∀ j,l[j]?=ops[k+j]?) ->
  aOps P C B.n own ops.toList l fs0 σ K->∃ fs σ',Runs P B ops (List.range' k l.length) σ fs σ'∧K (fs0++fs.map fun p=>fxm p.2) σ'
 | [],k,fs0,σ,K,_,h=>⟨[],σ,.nil σ,by simpa [aOps] using h⟩
 | o::l,k,fs0,σ,K,hl,h=>by
  simp only [aOps] at h;obtain ⟨fx,h2,he⟩:=aGuard_ok (B:=B) hC h;rw [frcF_eq] at h2;obtain ⟨fs,σ',hr,hk⟩:=aOps_runs hC l (k+1) (fs0++[fxm fx]) (app σ fx.wr) K (fun j=>by have:=hl (j+1);simpa [yb4,ydf 1 j] using this) h2;have ho:ops[k]?=some o:=by have:=hl 0;simpa using this.symm
  refine ⟨(k,fx)::fs,σ',?_,by simpa using hk⟩;rw [zkL,List.range'_succ];exact .cons k o _ σ σ' fx fs ho he hr
theorem wanted_wp {o:Oper} {i:Nat} (ho:ops[i]?=some o) {a:Act} {w:World} {K:Act->World->Prop} {Q:Exit->Act->World->Prop} (h:if Region.wanted o (yielded ops a.tmps)=true then o.wp P a w K Q else K (a.put o.dst undef) w):wpOp P ops Q i K a w:=by
 unfold wpOp;simp only [ho];split
 ·rename_i hw;rw [if_pos hw] at h;exact .inl h
 ·rename_i hw;rw [if_neg hw] at h;exact h
theorem runs_wp {l:List Nat} {σ σ':St} {fs:List (Nat×Fx)} (h:Runs P B ops l σ fs σ'):∀ {a:Act} {w:World} {Q:Exit->Act->World->Prop},Sat B σ a w->(∀ a' w',Sat B σ' a' w'->Q .normal a' w')->wpOps P ops Q l a w:=by
 induction h with
 | nil σ=>intro a w Q hs hQ;exact hQ a w hs
 | cons i o l σ σ' fx fs ho he hr ih =>
  intro a w Q hs hQ;rw [wpOps_cons];exact wanted_wp ho (he σ (fun _ _=>rfl) a w hs _ Q fun a' w' a0=>ih a0 hQ)
theorem zjx {σ:St} {l:Loc}:∀ {wr:List (Loc×Ct)},(∀ p∈wr,p.1≠l)->(app σ wr) l=σ l:=by
 intro wr
 induction wr generalizing σ with
 | nil=>intro _;rfl
 | cons p wr ih =>
  intro h;show (app (upd σ p.1 p.2) wr) l=σ l;rw [ih fun q hq=>h q (yay _ hq)];rw [zej,if_neg (fun e=>h p ybr e.symm)]
theorem app_in {l:Loc}:∀ {wr:List (Loc×Ct)} {σ τ:St},(∃ p∈wr,p.1=l)->(app σ wr) l=(app τ wr) l:=by
 intro wr
 induction wr with
 | nil=>intro σ τ h;obtain ⟨p,hp,_⟩:=h;cases hp
 | cons p wr ih =>
  intro σ τ h;show (app (upd σ p.1 p.2) wr) l=(app (upd τ p.1 p.2) wr) l;by_cases hw:∃ q∈wr,q.1=l
  ·exact ih hw
  ·have hn:∀ q∈wr,q.1≠l:=fun q hq e=>hw ⟨q,hq,e⟩;rw [zjx hn,zjx hn];obtain ⟨q,hq,e⟩:=h;rcases yba.1 hq with rfl | hq
   ·rw [zej,zej,if_pos e.symm,if_pos e.symm]
   ·exact absurd e (hn q hq)
theorem app_comm {u v:List (Loc×Ct)} (h:∀ p∈u,∀ q∈v,p.1≠q.1) (σ:St):app (app σ u) v=app (app σ v) u:=by
 funext l;by_cases hu:∃ p∈u,p.1=l
 ·have hv:∀ q∈v,q.1≠l:=fun q hq e=>by
   obtain ⟨p,hp,e'⟩:=hu;exact h p hp q hq (e'.trans e.symm)
  rw [zjx hv];exact app_in hu
 ·have hn:∀ p∈u,p.1≠l:=fun p hp e=>hu ⟨p,hp,e⟩;rw [zjx (σ:=app σ v) hn];by_cases hv:∃ q∈v,q.1=l
  ·exact app_in hv
  ·have hm:∀ q∈v,q.1≠l:=fun q hq e=>hv ⟨q,hq,e⟩;rw [zjx hm,zjx hm,zjx hn]
theorem bit1_eq (m:Nat) (l:Loc):bit1 m l=Nat.lor m (Nat.pow 2 l.code):=by unfold bit1;rw [p2_eq];rfl
theorem bit1_old (m:Nat) (l:Loc) (i:Nat) (h:m.testBit i=true):(bit1 m l).testBit i=true:=by
 rw [bit1_eq];show (m ||| 2^l.code).testBit i=true
 rw [yev,h,Bool.true_or]
theorem bit1_new (m:Nat) (l:Loc):(bit1 m l).testBit l.code=true:=by
 rw [bit1_eq];show (m ||| 2^l.code).testBit l.code=true
 rw [yev,Nat.testBit_two_pow_self,Bool.or_true]
theorem mskR_old (ls:List Loc):∀ (m i:Nat),m.testBit i=true->(mskR ls m).testBit i=true:=by
 induction ls with
 | nil=>intro m i h;exact h
 | cons l r ih=>intro m i h;exact ih _ i (bit1_old m l i h)
theorem mskR_mem {l:Loc} (ls:List Loc):∀ (m:Nat),l∈ls->(mskR ls m).testBit l.code=true:=by
 induction ls with
 | nil=>intro m h;cases h
 | cons l' r ih =>
  intro m h;rcases yba.1 h with rfl | h
  ·exact mskR_old r _ _ (bit1_new m l)
  ·exact ih _ h
theorem mskW_eq (ps:List (Loc×Ct)):∀ m:Nat,mskW ps m=mskR (ps.map (·.1)) m:=by
 induction ps with
 | nil=>intro m;rfl
 | cons p r ih=>intro m;exact ih _
theorem zow {a b i:Nat} (h:Nat.land a b=0) (ha:a.testBit i=true) (hb:b.testBit i=true):False:=by
 have:(a &&& b).testBit i=true:=by rw [Nat.testBit_and,ha,hb];rfl
 rw [show a &&& b=0 from h,Nat.zero_testBit] at this;cases this
theorem indep_spec {f g:Fx} (h:indep f g=true):(∀ p∈f.wr,p.1∉g.rd)∧(∀ p∈f.wr,∀ q∈g.wr,p.1≠q.1)∧∀ p∈g.wr,p.1∉f.rd:=by
 unfold indep indepM at h;have h:=yav h;obtain ⟨a2,h3⟩:=Nat.or_eq_zero_iff.1 (show (Nat.lor (Nat.land (fxm f).2 (fxm g).1) (Nat.land (fxm f).2 (fxm g).2)) ||| Nat.land (fxm g).2 (fxm f).1=0 from h);obtain ⟨h1,h2⟩:=Nat.or_eq_zero_iff.1 (show Nat.land (fxm f).2 (fxm g).1 ||| Nat.land (fxm f).2 (fxm g).2=0 from a2)
 have wm:∀ (f:Fx) p,p∈f.wr->(fxm f).2.testBit p.1.code=true:=fun f p hp=>by
  show (mskW f.wr 0).testBit _=true;rw [mskW_eq];exact mskR_mem _ 0 (yao.2 ⟨p,hp,rfl⟩)
 have rm:∀ (f:Fx) l,l∈f.rd->(fxm f).1.testBit l.code=true:=fun f l hl=>mskR_mem _ 0 hl;exact ⟨fun p hp hc=>zow h1 (wm f p hp) (rm g _ hc),fun p hp q hq e=>zow h2 (wm f p hp) (e ▸ wm g q hq),fun p hp hc=>zow h3 (wm g p hp) (rm f _ hc)⟩
theorem EffG.agree {o:Oper} {σ σ1:St} {fx:Fx} (h:EffG P B ops o fx.rd σ fx.wr) (hag:∀ l∈fx.rd,σ1 l=σ l):EffG P B ops o fx.rd σ1 fx.wr :=
 fun σ' hag' a w hs K Q hK=>h σ' (fun l hl=>(hag' l hl).trans (hag l hl)) a w hs K Q hK
theorem runs_front {l:List Nat} {σ σ':St} {fs:List (Nat×Fx)} (h:Runs P B ops l σ fs σ') {i:Nat}:∀ {pre post:List (Nat×Fx)} {fx:Fx},fs=pre++(i,fx)::post->(∀ p∈pre,indep p.2 fx=true) ->
  ∃ l',Runs P B ops (i::l') σ ((i,fx)::(pre++post)) σ':=by
 induction h with
 | nil σ=>intro pre post fx e _;simp at e
 | cons j o l σ σ' fj fs ho he hr ih =>
  intro pre post fx e hp;cases pre with
  | nil =>
   simp only [ycn,List.cons.injEq,zkG] at e;obtain ⟨⟨rfl,rfl⟩,rfl⟩:=e;exact ⟨l,.cons j o l σ σ' fj fs ho he hr⟩
  | cons p pre =>
   simp only [yc5,List.cons.injEq] at e;obtain ⟨rfl,e⟩:=e;obtain ⟨l',a3⟩:=ih e fun q hq=>hp q (yay _ hq);obtain ⟨h1,h2,h3⟩:=indep_spec (hp (j,fj) ybr);cases a3 with
   | cons _ oi _ _ _ _ _ hoi hei hr2 =>
    have a2:EffG P B ops oi fx.rd σ fx.wr:=hei.agree fun l hl=>(zjx fun p hp e=>h1 p hp (e ▸ hl)).symm;have a0:EffG P B ops o fj.rd (app σ fx.wr) fj.wr:=he.agree fun l hl=>zjx fun p hp e=>h3 p hp (e ▸ hl);refine ⟨j::l',.cons i oi _ σ σ' fx _ hoi a2 (.cons j o _ _ σ' fj _ ho a0 ?_)⟩;rw [<- app_comm h2];exact hr2
end
end
section
open Go.RowKit
theorem befStep_spec {acc:List Nat} {o:Oper} {j:Nat} (h:(zna acc o).testBit j=true):∃ e∈o.after.toList,Region.binds .any e=true∧(j=e.on∨(acc.getD e.on 0).testBit j=true):=by
 unfold zna at h
 have key:∀ (l:List Edge) (s:Nat),(l.foldl (fun s e=>if Region.binds .any e=true then s ||| 2^e.on ||| acc.getD e.on 0 else s) s).testBit j=true ->
   s.testBit j=true∨∃ e∈l,Region.binds .any e=true∧(j=e.on∨(acc.getD e.on 0).testBit j=true):=by
  intro l
  induction l with
  | nil=>intro s h;exact .inl h
  | cons e l ih =>
   intro s h;rw [ycu] at h;rcases ih _ h with h1 | ⟨e',he',h2⟩
   ·by_cases hb:Region.binds .any e=true
    ·rw [if_pos hb,yev,yev,yer,yer] at h1;rcases h1 with (h1 | h1) | h1
     ·exact .inl h1
     ·rw [Nat.testBit_two_pow] at h1;exact .inr ⟨e,by simp,hb,.inl (of_decide_eq_true h1).symm⟩
     ·exact .inr ⟨e,by simp,hb,.inr h1⟩
    ·rw [if_neg hb] at h1;exact .inl h1
   ·exact .inr ⟨e',by simp [he'],h2⟩
 rcases key _ 0 h with h1 | h1
 ·simp at h1
 ·exact h1
theorem befs_spec (ops:List Oper):∀ (i:Nat) (o:Oper),ops[i]?=some o->∀ j,((befs ops).getD i 0).testBit j=true->∃ e∈o.after.toList,Region.binds .any e=true∧(j=e.on∨((befs ops).getD e.on 0).testBit j=true):=by
 have key:∀ (rest a0:List Oper) (acc:List Nat),acc.length=a0.length->(∀ (i:Nat) (o:Oper),a0[i]?=some o->∀ j,(acc.getD i 0).testBit j=true->∃ e∈o.after.toList,Region.binds .any e=true∧(j=e.on∨(acc.getD e.on 0).testBit j=true)) ->
   (∀ (i:Nat) (o:Oper),(a0++rest)[i]?=some o->∀ j,((rest.foldl (fun acc o=>acc++[zna acc o]) acc).getD i 0).testBit j=true->∃ e∈o.after.toList,Region.binds .any e=true∧(j=e.on∨((rest.foldl (fun acc o=>acc++[zna acc o]) acc).getD e.on 0).testBit j=true)):=by
  intro rest
  induction rest with
  | nil=>intro a0 acc _ h;simpa using h
  | cons o rest ih =>
   intro a0 acc hl h;have e:a0++o::rest=(a0++[o])++rest:=by simp
   rw [e]
   have grow:∀ p j,(acc.getD p 0).testBit j=true->((acc++[zna acc o]).getD p 0).testBit j=true:=fun p j hj=>by
    by_cases hp:p<acc.length
    ·rw [ybs,ya0,if_pos hp,<- ybs];exact hj
    ·rw [ybs,yaq (by omega)] at hj;simp at hj
   refine ih (a0++[o]) (acc++[zna acc o]) (by simp [hl]) fun i o' a2 j hj=>?_;rw [ya0] at a2;split at a2
   ·rename_i hi;rw [ybs,ya0,if_pos (by omega),<- ybs] at hj;obtain ⟨e1,h1,h2,h3⟩:=h i o' a2 j hj;exact ⟨e1,h1,h2,h3.imp id (grow _ _)⟩
   ·rename_i hi
    have a3:i=acc.length:=by
     have:=(zkI.1 a2).1;simp at this;omega
    subst a3;have:o'=o:=by simpa [hl] using a2.symm
    subst this;rw [ybs,ya0,if_neg (by omega)] at hj;simp at hj;obtain ⟨e1,h1,h2,h3⟩:=befStep_spec hj;exact ⟨e1,h1,h2,h3.imp id (grow _ _)⟩
 intro i o ho j hj;exact key ops [] [] rfl (by simp) i o (by simpa using ho) j hj
theorem zps {bs:List Nat} {f:Mk} {i:Nat}:∀ {fs:List Mk} {j:Nat},drawRow bs f i j fs=true->∀ (k:Nat) g,fs[k]?=some g->indepM f g=true∨(bs.getD (j+k) 0).testBit i=true
 | [],j,_,k,g,h=>by simp at h
 | g0::fs,j,h,k,g,hg=>by
  simp only [drawRow,ya4,yer] at h;cases k with
  | zero=>simp at hg;subst hg;exact h.1
  | succ k =>
   have:=zps h.2 k g (by simpa using hg);rw [show j+1+k=j+(k+1) from by omega] at this;exact this
theorem zph {bs:List Nat}:∀ {fs:List Mk} {i:Nat},zsa bs i fs=true->∀ (p q:Nat) f g,p<q->fs[p]?=some f->fs[q]?=some g->indepM f g=true∨(bs.getD (i+q) 0).testBit (i+p)=true
 | [],i,_,p,q,f,g,_,hf,_=>by simp at hf
 | f0::fs,i,h,p,q,f,g,hpq,hf,hg=>by
  simp only [zsa,ya4] at h;cases q with
  | zero=>omega
  | succ q =>
   cases p with
   | zero =>
    simp at hf;subst hf;have:=zps h.1 q g (by simpa using hg);rw [show i+1+q=i+(q+1) from by omega] at this;exact this
   | succ p =>
    have:=zph h.2 p q f g (by omega) (by simpa using hf) (by simpa using hg);rw [show i+1+q=i+(q+1) from by omega,show i+1+p=i+(p+1) from by omega] at this;exact this
theorem zqv:∀ {l:List Oper} {i:Nat},edgeOk i l=true->∀ (k:Nat) o,l[k]?=some o->∀ e∈o.after.toList,Region.binds .any e=true->e.on<i+k
 | [],i,_,k,o,h=>by simp at h
 | o0::l,i,h,k,o,ho=>by
  simp only [edgeOk,ya4,ybf,yer,ydu] at h;cases k with
  | zero =>
   simp at ho;subst ho;intro e he hb;rcases h.1 e he with h1 | h1
   ·rw [hb] at h1;cases h1
   ·exact zed h1
  | succ k =>
   intro e he hb;have:=zqv h.2 k o (by simpa using ho) e he hb;omega
section
variable {P:Program} {B:Base} {ops:Array Oper}
theorem runs_idx {l:List Nat} {σ σ':St} {fs:List (Nat×Fx)} (h:Runs P B ops l σ fs σ'):fs.map (·.1)=l∧∀ i∈l,i<ops.size:=by
 induction h with
 | nil σ=>exact ⟨rfl,by simp⟩
 | cons i o l σ σ' fx fs ho he hr ih =>
  refine ⟨by simp [ih.1],fun j hj=>?_⟩;rcases yba.1 hj with rfl | hj
  ·exact (yb7.1 ho).1
  ·exact ih.2 j hj
def Apart (ops:Array Oper) (fs:List (Nat×Fx)):Prop :=
 fs.Pairwise fun p q=>indep p.2 q.2=true∨((befs ops.toList).getD q.1 0).testBit p.1=true
theorem getD_two {l:Array Bool} {i:Nat} (h:i<l.size) (d d':Bool):l.getD i d=l.getD i d':=by simp [h]
theorem runs_any {Q:Exit->Act->World->Prop} (hed:edgeOk 0 ops.toList=true):∀ (fuel:Nat) (listed:Array Bool) (l:List Nat) (σ σ':St) (fs:List (Nat×Fx)) (a:Act) (w:World),listed.size=ops.size->l.length=fuel->(∀ i,i∈l↔listed.getD i true=false) ->
  (∀ k o,ops[k]?=some o->listed.getD k false=true->∀ j,((befs ops.toList).getD k 0).testBit j=true->listed.getD j false=true)->Apart ops fs->l.Pairwise (·<·)->Runs P B ops l σ fs σ'->Sat B σ a w->(∀ a' w',Sat B σ' a' w'->Q .normal a' w') ->
  wpAny P .any ops Q fuel listed a w
 | 0,listed,l,σ,σ',fs,a,w,hsz,hlen,hmem,hdn,hap,hnd,hr,hs,hQ=>by
  have hl:l=[]:=yau hlen;subst hl;cases hr with
  | nil _ =>
   refine ⟨?_,hQ a w hs⟩;rw [List.eq_nil_iff_forall_not_mem];intro i hi;exact absurd ((hmem i).2 (mem_ready.1 hi).1) (by simp)
 | fuel+1,listed,l,σ,σ',fs,a,w,hsz,hlen,hmem,hdn,hap,hnd,hr,hs,hQ=>by
  obtain ⟨hidx,hlt⟩:=runs_idx hr
  have hon:∀ i o,ops[i]?=some o->∀ e∈o.after.toList,Region.binds .any e=true->e.on<i:=fun i o ho e he hb=>by
   have:=zqv hed i o (by rw [ya3];exact ho) e he hb;omega
  refine ⟨fun hnil=>?_,fun i hi=>?_⟩
  ·exfalso;cases l with
   | nil=>simp at hlen
   | cons i l =>
    have hi:=hlt i (by simp)
    have hrd:i∈Region.ready .any ops listed:=by
     rw [mem_ready];refine ⟨(hmem i).1 (by simp),ops[i],yc6 hi,fun e he hb=>?_⟩;have h1:=hon i ops[i] (yc6 hi) e (by simpa using he) hb
     have h2:e.on∉i::l:=fun hm=>by
      rcases yba.1 hm with h | h
      ·omega
      ·have:=(yb5.1 hnd).1 _ h;omega
     rw [getD_two (by omega) false true];cases hc:listed.getD e.on true with
     | true=>rfl
     | false=>exact absurd ((hmem _).2 hc) h2
    rw [hnil] at hrd;cases hrd
  ·obtain ⟨c0,o,ho,b4⟩:=mem_ready.1 hi;have a7:i∈l:=(hmem i).2 c0;have a6:=hlt i a7
   have a8:∀ j,((befs ops.toList).getD i 0).testBit j=true->listed.getD j false=true:=fun j hj=>by
    obtain ⟨e,he,hb,h1⟩:=befs_spec ops.toList i o (by rw [ya3];exact ho) j hj;have hl:=b4 e (by simpa using he) hb;have c6:=hon i o ho e he hb;rcases h1 with rfl | h1
    ·exact hl
    ·exact hdn e.on ops[e.on] (yc6 (by omega)) hl j h1
   obtain ⟨a0,fx,post,a3⟩:∃ a0 fx post,fs=a0++(i,fx)::post:=by
    rw [<- hidx] at a7;obtain ⟨p,hp,e⟩:=yao.1 a7;obtain ⟨a0,post,b7⟩:=List.append_of_mem hp;exact ⟨a0,p.2,post,by rw [b7,<- e]⟩
   have b2:∀ p∈a0,indep p.2 fx=true:=fun p hp=>by
    unfold Apart at hap;rw [a3,yet] at hap;rcases hap.2.2 p hp (i,fx) ybr with h1 | h1
    ·exact h1
    ·have h2:=a8 p.1 h1;have a9:p.1∈l:=by rw [<- hidx,a3];exact yao.2 ⟨p,yam _ hp,rfl⟩
     have h3:=(hmem p.1).1 a9;rw [getD_two (by rw [hsz];exact hlt _ a9) true false,h2] at h3;cases h3
   obtain ⟨l',b5⟩:=runs_front hr a3 b2;have a2:=(runs_idx b5).1;simp only [ya1,List.cons.injEq,true_and] at a2;have a4:l=a0.map (·.1)++i::post.map (·.1):=by rw [<- hidx,a3];simp
   have a5:l'=a0.map (·.1)++post.map (·.1):=by rw [<- a2];simp
   have b3:List.Sublist l' l:=by
    rw [a4,a5];exact List.Sublist.append (List.Sublist.refl _) (ydr _ _)
   have b6:i∉l':=by
    rw [a4,yet] at hnd;obtain ⟨_,h2,h3⟩:=hnd;rw [a5,yak];rintro (h | h)
    ·have:=h3 i h i (by simp);omega
    ·have:=(yb5.1 h2).1 i h;omega
   cases b5 with
   | cons _ oi _ _ _ _ _ hoi hei hr2 =>
    refine wanted_wp hoi (hei σ (fun _ _=>rfl) a w hs _ Q fun a' w' b8=>?_);refine runs_any hed fuel (listed.setIfInBounds i true) l' _ σ' (a0++post) a' w' (by simp [hsz]) ?_ (fun j=>?_) (fun k ok b9 hk j hj=>?_) ?_ (hnd.sublist b3) hr2 b8 hQ
    ·rw [a4] at hlen;rw [a5];simp at hlen ⊢;omega
    ·by_cases e:j=i
     ·subst e;constructor
      ·intro h;exact absurd h b6
      ·intro h;rw [getD_two (by simp [hsz];exact a6) true false,show (listed.setIfInBounds j true).getD j false=true by simp [hsz,a6]] at h;cases h
     ·rw [getD_set_ne true (Ne.symm e),<- hmem j,a4,a5];simp [e]
    ·by_cases e:k=i
     ·subst e;exact getD_set_true (a8 j hj)
     ·rw [getD_set_ne false (Ne.symm e)] at hk;exact getD_set_true (hdn k ok b9 hk j hj)
    ·unfold Apart at hap ⊢;rw [a3] at hap;exact hap.sublist (List.Sublist.append (List.Sublist.refl _) (ydr _ _))
theorem apart_of {fs:List (Nat×Fx)} {n:Nat} (hidx:fs.map (·.1)=List.range n) (h:zsa (befs ops.toList) 0 (fs.map fun p=>fxm p.2)=true):Apart ops fs:=by
 unfold Apart;rw [yb1];intro p q hp hq a0;have h1:=zph h p q (fxm fs[p].2) (fxm fs[q].2) a0 (by simp [hp]) (by simp [hq])
 have idx:∀ r (hr:r<fs.length),fs[r].1=r:=fun r hr=>by
  have:(fs.map (·.1))[r]?=some fs[r].1:=by simp [hr]
  rw [hidx] at this;have a2:fs.length=n:=by have:=congrArg List.length hidx;simpa using this
  rw [ybh (by omega)] at this;injection this with this
  exact this.symm
 rw [idx p hp,idx q hq];unfold indep;simpa only [yai] using h1
theorem aRegion_ok (hm:P.follows .mixedOrders=true) {C:FuncId->List Arg->Rs->Prop} (hC:∀ g xs r,C g xs r->SpX P g xs r) {own:List Nat} {id:Nat} {draw:Bool} {σ:St} {K:Exit->St->Prop}
  (h:aOps P C B.n own ops.toList ops.toList [] σ fun fs σ'=>Chk (!draw||drawOk ops.toList fs) (K .normal σ')) {a:Act} {w:World} (hs:Sat B σ a w) {Q:Exit->Act->World->Prop} (hQ:∀ e σ' a' w',K e σ'->Sat B σ' a' w'->Q e a' w'):(Code.region id ops draw).wp P Q a w:=by
 obtain ⟨fs,σ',hr,hk⟩:=aOps_runs (B:=B) (ops:=ops) hC ops.toList 0 [] σ _ (fun j=>by simp) h;rw [<- List.range_eq_range'] at hr;rw [ycn] at hk;obtain ⟨a0,a5⟩:=hk.ok;have a3:ops.toList.length=ops.size:=by simp
 rw [a3] at hr;cases draw with
 | false=>exact wp_region (runs_wp hr hs fun a' w' a2=>hQ .normal σ' a' w' a5 a2)
 | true =>
  simp only [yb8,yej] at a0;unfold drawOk at a0;rw [ya4] at a0;refine wp_region_any hm ?_;have a4:=(runs_idx hr).1;refine runs_any a0.1 ops.size (Array.replicate ops.size false) (List.range ops.size) σ σ' fs a _ (by simp) (by simp) (fun i=>?_) (fun k o ho hk=>?_) (apart_of a4 a0.2) List.pairwise_lt_range hr ?_ fun a' w' a2=>hQ .normal σ' a' w' a5 a2
  ·by_cases h:i<ops.size
   ·simp [h]
   ·simp [h]
  ·have:k<ops.size:=(yb7.1 ho).1;simp [this] at hk
  ·obtain ⟨ρ,hs⟩:=hs;exact ⟨ρ,(hs.world (w':={ w with drawn:=w.drawn+1 }) ⟨rfl,rfl,rfl,yap _,fun _ _=>rfl⟩).1⟩
end
end
section
open Go.RowKit
theorem least {p:Nat->Prop} (h:∃ m,p m):∃ m,p m∧∀ k,p k->m<=k:=by
 obtain ⟨m,hm⟩:=h
 induction m using Nat.strongRecOn with
 | _ m ih =>
  by_cases hk:∃ k,k<m∧p k
  ·obtain ⟨k,h1,h2⟩:=hk;exact ih k h1 h2
  ·exact ⟨m,hm,fun k hp=>by
    rcases yat k m with h1 | h1
    ·exact absurd ⟨k,h1,hp⟩ hk
    ·exact h1⟩
section
variable {P:Program} {B:Base}
theorem zb5.out {body:(Exit->St->Prop)->St->Prop} {K:Exit->St->Prop} {σ:St} (h:zb5 body K σ) :
  ∃ (I:Nat->St->Prop) (m:Nat),I m σ∧∀ m σ,I m σ->∃ σ1 φ,Ent σ σ1∧Holds σ1 φ∧(φ->body (fun e σ'=>match e with | .normal=>∃ m',m'<m∧I m' σ' | e=>K e σ') σ1):=by
 unfold zb5 at h;exact h
open Classical in
theorem loop_ok {body:Code} {K:Exit->St->Prop} {σ:St} {f:(Exit->St->Prop)->St->Prop} (h:zb5 f K σ)
  (hbody:∀ (K':Exit->St->Prop) (σ:St),f K' σ->∀ a w,Sat B σ a w->∀ Q:Exit->Act->World->Prop,(∀ e σ' a' w',K' e σ'->Sat B σ' a' w'->Q e a' w')->body.wp P Q a w)
  {a:Act} {w:World} (hs:Sat B σ a w) {Q:Exit->Act->World->Prop} (hQ:∀ e σ' a' w',K e σ'->Sat B σ' a' w'->Q e a' w'):(Code.loop body).wp P Q a w:=by
 obtain ⟨I,m0,h0,hI⟩:=h.out
 let L:Act->World->Nat->Prop:=fun a w m=>∃ σ,I m σ∧Sat B σ a w
 let μ:Act->World->Nat:=fun a w=>if h:∃ m,L a w m then Classical.choose (least h) else 0
 refine wp_loop (fun a w=>∃ m,L a w m) μ ⟨m0,σ,h0,hs⟩ fun a w hL=>?_;obtain ⟨h1,h2⟩:=ydw (least hL);have hμ:μ a w=Classical.choose (least hL):=by simp only [μ];rw [dif_pos hL]
 generalize hm:Classical.choose (least hL)=m at h1 h2 hμ;obtain ⟨σ1,hσ1,a5⟩:=h1;obtain ⟨σ2,φ,a2,hφ,hb⟩:=hI m σ1 hσ1;have a3:=a2 B a w a5;refine hbody _ σ2 (hb (hφ B a w a3)) a w a3 _ fun e σ' a' w' hk hs'=>?_;cases e with
 | normal =>
  obtain ⟨m',a6,a4⟩:=hk;have a0:∃ m,L a' w' m:=⟨m',σ',a4,hs'⟩;refine ⟨a0,?_⟩;have h3:=(ydw (least a0)).2 m' ⟨σ',a4,hs'⟩;have hμ':μ a' w'=Classical.choose (least a0):=by simp only [μ];rw [dif_pos a0]
  rw [hμ',hμ];omega
 | exit id=>exact hQ _ σ' a' w' hk hs'
 | goto l=>exact hQ _ σ' a' w' hk hs'
 | ret=>exact hQ _ σ' a' w' hk hs'
 | panic ch=>exact hQ _ σ' a' w' hk hs'
 | outgrown=>exact hQ _ σ' a' w' hk hs'
theorem zfw (hm:P.follows .mixedOrders=true) {C:FuncId->List Arg->Rs->Prop} (hC:∀ g xs r,C g xs r->SpX P g xs r) {own:List Nat}:∀ (c:Code) (K:Exit->St->Prop) (σ:St),zkm P C B.n own c K σ->∀ a w,Sat B σ a w->∀ Q:Exit->Act->World->Prop,
  (∀ e σ' a' w',K e σ'->Sat B σ' a' w'->Q e a' w')->c.wp P Q a w
 | .skip,K,σ,h,a,w,hs,Q,hQ=>wp_skip (hQ .normal σ a w h hs)
 | .region id ops draw,K,σ,h,a,w,hs,Q,hQ=>aRegion_ok hm hC (id:=id) h hs hQ
 | .seq x y,K,σ,h,a,w,hs,Q,hQ=>by
  simp only [zkm] at h;split at h
  case h_2 =>
   obtain ⟨Post,h1,h2⟩:=h.out;refine wp_seq (zfw hm hC x _ σ h1 a w hs _ fun e σ' a' w' hk hs'=>?_);cases e with
   | normal =>
    obtain ⟨σ1,he,hp⟩:=hk;obtain ⟨φ,hφ,h3⟩:=h2 σ1 hp;have hs1:=he B a' w' hs';exact zfw hm hC y K σ1 (h3 (hφ B a' w' hs1)) a' w' hs1 Q hQ
   | exit id=>exact hQ _ σ' a' w' hk hs'
   | goto l=>exact hQ _ σ' a' w' hk hs'
   | ret=>exact hQ _ σ' a' w' hk hs'
   | panic ch=>exact hQ _ σ' a' w' hk hs'
   | outgrown=>exact hQ _ σ' a' w' hk hs'
  refine wp_seq (zfw hm hC x _ σ h a w hs _ fun e σ' a' w' hk hs'=>?_);cases e with
  | normal=>exact zfw hm hC y K σ' hk a' w' hs' Q hQ
  | exit id=>exact hQ _ σ' a' w' hk hs'
  | goto l=>exact hQ _ σ' a' w' hk hs'
  | ret=>exact hQ _ σ' a' w' hk hs'
  | panic ch=>exact hQ _ σ' a' w' hk hs'
  | outgrown=>exact hQ _ σ' a' w' hk hs'
 | .cond c x y,K,σ,h,a,w,hs,Q,hQ=>by
  simp only [zkm] at h;split at h
  ·rename_i t ht;obtain ⟨h1,h2⟩:=h.out
   have hc:a.eval c=.bool t:=by
    obtain ⟨ρ,hs⟩:=hs;exact zhn ht (za1 hs c)
   cases ht':t with
   | true=>exact wp_cond_true (hc.trans (by rw [ht'])) (zfw hm hC x K σ (h1 ht') a w hs Q hQ)
   | false=>exact wp_cond_false (hc.trans (by rw [ht'])) (zfw hm hC y K σ (h2 ht') a w hs Q hQ)
  ·exact h.elim
 | .block id body,K,σ,h,a,w,hs,Q,hQ=>by
  simp only [zkm] at h;split at h
  case h_2 =>
   obtain ⟨Post,h1,h2⟩:=h.out
   have a0:∀ σ' a' w',(∃ σ1,Ent σ' σ1∧Post σ1)->Sat B σ' a' w'->Q .normal a' w':=fun σ' a' w' ⟨σ1,he,hp⟩ hs'=>by
    obtain ⟨φ,hφ,h3⟩:=h2 σ1 hp;have hs1:=he B a' w' hs';exact hQ _ σ1 a' w' (h3 (hφ B a' w' hs1)) hs1
   refine wp_block (zfw hm hC body _ σ h1 a w hs _ fun e σ' a' w' hk hs'=>?_);cases e with
   | exit j =>
    simp only at hk;show (if j=id then Q .normal a' w' else Q (.exit j) a' w');by_cases e:j=id
    ·rw [if_pos e] at hk ⊢;exact a0 σ' a' w' hk hs'
    ·rw [if_neg e] at hk ⊢;exact hQ _ σ' a' w' hk hs'
   | normal=>exact a0 σ' a' w' hk hs'
   | goto l=>exact hQ _ σ' a' w' hk hs'
   | ret=>exact hQ _ σ' a' w' hk hs'
   | panic ch=>exact hQ _ σ' a' w' hk hs'
   | outgrown=>exact hQ _ σ' a' w' hk hs'
  refine wp_block (zfw hm hC body _ σ h a w hs _ fun e σ' a' w' hk hs'=>?_);cases e with
  | exit j =>
   simp only at hk;show (if j=id then Q .normal a' w' else Q (.exit j) a' w');by_cases e:j=id
   ·rw [if_pos e] at hk ⊢;exact hQ _ σ' a' w' hk hs'
   ·rw [if_neg e] at hk ⊢;exact hQ _ σ' a' w' hk hs'
  | normal=>exact hQ _ σ' a' w' hk hs'
  | goto l=>exact hQ _ σ' a' w' hk hs'
  | ret=>exact hQ _ σ' a' w' hk hs'
  | panic ch=>exact hQ _ σ' a' w' hk hs'
  | outgrown=>exact hQ _ σ' a' w' hk hs'
 | .loop body,K,σ,h,a,w,hs,Q,hQ=>loop_ok h (fun K' σ h a w hs Q hQ=>zfw hm hC body K' σ h a w hs Q hQ) hs hQ
 | .exit id,K,σ,h,a,w,hs,Q,hQ=>wp_exit (hQ _ σ a w h hs)
 | .ret,K,σ,h,a,w,hs,Q,hQ=>wp_ret (hQ _ σ a w h hs)
 | .rangeFunc ..,_,_,h,_,_,_,_,_=>h.elim
 | .scope body,K,σ,h,a,w,hs,Q,hQ=>by
  refine wp_scope_straight (zfw hm hC body _ σ h a w hs _ fun e σ' a' w' hk hs'=>?_);cases e with
  | goto l=>exact hk.elim
  | exit j=>exact hQ _ σ' a' w' hk hs'
  | normal=>exact hQ _ σ' a' w' hk hs'
  | ret=>exact hQ _ σ' a' w' hk hs'
  | panic ch=>exact hQ _ σ' a' w' hk hs'
  | outgrown=>exact hQ _ σ' a' w' hk hs'
 | .label _,K,σ,h,a,w,hs,Q,hQ=>wp_label (hQ _ σ a w h hs)
 | .goto _,_,_,h,_,_,_,_,_=>h.elim
 | .refuse _,_,_,h,_,_,_,_,_=>h.elim
def resA (P:Program) (σ:St):ResultVar->Option (AV×yad)
 | .tmp t=>some (σ.av t,[])
 | .cell c t=>match σ.av c with
  | .own b g i=>match zmr P t with
   | some false=>if Nat.blt i (zij σ b)=true then some (σ.ce b i,[(b,g)]) else none
   | some true=>match szOf P t with
    | some m=>if (Nat.blt 0 m&&Nat.ble (i+m) (zij σ b))=true then some (aggA ((List.range m).map fun j=>σ.ce b (i+j)),[(b,g)]) else none
    | none=>none
   | none=>none
  | _=>none
def resAs (P:Program) (σ:St):List ResultVar->Option (List AV×yad)
 | []=>some ([],[])
 | r::l=>match resA P σ r,resAs P σ l with | some (v,b),some (vs,bs)=>some (v::vs,b++bs) | _,_=>none
def outC (σ:St) (c:Oc) (a:AV):Option (Oc×yad×yad):=match c with
 | .im _=>match fz σ a with
  | some (x,bs)=>some (.im x,bs,[])
  | none=>none
 | .ow k0=>match a with
  | .osl b g=>match objG σ b with
   | some k=>some (.ow k,[],[(b,g)])
   | none=>none
  | .im x=>match k0 with
   | .row e k _=>match nilRow x e k with
    | some q=>some (.ow q,[],[])
    | none=>none
   | _=>none
  | _=>none
def outCs (σ:St):List Oc->List AV->Option (List Oc×yad×yad)
 | [],[]=>some ([],[],[])
 | c::cs,a::l=>match outC σ c a,outCs σ cs l with
  | some (x,bs,gs),some (xs,bs',gs')=>some (x::xs,bs++bs',gs++gs')
  | _,_=>none
 | _,_=>none
def zio (σ:St):Nat->List Arg->List Arg->Option (List Arg×yad×yad)
 | _,[],[]=>some ([],[],[])
 | i,.im _::xs,ys=>zio σ (i+1) xs ys
 | i,.ow _::xs,ys=>zio σ (i+1) xs ys
 | i,.box _ _::xs,.box _ cs::ys=>match σ.kd i with
  | .box t _=>match outCs σ cs (zoo σ i),zio σ (i+1) xs ys with
   | some (cs',bs,gs),some (l,bs',gs')=>some (.box t cs'::l,bs++bs',((i,0)::gs)++gs')
   | _,_=>none
  | _=>none
 | i,.lent _::xs,.lent _::ys=>match objG σ i,zio σ (i+1) xs ys with
  | some k,some (l,bs',gs')=>some (.lent k::l,bs',(i,0)::gs')
  | _,_=>none
 | _,_,_=>none
def RetOk (P:Program) (rs:List ResultVar) (xs:List Arg) (σ:St) (r:Rs):Prop :=
 match resAs P σ rs,r with
 | some (vs,c),.mk tp l ys=>Chk (match tp with | true=>!Nat.beq vs.length 1 | false=>Nat.beq vs.length 1) (zlm σ c (match outCs σ l vs,zio σ 0 xs ys with
  | some (l',bs,gs),some (ys',bs',gs')=>Chk (ndB ((gs++gs').map (·.1)) ((bs++bs').map (·.1))) (zlm σ ((bs++bs')++(gs++gs')) (l'=l∧ys'=ys))
  | _,_=>False))
 | none,_=>False
def retK (P:Program) (rs:List ResultVar) (xs:List Arg) (r:Rs):Exit->St->Prop
 | .ret,σ=>RetOk P rs xs σ r
 | .normal,σ=>RetOk P rs xs σ r
 | _,_=>False
def oneRes (tmps:Array Value):ResultVar->Sem Value
 | .tmp t=>pure (tmps.getD t undef)
 | .cell c t=>do loadVar t (<- asAddr (tmps.getD c undef))
theorem zty (fn:Func) (tmps:Array Value):results fn tmps=(do let vs <- fn.results.mapM (oneRes tmps);pure (if h:vs.size=1 then vs[0] else .tuple vs)):=by
 unfold results
 have e:(fun r:ResultVar=>match r with
  | .tmp t=>(pure (tmps.getD t undef):Sem Value)
  | .cell a t=>do loadVar t (<- asAddr (tmps.getD a undef)))=oneRes tmps:=funext fun r=>by cases r<;>rfl
 rw [<- e];rfl
theorem resA_ok {σ:St} {a:Act} {w:World} {ρ:Ly} (h:SatR B σ a w ρ) {r:ResultVar} {v:AV} {bs:yad} (e:resA P σ r=some (v,bs)) (hg:∀ p∈bs,σ.gn p.1=p.2) :
  ∃ u,(oneRes a.tmps r).run P w=.ok u w∧RepA w (Imm B σ ρ w) ρ σ.gn u v:=by
 cases r with
 | tmp t =>
  simp only [resA,zkF,zkG] at e;rw [<- e.1];exact ⟨_,rfl,h.tms t⟩
 | cell c t =>
  simp only [resA] at e;split at e
  ·rename_i b g i hc;have h1:=h.tms c;rw [hc] at h1
   have ld:∀ q u,a.tmps.getD c undef=.pointer (some q)->(Instr.loadAt t (.pointer (some q))).run P w=.ok u w->(do loadVar t (<- asAddr (a.tmps.getD c undef)):Sem Value).run P w=.ok u w:=fun q u e1 e2=>by
    simp only [Instr.loadAt,Instr.sureAddr,Sem.run_bind,Sem.run_pure,Result.andThen_ok] at e2;simp only [e1,asAddr,Sem.run_bind,Sem.run_pure,Result.andThen_ok,e2]
   split at e
   ·rename_i a0;split at e
    ·rename_i hi;simp only [zkF,zkG] at e;obtain ⟨rfl,rfl⟩:=e;obtain ⟨t',m,hk,a5⟩:=zhv (zed hi);obtain ⟨q,us,e1,_,_,hl,a2,a3,hr⟩:=zh9 h h1 (hg (b,g) (by simp)) hk;obtain ⟨u,hu⟩:∃ u,us[i]?=some u:=⟨_,zkM (by omega)⟩;exact ⟨u,ld _ u e1 (zlp a0 (a3 i u hu)),hr i u hu⟩
    ·cases e
   ·rename_i a0;split at e
    ·rename_i m hm;split at e
     ·rename_i hi;simp only [zkF,zkG] at e;obtain ⟨rfl,rfl⟩:=e;rw [ya4] at hi;have a8:=zed hi.1;have hi:=zfx hi.2;obtain ⟨t',m',hk,a5⟩:=zhv (σ:=σ) (b:=b) (i:=i) (by omega);have a7:=znk hk;obtain ⟨q,us,e1,_,_,hl,a2,a3,hr⟩:=zh9 h h1 (hg (b,g) (by simp)) hk;have a4:((us.drop i).take m).length=m:=by rw [yaz,ybw];omega
      refine ⟨.agg ((us.drop i).take m).toArray,ld _ _ e1 (zla a0 (by rw [a4];exact hm) fun j u hj=>a3 (i+j) u (zcp hj).1),zl8 ⟨by rw [a4];simp,fun j u x hj hx=>?_⟩ fun u hu=>a2 u (ybn (ybg hu))⟩;obtain ⟨h3,a6⟩:=zcp hj;simp only [yaf,ybh a6,yal,zkF] at hx;rw [<- hx];exact hr _ u h3
     ·cases e
    ·cases e
   ·cases e
  ·cases e
theorem resAs_ok {σ:St} {a:Act} {w:World} {ρ:Ly} (h:SatR B σ a w ρ):∀ {rs:List ResultVar} {vs:List AV} {bs:yad},resAs P σ rs=some (vs,bs)->(∀ p∈bs,σ.gn p.1=p.2) ->
  ∃ us:List Value,(rs.mapM (oneRes a.tmps)).run P w=.ok us w∧Reps w (Imm B σ ρ w) ρ σ.gn us vs
 | [],vs,bs,e,_=>by
  simp only [resAs,zkF,zkG] at e;rw [<- e.1];exact ⟨[],by simp,rfl,by simp⟩
 | r::rs,vs,bs,e,hg=>by
  simp only [resAs] at e;split at e
  ·rename_i v b1 vs1 bs1 h1 h2;simp only [zkF,zkG] at e;obtain ⟨rfl,rfl⟩:=e;obtain ⟨u,hu,hr⟩:=resA_ok h h1 fun p hp=>hg p (yam _ hp);obtain ⟨us,hus,hrs⟩:=resAs_ok h h2 fun p hp=>hg p (yaj _ hp);refine ⟨u::us,?_,by simp [hrs.1],fun i x y hx hy=>?_⟩
   ·rw [List.mapM_cons];simp only [Sem.run_bind,hu,Result.andThen_ok,hus,Sem.run_pure]
   ·cases i with
    | zero=>simp at hx hy;rw [<- hx,<- hy];exact hr
    | succ i=>exact hrs.2 i x y (by simpa using hx) (by simpa using hy)
  ·cases e
theorem outC_ok {σ:St} {a:Act} {w:World} {ρ:Ly} (h:SatR B σ a w ρ) {bs0:yad} (hgk:∀ p∈bs0,σ.gn p.1=p.2) {c:Oc} {u:Value} {v:AV} {x:Oc} {bs gs:yad} (hu:RepA w (Imm B σ ρ w) ρ σ.gn u v) (e:outC σ c v=some (x,bs,gs)) (hb:∀ p∈bs,p∈bs0) (hg:∀ p∈gs,σ.gn p.1=p.2) :
  OcOk w (Imm B (app σ (fwr bs0)) ρ w) u x (zc7 σ ρ gs):=by
 have hI:=(h.kills bs0).2;unfold outC at e;split at e
 ·split at e
  ·rename_i y bs' hy;simp only [zkF,zkG] at e;obtain ⟨rfl,rfl,rfl⟩:=e;exact ⟨fz_ok h hgk hu hy hb,rfl⟩
  ·cases e
 ·split at e
  ·rename_i b g;split at e
   ·rename_i k hk;simp only [zkF,zkG] at e;obtain ⟨rfl,rfl,rfl⟩:=e;have a0:=hg (b,g) (by simp)
    have hv:u=ρ b:=by
     cases hu with
     | osl _ _ _ _ _ hh=>exact hh a0
    have hh:=zqg h hk;subst hv;refine ⟨hh.one,ρ.inn b,hh.mono (fun _ _=>rfl) hI,?_⟩;unfold zc7;rw [ybd,ydk,ybq,(ziy hk).1]
   ·cases e
  ·have hu:=hu.im_inv;split at e
   ·split at e
    ·rename_i q hq;simp only [zkF,zkG] at e;obtain ⟨rfl,rfl,rfl⟩:=e;obtain ⟨rfl,k',rfl⟩:=zms hq;cases hu;exact nil_oc _ _ _ _
    ·cases e
   ·cases e
  ·cases e
theorem zqa {σ:St} {a:Act} {w:World} {ρ:Ly} (h:SatR B σ a w ρ) {bs0:yad} (hgk:∀ p∈bs0,σ.gn p.1=p.2):∀ {cs:List Oc} {us:List Value} {vs:List AV} {xs:List Oc} {bs gs:yad},Reps w (Imm B σ ρ w) ρ σ.gn us vs->outCs σ cs vs=some (xs,bs,gs)->(∀ p∈bs,p∈bs0)->(∀ p∈gs,σ.gn p.1=p.2) ->
  zmg w (Imm B (app σ (fwr bs0)) ρ w) us xs (zc7 σ ρ gs)
 | [],us,[],xs,bs,gs,hr,e,_,_=>by
  simp only [outCs,zkF,zkG] at e;rw [<- e.1,<- e.2.2,yau hr.1];exact rfl
 | [],_,_::_,_,_,_,_,e,_,_=>by simp [outCs] at e
 | _::_,_,[],_,_,_,_,e,_,_=>by simp [outCs] at e
 | c::cs,[],v::vs,_,_,_,hr,_,_,_=>by have:=hr.1;simp at this
 | c::cs,u::us,v::vs,xs,bs,gs,hr,e,hb,hg=>by
  simp only [outCs] at e;split at e
  ·rename_i x b1 g1 xs1 bs1 gs1 h1 h2;simp only [zkF,zkG] at e;obtain ⟨rfl,rfl,rfl⟩:=e
   exact ⟨_,_,outC_ok h hgk (hr.2 0 u v rfl rfl) h1 (fun p hp=>hb p (yam _ hp)) fun p hp=>hg p (yam _ hp),
    zqa h hgk ⟨by simpa using hr.1,fun i u x hu hx=>hr.2 (i+1) u x (by simpa using hu) (by simpa using hx)⟩ h2 (fun p hp=>hb p (yaj _ hp)) fun p hp=>hg p (yaj _ hp),zd4 _ _ _⟩
  ·cases e
def zko (xs:List Arg) (vs:List Value) (o:Nat):Option Value:=match xs[o]? with
 | some (.box _ _)=>vs[o]?
 | some (.lent _)=>vs[o]?
 | _=>none
theorem zlq {σ:St} {a:Act} {w:World} {ρ:Ly} (h:SatR B σ a w ρ) {bs0:yad} (hgk:∀ p∈bs0,σ.gn p.1=p.2):∀ {xs:List Arg} {vs:List Value} {i:Nat} {ys ys':List Arg} {bs gs:yad},vs.length=xs.length->(∀ j v,zko xs vs j=some v->B.L (i+j)=some v)->zio σ i xs ys=some (ys',bs,gs)->(∀ p∈bs,p∈bs0)->(∀ p∈gs,σ.gn p.1=p.2) ->
  zea w (Imm B (app σ (fwr bs0)) ρ w) (bxVs vs xs) ys' (zc7 σ ρ gs)
 | [],[],i,ys,ys',bs,gs,hl,hL,e,hb,hg=>by
  cases ys with
  | nil =>
   simp only [zio,zkF,zkG] at e;rw [<- e.1,<- e.2.2];exact rfl
  | cons _ _=>simp [zio] at e
 | [],_::_,_,_,_,_,_,hl,_,_,_,_=>by simp at hl
 | _::_,[],_,_,_,_,_,hl,_,_,_,_=>by simp at hl
 | .im x::xs,v::vs,i,ys,ys',bs,gs,hl,hL,e,hb,hg=>by
  have e:zio σ (i+1) xs ys=some (ys',bs,gs):=by cases ys<;>exact e
  exact zlq h hgk (xs:=xs) (vs:=vs) (i:=i+1) (by simpa using hl) (fun j v hv=>by rw [yb4,ydf 1 j];exact hL (j+1) v (by simpa [zko] using hv)) e hb hg
 | .ow k::xs,v::vs,i,ys,ys',bs,gs,hl,hL,e,hb,hg=>by
  have e:zio σ (i+1) xs ys=some (ys',bs,gs):=by cases ys<;>exact e
  exact zlq h hgk (xs:=xs) (vs:=vs) (i:=i+1) (by simpa using hl) (fun j v hv=>by rw [yb4,ydf 1 j];exact hL (j+1) v (by simpa [zko] using hv)) e hb hg
 | .lent _::xs,v::vs,i,[],ys',bs,gs,hl,hL,e,hb,hg=>by simp [zio] at e
 | .lent _::xs,v::vs,i,.im _::ys,ys',bs,gs,hl,hL,e,hb,hg=>by simp [zio] at e
 | .lent _::xs,v::vs,i,.ow _::ys,ys',bs,gs,hl,hL,e,hb,hg=>by simp [zio] at e
 | .lent _::xs,v::vs,i,.box _ _::ys,ys',bs,gs,hl,hL,e,hb,hg=>by simp [zio] at e
 | .box _ _::xs,v::vs,i,.lent _::ys,ys',bs,gs,hl,hL,e,hb,hg=>by simp [zio] at e
 | .lent k0::xs,v::vs,i,.lent k1::ys,ys',bs,gs,hl,hL,e,hb,hg=>by
  unfold zio at e;split at e
  ·rename_i k l b2 g2 hk h2;simp only [zkF,zkG] at e;obtain ⟨rfl,rfl,rfl⟩:=e;have a0:σ.gn i=0:=hg (i,0) (by simp);have hv:ρ i=v:=h.rt i v (by have:=hL 0 v (by simp [zko]);simpa using this) a0;have hh:=zqg h hk;have hI:=(h.kills bs0).2
   refine ⟨fpk (ρ i) (ρ.inn i) k,zc7 σ ρ g2,⟨by rw [<- hv];exact hh.one,ρ.inn i,by rw [<- hv];exact hh.mono (fun _ _=>rfl) hI,by rw [<- hv]⟩,
    zlq h hgk (xs:=xs) (vs:=vs) (i:=i+1) (by simpa using hl) (fun j v hv=>by rw [yb4,ydf 1 j];exact hL (j+1) v (by simpa [zko] using hv)) h2 hb (fun p hp=>hg p (by simp [hp])),?_⟩
   unfold zc7;rw [ybd,(ziy hk).1]
  ·cases e
 | .box t0 c0::xs,v::vs,i,[],ys',bs,gs,hl,hL,e,hb,hg=>by simp [zio] at e
 | .box t0 c0::xs,v::vs,i,.im _::ys,ys',bs,gs,hl,hL,e,hb,hg=>by simp [zio] at e
 | .box t0 c0::xs,v::vs,i,.ow _::ys,ys',bs,gs,hl,hL,e,hb,hg=>by simp [zio] at e
 | .box t0 c0::xs,v::vs,i,.box _ cs::ys,ys',bs,gs,hl,hL,e,hb,hg=>by
  unfold zio at e;split at e
  ·rename_i t m hk;split at e
   ·rename_i a2 b1 g1 l b2 g2 h1 h2;simp only [zkF,zkG] at e;obtain ⟨rfl,rfl,rfl⟩:=e;have a0:σ.gn i=0:=hg (i,0) (by simp);have hv:ρ i=v:=h.rt i v (by have:=hL 0 v (by simp [zko]);simpa using this) a0;have ho:=h.obs i;rw [hk] at ho;obtain ⟨q,us,e1,e2,e3,e4,e5⟩:=ho;have hr:=zo7 (σ:=σ) (b:=i) (us:=us) (t:=t) (by rw [e3];exact hk) e5
    refine ⟨_,_,⟨q,us,zc7 σ ρ g1,by rw [<- hv];exact e1,e2,e4,zqa h hgk hr h1 (fun p hp=>hb p (yam _ hp)) (fun p hp=>hg p (by simp [hp])),rfl⟩,
     zlq h hgk (xs:=xs) (vs:=vs) (i:=i+1) (by simpa using hl) (fun j v hv=>by rw [yb4,ydf 1 j];exact hL (j+1) v (by simpa [zko] using hv)) h2 (fun p hp=>hb p (yaj _ hp)) (fun p hp=>hg p (by simp [hp])),?_⟩
    rw [zd4];unfold zc7;rw [ybd,hk,e1];rfl
   ·cases e
  ·cases e
theorem ztt {fn:Func} {xs:List Arg} {vs0:List Value} {r:Rs} {σ:St} (h:RetOk P fn.results.toList xs σ r) {a:Act} {w:World} (hs:Sat B σ a w) (hl:vs0.length=xs.length) (hL:∀ j v,zko xs vs0 j=some v->B.L j=some v) :
  ∃ v F',(results fn a.tmps).run P w=.ok v w∧zn7 w (fun b=>(B.S0 b∨Mine B b)∧b<w.heap.size∧b∉F') v (bxVs vs0 xs) r F'∧F'.Nodup∧∀ b∈F',Mine B b∧b<w.heap.size:=by
 obtain ⟨ρ,hs⟩:=hs;unfold RetOk at h;split at h
 ·rename_i vs c tp l ys b3;obtain ⟨a9,h⟩:=h.ok;obtain ⟨hg,h⟩:=h.out;obtain ⟨us,b6,hr⟩:=resAs_ok hs b3 hg
  have a0:(results fn a.tmps).run P w=.ok (if h:us.toArray.size=1 then us.toArray[0] else .tuple us.toArray) w:=by
   rw [zty,Sem.run_bind,ye1,map_eq_pure_bind,Sem.run_bind,b6];simp only [Result.andThen_ok,Sem.run_pure]
  split at h
  ·rename_i l' bs gs b7 bs' a3 h1 h2;obtain ⟨b5,h⟩:=h.ok;obtain ⟨a8,b2⟩:=zge b5;obtain ⟨a7,rfl,rfl⟩:=h.out;have a6:∀ p∈bs++bs',σ.gn p.1=p.2:=fun p hp=>a7 p (yam _ hp);have a4:∀ p∈gs++a3,σ.gn p.1=p.2:=fun p hp=>a7 p (yaj _ hp);have r1:=zqa hs (bs0:=bs++bs') a6 hr h1 (fun p hp=>yam _ hp) fun p hp=>a4 p (yam _ hp);have r2:=zlq hs (bs0:=bs++bs') a6 hl (i:=0) (fun j v hv=>by rw [yai];exact hL j v hv) h2 (fun p hp=>yaj _ hp) fun p hp=>a4 p (yaj _ hp)
   have a2:∀ u x,RepI w (Imm B (app σ (fwr (bs++bs'))) ρ w) u x->RepI w (fun b=>(B.S0 b∨Mine B b)∧b<w.heap.size∧b∉zc7 σ ρ gs++zc7 σ ρ a3) u x:=fun u x hr=>hr.mono (fun b hb=>⟨hb.1,hb.2.1,fun hf=>by
    rw [<- zd4] at hf
    obtain ⟨p,hp,ho⟩:=zdu.1 hf
    refine hb.2.2.1 p.1 ?_
    unfold Owns at ho ⊢
    rw [zkr,if_neg (b2 p.1 (yao.2 ⟨p,hp,rfl⟩))]
    exact ho⟩) fun _ _ _ h=>h
   have hn:=zeu hs a8;rw [zd4] at hn
   have hm:∀ b∈zc7 σ ρ gs++zc7 σ ρ a3,Mine B b∧b<w.heap.size:=fun b hb=>by
    rw [<- zd4] at hb;obtain ⟨p,hp,ho⟩:=zdu.1 hb;exact hs.own p.1 b ho
   have a5:us.toArray.size=vs.length:=by simp [hr.1]
   cases tp with
   | true =>
    have b4:¬ us.toArray.size=1:=fun e=>by
     rw [a5] at e;simp [e] at a9
    rw [dif_neg b4] at a0;exact ⟨_,_,a0,⟨us,_,_,rfl,r1.mono a2,r2.mono a2,rfl⟩,hn,hm⟩
   | false =>
    have he:us.toArray.size=1:=by rw [a5];simpa using a9
    rw [dif_pos he] at a0
    obtain ⟨u,rfl⟩:∃ u,us=[u]:=by
     match us,he with
     | [u],_=>exact ⟨u,rfl⟩
    exact ⟨_,_,a0,⟨[u],_,_,rfl,r1.mono a2,r2.mono a2,rfl⟩,hn,hm⟩
  ·exact h.elim
 ·exact h.elim
def sig0:St:=fun l=>match l with
 | .tmp _=>.av (.im .any)
 | .gen _=>.n 0
 | .ign _=>.n 0
 | .knd _=>.kd .dead
 | .cel _ _=>.av (.im .any)
def tau0:St:=fun l=>match l with
 | .tmp _=>.av (.im .any)
 | .gen _=>.n 0
 | .ign _=>.n 0
 | .knd _=>.kd .dead
 | .cel o j=>.av (.osl (nmB o j) 0)
def zoy:Arg->Oc
 | .im x=>.im x
 | .ow k=>.ow k
 | .box _ _=>.im .any
 | .lent _=>.im .any
def bxIx:Nat->List Arg->yad
 | _,[]=>[]
 | i,.box _ _::xs=>(i,i)::bxIx (i+1) xs
 | i,.lent _::xs=>(i,i)::bxIx (i+1) xs
 | i,.im _::xs=>bxIx (i+1) xs
 | i,.ow _::xs=>bxIx (i+1) xs
def bxAs:List Arg->List Arg
 | []=>[]
 | .box t cs::xs=>.box t cs::bxAs xs
 | .lent k::xs=>.lent k::bxAs xs
 | .im _::xs=>bxAs xs
 | .ow _::xs=>bxAs xs
def argV (i:Nat) (x:Arg) (a:AV):AV:=match x with
 | .box _ _=>.own i 0 0
 | .lent _=>.osl i 0
 | _=>a
def tmpW:Nat->List Arg->List AV->List (Loc×Ct)
 | i,x::xs,a::al=>(.tmp i,.av (argV i x a))::tmpW (i+1) xs al
 | _,_,_=>[]
def entW (xs:List Arg):List (Loc×Ct):=match zcd tau0 (fun i=>i) 0 (xs.map zoy),bxPl tau0 (bxIx 0 xs) (bxAs xs) with
 | (al,ss),some (bl,ss')=>zc9 tau0 (ss++ss')++(bxWr bl++tmpW 0 xs al)
 | _,none=>[]
def entOk (xs:List Arg):Bool:=match zcd tau0 (fun i=>i) 0 (xs.map zoy),bxPl tau0 (bxIx 0 xs) (bxAs xs) with
 | (_,ss),some (bl,ss')=>ndB ((ss++ss').map (·.1)) (bl.map (·.1))
 | _,none=>false
def st0 (xs:List Arg):St:=app sig0 (entW xs)
theorem zjb {w:World} {S:Nat->Prop}:∀ {vs:List Value} {xs:List Arg} {F:List Nat},zea w S vs xs F->∃ Ft Fb,zmg w S vs (xs.map zoy) Ft∧zea w S (bxVs vs xs) (bxAs xs) Fb∧F.Perm (Ft++Fb)
 | [],[],F,h=>⟨[],[],rfl,rfl,by have h:F=[]:=h;rw [h];exact .refl _⟩
 | v::vs,.im x::xs,F,⟨F1,F2,h1,h2,h3⟩=>by
  obtain ⟨Ft,Fb,a1,a2,a3⟩:=zjb h2;obtain ⟨h1,rfl⟩:=h1;exact ⟨[]++Ft,Fb,⟨[],Ft,⟨h1,rfl⟩,a1,rfl⟩,a2,by rw [h3];exact a3⟩
 | v::vs,.ow k::xs,F,⟨F1,F2,h1,h2,h3⟩=>by
  obtain ⟨Ft,Fb,a1,a2,a3⟩:=zjb h2;exact ⟨F1++Ft,Fb,⟨F1,Ft,h1,a1,rfl⟩,a2,by rw [h3,yb9];exact a3.append_left F1⟩
 | v::vs,.box t cs::xs,F,⟨F1,F2,h1,h2,h3⟩=>by
  obtain ⟨Ft,Fb,a1,a2,a3⟩:=zjb h2;refine ⟨[]++Ft,F1++Fb,⟨[],Ft,⟨.any _,rfl⟩,a1,rfl⟩,⟨F1,Fb,h1,a2,rfl⟩,?_⟩;rw [h3,ycn];refine (a3.append_left F1).trans ?_;rw [<- yb9,<- yb9];exact List.perm_append_comm.append_right Fb
 | v::vs,.lent k::xs,F,⟨F1,F2,h1,h2,h3⟩=>by
  obtain ⟨Ft,Fb,a1,a2,a3⟩:=zjb h2;refine ⟨[]++Ft,F1++Fb,⟨[],Ft,⟨.any _,rfl⟩,a1,rfl⟩,⟨F1,Fb,h1,a2,rfl⟩,?_⟩;rw [h3,ycn];refine (a3.append_left F1).trans ?_;rw [<- yb9,<- yb9];exact List.perm_append_comm.append_right Fb
 | [],_::_,_,h=>h.elim
 | _::_,[],_,h=>h.elim
theorem zea.len {w:World} {S:Nat->Prop}:∀ {vs:List Value} {xs:List Arg} {F:List Nat},zea w S vs xs F->vs.length=xs.length
 | [],[],_,_=>rfl
 | _::_,_::_,_,⟨_,_,_,h,_⟩=>by simp [h.len]
 | [],_::_,_,h=>h.elim
 | _::_,[],_,h=>h.elim
theorem tmpW_get:∀ {xs:List Arg} {al:List AV} {i:Nat} {σ:St} {t:Nat},xs.length=al.length->(app σ (tmpW i xs al)).av t=match xs[t-i]?,al[t-i]? with | some x,some a=>if i<=t then argV t x a else σ.av t | _,_=>σ.av t
 | [],[],i,σ,t,_=>by simp [tmpW,app]
 | [],_::_,_,_,_,h=>by simp at h
 | _::_,[],_,_,_,h=>by simp at h
 | x::xs,a::al,i,σ,t,h=>by
  rw [tmpW,zcl,tmpW_get (by simpa using h)];by_cases h1:i+1<=t
  ·obtain ⟨m,hm⟩:∃ m,t-i=m+1:=⟨t-i-1,by omega⟩;rw [hm,show t-(i+1)=m from by omega];have h2:i<=t:=by omega
   have h3:t≠i:=by omega
   simp only [List.getElem?_cons_succ,h1,h2,if_true,zpn,h3,if_false]
  ·by_cases h2:t=i
   ·subst h2;rw [ybx];simp only [yec,yap,if_true,h1,if_false,zpn];split<;>rfl
   ·have h3:¬ i<=t:=by omega
    simp only [if_neg h1,if_neg h3,zpn,if_neg h2];split<;>split<;>rfl
theorem tmpW_same:∀ {xs:List Arg} {al:List AV} {i:Nat} {σ:St},zgg σ (app σ (tmpW i xs al))
 | [],_,_,_=>⟨rfl,rfl,rfl,rfl⟩
 | _::_,[],_,_=>⟨rfl,rfl,rfl,rfl⟩
 | x::xs,a::al,i,σ=>by
  have h1:=zgg.tmp σ i (.av (argV i x a));have h2:zgg (upd σ (.tmp i) (.av (argV i x a))) (app (upd σ (.tmp i) (.av (argV i x a))) (tmpW (i+1) xs al)):=tmpW_same;exact ⟨h2.gn.trans h1.gn,h2.ig.trans h1.ig,h2.kd.trans h1.kd,h2.ce.trans h1.ce⟩
theorem zk4:∀ {xs:List Arg} {vs:List Value} {i j:Nat} {b:Nat} {p:Value},vs.length=xs.length->((bxIx i xs).map (·.1))[j]?=some b->(bxVs vs xs)[j]?=some p->i<=b∧vs[b-i]?=some p
 | [],[],i,j,b,p,_,h,_=>by simp [bxIx] at h
 | [],_::_,_,_,_,_,h,_,_=>by simp at h
 | _::_,[],_,_,_,_,h,_,_=>by simp at h
 | .im x::xs,v::vs,i,j,b,p,hl,h,k=>by
  obtain ⟨h1,h2⟩:=zk4 (i:=i+1) (by simpa using hl) h k;obtain ⟨m,hm⟩:∃ m,b-i=m+1:=⟨b-i-1,by omega⟩;exact ⟨by omega,by rw [hm,show m=b-(i+1) from by omega];simpa using h2⟩
 | .ow x::xs,v::vs,i,j,b,p,hl,h,k=>by
  obtain ⟨h1,h2⟩:=zk4 (i:=i+1) (by simpa using hl) h k;obtain ⟨m,hm⟩:∃ m,b-i=m+1:=⟨b-i-1,by omega⟩;exact ⟨by omega,by rw [hm,show m=b-(i+1) from by omega];simpa using h2⟩
 | .lent q::xs,v::vs,i,0,b,p,hl,h,k=>by
  simp [bxIx] at h;simp [bxVs] at k;subst h k;exact ⟨yap _,by simp⟩
 | .lent q::xs,v::vs,i,j+1,b,p,hl,h,k=>by
  obtain ⟨h1,h2⟩:=zk4 (i:=i+1) (j:=j) (by simpa using hl) (by simpa [bxIx] using h) (by simpa [bxVs] using k);obtain ⟨m,hm⟩:∃ m,b-i=m+1:=⟨b-i-1,by omega⟩;exact ⟨by omega,by rw [hm,show m=b-(i+1) from by omega];simpa using h2⟩
 | .box t cs::xs,v::vs,i,0,b,p,hl,h,k=>by
  simp [bxIx] at h;simp [bxVs] at k;subst h k;exact ⟨yap _,by simp⟩
 | .box t cs::xs,v::vs,i,j+1,b,p,hl,h,k=>by
  obtain ⟨h1,h2⟩:=zk4 (i:=i+1) (j:=j) (by simpa using hl) (by simpa [bxIx] using h) (by simpa [bxVs] using k);obtain ⟨m,hm⟩:∃ m,b-i=m+1:=⟨b-i-1,by omega⟩;exact ⟨by omega,by rw [hm,show m=b-(i+1) from by omega];simpa using h2⟩
theorem zoz:∀ {xs:List Arg} {i b:Nat},b∈(bxIx i xs).map (·.1)->i<=b
 | [],i,b,h=>by simp [bxIx] at h
 | .im x::xs,i,b,h=>by have:=zoz (xs:=xs) (i:=i+1) h;omega
 | .ow x::xs,i,b,h=>by have:=zoz (xs:=xs) (i:=i+1) h;omega
 | .lent k::xs,i,b,h=>by
  rw [bxIx,ya1] at h;rcases yba.1 h with h | h
  ·exact ydx h.symm
  ·have:=zoz (xs:=xs) (i:=i+1) h;omega
 | .box t cs::xs,i,b,h=>by
  rw [bxIx,ya1] at h;rcases yba.1 h with h | h
  ·exact ydx h.symm
  ·have:=zoz (xs:=xs) (i:=i+1) h;omega
theorem ziz:∀ {xs:List Arg} {i:Nat},((bxIx i xs).map (·.1)).Nodup
 | [],i=>ycz
 | .im x::xs,i=>ziz (xs:=xs) (i:=i+1)
 | .ow x::xs,i=>ziz (xs:=xs) (i:=i+1)
 | .lent k::xs,i=>by
  rw [bxIx,ya1,yb2];exact ⟨fun h=>by have:=zoz h;omega,ziz⟩
 | .box t cs::xs,i=>by
  rw [bxIx,ya1,yb2];exact ⟨fun h=>by have:=zoz h;omega,ziz⟩
def isLent:Arg->Bool
 | .box _ _=>true
 | .lent _=>true
 | _=>false
theorem zlu:∀ {xs:List Arg} {i o:Nat} {x:Arg},xs[o]?=some x->isLent x=true->i+o∈(bxIx i xs).map (·.1)
 | [],i,o,x,h,_=>by simp at h
 | .box t' cs'::xs,i,0,x,h,_=>by simp [bxIx]
 | .lent k::xs,i,0,x,h,_=>by simp [bxIx]
 | .im y::xs,i,0,x,h,hl=>by simp at h;subst h;cases hl
 | .ow y::xs,i,0,x,h,hl=>by simp at h;subst h;cases hl
 | .im y::xs,i,o+1,x,h,hl=>by have:=zlu (xs:=xs) (i:=i+1) (o:=o) (x:=x) (by simpa using h) hl;rw [bxIx,show i+(o+1)=i+1+o from by omega];exact this
 | .ow y::xs,i,o+1,x,h,hl=>by have:=zlu (xs:=xs) (i:=i+1) (o:=o) (x:=x) (by simpa using h) hl;rw [bxIx,show i+(o+1)=i+1+o from by omega];exact this
 | .box t' cs'::xs,i,o+1,x,h,hl=>by
  have:=zlu (xs:=xs) (i:=i+1) (o:=o) (x:=x) (by simpa using h) hl;rw [bxIx,ya1,show i+(o+1)=i+1+o from by omega];exact yay _ this
 | .lent k::xs,i,o+1,x,h,hl=>by
  have:=zlu (xs:=xs) (i:=i+1) (o:=o) (x:=x) (by simpa using h) hl;rw [bxIx,ya1,show i+(o+1)=i+1+o from by omega];exact yay _ this
theorem lkWr_gn (σ:St) (b:Nat) (x:LK):(app σ (lkWr b x)).gn=σ.gn:=by
 cases x with
 | box t al =>
  show (app (upd σ (.knd b) (.kd (.box t al.length))) (zfl b 0 al)).gn=_;rw [zqb];exact funext fun o=>zgh σ b o _
 | obj k=>exact funext fun o=>zgh σ b o _
theorem lkWr_av (σ:St) (b:Nat) (x:LK) (t:Nat):(app σ (lkWr b x)).av t=σ.av t:=by
 cases x with
 | box ty al =>
  show (app (upd σ (.knd b) (.kd (.box ty al.length))) (zfl b 0 al)).av t=_;rw [zqc,zh0]
 | obj k=>exact zh0 σ b t _
theorem bxWr_gn:∀ {bl:List (Nat×LK)} {σ:St},(app σ (bxWr bl)).gn=σ.gn
 | [],_=>rfl
 | (b,x)::bl,σ=>by
  show (app σ (lkWr b x++bxWr bl)).gn=_;rw [za2,bxWr_gn,lkWr_gn]
theorem zea.ptr {w:World} {S:Nat->Prop}:∀ {vs:List Value} {xs:List Arg} {F:List Nat},zea w S vs xs F->∀ {i:Nat} {v:Value} {t:TypeId} {cs:List Oc},vs[i]?=some v->xs[i]?=some (.box t cs)->∃ q,v=.pointer (some ⟨q,0,none⟩)
 | [],[],_,_,i,_,_,_,h,_=>by simp at h
 | v::vs,x::xs,_,⟨_,_,h1,h2,_⟩,0,u,t,cs,h,k=>by
  simp at h k;subst h k;obtain ⟨q,_,_,e,_⟩:=h1;exact ⟨q,e⟩
 | v::vs,x::xs,_,⟨_,_,h1,h2,_⟩,i+1,u,t,cs,h,k=>h2.ptr (by simpa using h) (by simpa using k)
 | [],_::_,_,h,_,_,_,_,_,_=>h.elim
 | _::_,[],_,h,_,_,_,_,_,_=>h.elim
theorem zea.one {w:World} {S:Nat->Prop}:∀ {vs:List Value} {xs:List Arg} {F:List Nat},zea w S vs xs F->∀ {i:Nat} {v:Value} {k:Kd},vs[i]?=some v->xs[i]?=some (.lent k)->v.oneCell'=true
 | [],[],_,_,i,_,_,h,_=>by simp at h
 | v::vs,x::xs,_,⟨_,_,h1,h2,_⟩,0,u,k',h,k=>by
  simp at h k;subst h k;exact h1.1
 | v::vs,x::xs,_,⟨_,_,h1,h2,_⟩,i+1,u,k',h,k=>h2.one (by simpa using h) (by simpa using k)
 | [],_::_,_,h,_,_,_,_,_=>h.elim
 | _::_,[],_,h,_,_,_,_,_=>h.elim
theorem st0_sat (w:World) (S:Nat->Prop) {vs:List Value} {xs:List Arg} {F:List Nat} (h:zea w S vs xs F) (hnd:F.Nodup) (hF:∀ b∈F,¬ S b∧b<w.heap.size) (hS:∀ b,S b->b<w.heap.size) (n:Nat) (hn:vs.length<=n) (hok:entOk xs=true) :
  Sat ⟨w,S,n,fun b=>b∈F,fun _=>False,zko xs vs,[]⟩ (st0 xs) { tmps:=vs.toArray++Array.replicate (n-vs.toArray.size) undef,defers:=[] } w:=by
 have b7:=h.len;obtain ⟨Ft,Fb,a1,a2,a3⟩:=zjb h;have a0:=a3.nodup_iff.1 hnd;rw [ybi] at a0;have a9:∀ b,b∈Ft∨b∈Fb->b∈F:=fun b hb=>a3.mem_iff.2 (yak.2 hb);unfold entOk at hok;unfold st0 entW;cases hbl:bxPl tau0 (bxIx 0 xs) (bxAs xs) with
 | none=>rw [hbl] at hok;cases hok
 | some q =>
  obtain ⟨bl,ss'⟩:=q;rw [hbl] at hok;simp only at hok ⊢;obtain ⟨a4,a8⟩:=zge hok;have d5:=a4;rw [ya9,ybi] at a4
  have h0:SatR ⟨w,S,n,fun b=>b∈F,fun b=>b∈F,zko xs vs,[]⟩ sig0 { tmps:=vs.toArray++Array.replicate (n-vs.toArray.size) undef,defers:=[] } w ⟨fun o=>vs.getD o undef,fun _=>[],fun _=>0⟩:=by
   refine ⟨Belo.refl _ _ w,fun o=>trivial,fun o b ho=>absurd rfl ho.lv,fun o p b ho=>absurd rfl ho.lv,fun t=>.im _ _ (.any _),fun o=>rfl,fun b hb=>⟨⟨.inr hb,(hF b hb).2⟩,fun o ho=>absurd rfl ho.lv⟩,fun o v hl _=>?_,by simp;omega,rfl⟩;have hl:zko xs vs o=some v:=hl;unfold zko at hl;split at hl
   ·show vs.getD o undef=v;simp [List.getD,hl]
   ·show vs.getD o undef=v;simp [List.getD,hl]
   ·cases hl
  have d0:∀ b,S b->Imm ⟨w,S,n,fun b=>b∈F,fun b=>b∈F,zko xs vs,[]⟩ sig0 ⟨fun o=>vs.getD o undef,fun _=>[],fun _=>0⟩ w b:=fun b hb=>⟨.inl hb,hS b hb,fun o ho=>absurd rfl ho.lv,fun hf=>(hF b hf).1 hb⟩;obtain ⟨ρ2,Z2,b1,b2,b3,b4,b5,b6⟩:=zk3 tau0 (fun i=>i) (l:=xs.map zoy) (i:=0) h0 a1 d0 a0.1 (fun b hb=>a9 b (.inl hb)) a4.1 fun _ _=>⟨rfl,rfl⟩
  obtain ⟨ρ3,Z3,qs,c1,c2,c3,c4,c5,c6,c7,c8,c9⟩:=zn6 tau0 hbl b1 a2 (fun b hb=>b5 b (d0 b hb)) a0.2.1 (fun b hb=>b2 b (a9 b (.inr hb)) fun hf=>a0.2.2 b hf b hb rfl) a4.2.1 fun p hp=>by
   obtain ⟨_,d2,d3,_⟩:=b6 p.1 fun hm=>a4.2.2 p.1 hm p.1 (yao.2 ⟨p,hp,rfl⟩) rfl;exact ⟨d2,d3⟩
  have c0:app (app sig0 (zc9 tau0 (zcd tau0 (fun i=>i) 0 (xs.map zoy)).2)) (zc9 tau0 ss')=app sig0 (zc9 tau0 ((zcd tau0 (fun i=>i) 0 (xs.map zoy)).2++ss')):=by rw [zh6,za2]
  rw [c0] at c1 c5 c7 c8 c9
  have a7:∀ b,b∈bl.map (·.1)->ρ3 b=vs.getD b undef:=fun b hb=>by
   have a5:b∉(zcd tau0 (fun i=>i) 0 (xs.map zoy)).2.map (·.1):=fun hm=>a8 b (by rw [ya9];exact yam _ hm) hb;have a6:b∉ss'.map (·.1):=fun hm=>a8 b (by rw [ya9];exact yaj _ hm) hb;rw [(c9 b a6).1,(b6 b a5).1]
  obtain ⟨Z4,e1,e2,e3⟩:=zm0 c1 c5 c4 (fun q hq=>(c3 q hq).1) (by rw [c6];exact ziz) fun j b p hb hp=>by
   have d4:=zkH hb;rw [c6] at hb;obtain ⟨_,hp⟩:=zk4 b7 hb hp;rw [a7 b d4];rw [yep] at hp;simp [List.getD,hp]
  obtain ⟨g1,_,g3,_⟩:=e1.stepZ (σ':=app (app sig0 (zc9 tau0 ((zcd tau0 (fun i=>i) 0 (xs.map zoy)).2++ss'))) (bxWr bl)) (ρ':=ρ3) (w':=w) (fun _=>False) (fun _=>False) (fun _=>rfl) (fun _ _=>⟨rfl,rfl,fun _=>rfl,rfl,rfl,rfl⟩) (fun _ hd=>hd.elim) e1.igs (Belo.refl _ _ _) (fun _ _ hd=>hd.elim) (fun _ _ _ hd=>hd.elim)
   (fun _ hb=>hb.elim) fun _ _ _ hd=>hd.elim
  refine ⟨ρ3,?_⟩;rw [za2,za2]
  have lent:∀ t (ht:t<vs.length),t∈bl.map (·.1)->(app (app sig0 (zc9 tau0 ((zcd tau0 (fun i=>i) 0 (xs.map zoy)).2++ss'))) (bxWr bl)).gn t=0∧ρ3 t=vs[t]:=fun t ht hb=>by
   have a5:t∉(zcd tau0 (fun i=>i) 0 (xs.map zoy)).2.map (·.1):=fun hm=>a8 t (by rw [ya9];exact yam _ hm) hb;have a6:t∉ss'.map (·.1):=fun hm=>a8 t (by rw [ya9];exact yaj _ hm) hb;refine ⟨?_,by rw [a7 t hb];simp [List.getD,ht]⟩;rw [bxWr_gn,(c9 t a6).2.1,(b6 t a5).2.1];rfl
  refine g1.slots tmpW_same (fun t=>?_) (by simp;omega) rfl;have d1:xs.length=(zcd tau0 (fun i=>i) 0 (xs.map zoy)).1.length:=by rw [<- b3.1,b7]
  rw [tmpW_get d1,yep];by_cases ht:t<vs.length
  ·have hx:t<xs.length:=by omega
   have hv:(vs.toArray++Array.replicate (n-vs.toArray.size) undef).getD t undef=vs[t]:=by
    simp only [yc1];rw [yez (by simpa using ht)];simp [ht]
   obtain ⟨al,b8⟩:∃ al,(zcd tau0 (fun i=>i) 0 (xs.map zoy)).1[t]?=some al:=⟨_,zkM (by omega)⟩;have hr:=g3 _ _ (e3 _ _ (c7 _ _ (b3.2 t vs[t] al (zkM ht) b8)));rw [hv,zkM hx,b8];simp only [yag,if_true];cases hxt:xs[t] with
   | im x=>exact hr
   | ow k=>exact hr
   | box ty cs =>
    have hb:t∈bl.map (·.1):=by
     rw [c6];have:=zlu (xs:=xs) (i:=0) (o:=t) (x:=.box ty cs) (by rw [zkM hx,hxt]) rfl
     rwa [yai] at this
    obtain ⟨hg,b9⟩:=lent t ht hb;obtain ⟨q,hq⟩:∃ q,vs[t]=.pointer (some ⟨q,0,none⟩):=zea.ptr h (zkM ht) (by rw [zkM hx,hxt]);exact .own _ _ _ _ (by rw [hq];rfl) (by rw [hg];exact yap _) fun _=>⟨q,b9.trans hq,hq⟩
   | lent k =>
    have hb:t∈bl.map (·.1):=by
     rw [c6];have:=zlu (xs:=xs) (i:=0) (o:=t) (x:=.lent k) (by rw [zkM hx,hxt]) rfl
     rwa [yai] at this
    obtain ⟨hg,b9⟩:=lent t ht hb;exact .osl _ _ _ (zea.one h (zkM ht) (by rw [zkM hx,hxt])) (by rw [hg];exact yap _) fun _=>b9.symm
  ·rw [yaq (by omega)]
   have e0:(app (app sig0 (zc9 tau0 ((zcd tau0 (fun i=>i) 0 (xs.map zoy)).2++ss'))) (bxWr bl)).av t=.im .any:=by
    have k1:∀ (bl:List (Nat×LK)) (σ:St),(app σ (bxWr bl)).av t=σ.av t:=by
     intro bl
     induction bl with
     | nil=>intro σ;rfl
     | cons x bl ih =>
      intro σ;obtain ⟨b,x⟩:=x;show (app σ (lkWr b x++bxWr bl)).av t=_;rw [za2,ih,lkWr_av]
    have k2:∀ (l:List (Nat×Kd)) (σ:St),(app σ (zc9 tau0 l)).av t=σ.av t:=by
     intro l
     induction l with
     | nil=>intro σ;rfl
     | cons p l ih =>
      intro σ;rw [zc9,za2,ih];exact (mkK_eqs σ tau0 p.1 p.2).2.2.2.1 t
    rw [k1,k2];rfl
   simp only;rw [e0];exact .im _ _ (.any _)
theorem zen {f:FuncId} {fn:Func} {c:Code} (hf:P.funcs[f]?=some fn) (hname:(fn.name=="runtime.NumGoroutine")=false) (hb:fn.body=some c) (args:Array Value) (w:World):(callFunc f args).run P w=.ok (.enter f args) w:=by
 have h1:fn.name≠"runtime.NumGoroutine":=by simpa using hname
 simp [callFunc,hf,h1,hb]
theorem sp_of_code (hm:P.follows .mixedOrders=true) {C:FuncId->List Arg->Rs->Prop} (hC:∀ g xs r,C g xs r->SpX P g xs r) {own:List Nat} {f:FuncId} {fn:Func} {c:Code} (hf:P.funcs[f]?=some fn) (hname:(fn.name=="runtime.NumGoroutine")=false) (hb:fn.body=some c)
  {xs:List Arg} {r:Rs} (hn:xs.length<=fn.ntmps) (hok:entOk xs=true) (h:∀ w S vs F,zea w S vs xs F->zkm P C fn.ntmps own c (retK P fn.results.toList xs r) (st0 xs)):Sp P f xs r:=by
 refine ⟨fun args w=>zen hf hname hb args w,fun w S vs F hS a0 a6 hF=>?_⟩;have a3:=a0.len;refine calls_of_wp hf hb (zfw (B:=⟨w,S,fn.ntmps,fun b=>b∈F,fun _=>False,zko xs vs,[]⟩) hm hC c _ _ (h w S vs F a0) _ _ (st0_sat w S a0 a6 hF hS fn.ntmps (by rw [a3];exact hn) hok) _ fun e σ' a' w' hk a2=>?_)
 have a5:RetOk P fn.results.toList xs σ' r->a'.defers=[]∧∃ v,(results fn a'.tmps).run P w'=.ok v w'∧∃ (v':Value) (F':List Nat),Ending.returned v=.returned v'∧Belo (fun b=>b∈F) w.heap.size w w' ∧
   zn7 w' (fun b=>(S b∨w.heap.size<=b∨b∈F)∧b<w'.heap.size∧b∉F') v' (bxVs vs xs) r F'∧F'.Nodup∧∀ b∈F',(w.heap.size<=b∨b∈F)∧b<w'.heap.size:=fun hk=>by
  obtain ⟨v,F',hv,a4,h1,h2⟩:=ztt (vs0:=vs) hk a2 a3 fun j v hv=>hv;obtain ⟨ρ,a2⟩:=a2;exact ⟨a2.dfr,v,hv,v,F',rfl,a2.bel,a4,h1,h2⟩
 cases e with
 | ret=>exact a5 hk
 | normal=>exact a5 hk
 | exit id=>exact hk.elim
 | goto l=>exact hk.elim
 | panic ch=>exact hk.elim
 | outgrown=>exact hk.elim
def RetOkB (P:Program) (rs:List ResultVar) (xs:List Arg) (σ:St) (r:Rs):Prop :=
 match resAs P σ rs,r with
 | some ([.agg vs],c),.mk true l ys=>zlm σ c (match outCs σ l vs,zio σ 0 xs ys with
  | some (l',bs,gs),some (ys',bs',gs')=>Chk (ndB ((gs++gs').map (·.1)) ((bs++bs').map (·.1))) (zlm σ ((bs++bs')++(gs++gs')) (l'=l∧ys'=ys))
  | _,_=>False)
 | _,_=>False
def RetOkA (P:Program) (t:TypeId) (rs:List ResultVar) (xs:List Arg) (σ:St) (r:Rs):Prop:=match t with
 | 0=>RetOk P rs xs σ r
 | _=>RetOkB P rs xs σ r
def retKA (P:Program) (t:TypeId) (rs:List ResultVar) (xs:List Arg) (r:Rs):Exit->St->Prop
 | .ret,σ=>RetOkA P t rs xs σ r
 | .normal,σ=>RetOkA P t rs xs σ r
 | _,_=>False
theorem results_okA {fn:Func} {xs:List Arg} {vs0:List Value} {r:Rs} {σ:St} {t:TypeId} (h:RetOkA P t fn.results.toList xs σ r) {a:Act} {w:World} (hs:Sat B σ a w) (hl:vs0.length=xs.length) (hL:∀ j v,zko xs vs0 j=some v->B.L j=some v) :
  ∃ v u F',(results fn a.tmps).run P w=.ok v w∧RetA t v u∧zn7 w (fun b=>(B.S0 b∨Mine B b)∧b<w.heap.size∧b∉F') u (bxVs vs0 xs) r F'∧F'.Nodup∧∀ b∈F',Mine B b∧b<w.heap.size:=by
 match t,h with
 | 0,h =>
  obtain ⟨v,F',h1,h2⟩:=ztt h hs hl hL;exact ⟨v,v,F',h1,rfl,h2⟩
 | t+1,h =>
 obtain ⟨ρ,hs⟩:=hs;have h:RetOkB P fn.results.toList xs σ r:=h;unfold RetOkB at h;split at h
 ·rename_i vs c l ys b3 _ _;obtain ⟨hg,h⟩:=h.out;obtain ⟨us,b5,hr⟩:=resAs_ok hs b3 hg
  obtain ⟨a0,rfl,hr,ho⟩:∃ a0:List Value,us=[.agg a0.toArray]∧Reps w (Imm B σ ρ w) ρ σ.gn a0 vs∧∀ u∈a0,u.oneCell'=true:=by
   match us,hr with
   | [],hr=>have:=hr.1;simp at this
   | [u],hr =>
    have h1:=hr.2 0 u (.agg vs) rfl rfl;cases h1 with
    | agg a0 _ hl1 a2 hr1=>exact ⟨a0,rfl,⟨hl1,hr1⟩,a2⟩
   | _::_::_,hr=>have:=hr.1;simp at this
  have a5:(results fn a.tmps).run P w=.ok (.agg a0.toArray) w:=by
   rw [zty,Sem.run_bind,ye1,map_eq_pure_bind,Sem.run_bind,b5];simp only [Result.andThen_ok,Sem.run_pure];rfl
  split at h
  ·rename_i l' bs gs b6 bs' a3 h1 h2;obtain ⟨b4,h⟩:=h.ok;obtain ⟨a9,b2⟩:=zge b4;obtain ⟨a8,rfl,rfl⟩:=h.out;have a7:∀ p∈bs++bs',σ.gn p.1=p.2:=fun p hp=>a8 p (yam _ hp);have a4:∀ p∈gs++a3,σ.gn p.1=p.2:=fun p hp=>a8 p (yaj _ hp);have r1:=zqa hs (bs0:=bs++bs') a7 hr h1 (fun p hp=>yam _ hp) fun p hp=>a4 p (yam _ hp);have r2:=zlq hs (bs0:=bs++bs') a7 hl (i:=0) (fun j v hv=>by rw [yai];exact hL j v hv) h2 (fun p hp=>yaj _ hp) fun p hp=>a4 p (yaj _ hp)
   have a6:∀ u x,RepI w (Imm B (app σ (fwr (bs++bs'))) ρ w) u x->RepI w (fun b=>(B.S0 b∨Mine B b)∧b<w.heap.size∧b∉zc7 σ ρ gs++zc7 σ ρ a3) u x:=fun u x hr=>hr.mono (fun b hb=>⟨hb.1,hb.2.1,fun hf=>by
    rw [<- zd4] at hf
    obtain ⟨p,hp,ho⟩:=zdu.1 hf
    refine hb.2.2.1 p.1 ?_
    unfold Owns at ho ⊢
    rw [zkr,if_neg (b2 p.1 (yao.2 ⟨p,hp,rfl⟩))]
    exact ho⟩) fun _ _ _ h=>h
   have hn:=zeu hs a9;rw [zd4] at hn
   have hm:∀ b∈zc7 σ ρ gs++zc7 σ ρ a3,Mine B b∧b<w.heap.size:=fun b hb=>by
    rw [<- zd4] at hb;obtain ⟨p,hp,ho⟩:=zdu.1 hb;exact hs.own p.1 b ho
   exact ⟨_,_,_,a5,⟨a0,rfl,rfl,ho⟩,⟨a0,_,_,rfl,r1.mono a6,r2.mono a6,rfl⟩,hn,hm⟩
  ·exact h.elim
 ·exact h.elim
def entA (n k:Nat) (σ:St):List (Loc×Ct) :=
 (.tmp 0,.av (.agg ((List.range n).map fun j=>σ.av j)))::((List.range k).map (fun j=>(Loc.tmp (1+j),Ct.av (σ.av (n+j))))++(List.range n).map fun j=>(Loc.tmp (k+1+j),Ct.av (.im .any)))
theorem tmps_av (f:Nat->AV) (a:Nat) (t:Nat):∀ (m:Nat) (σ:St),(app σ ((List.range m).map fun j=>(Loc.tmp (a+j),Ct.av (f j)))).av t=if a<=t∧t<a+m then f (t-a) else σ.av t
 | 0,σ=>by
  rw [if_neg (by omega)];rfl
 | m+1,σ=>by
  rw [ydh,ya9,za2];show (upd (app σ ((List.range m).map fun j=>(Loc.tmp (a+j),Ct.av (f j)))) (.tmp (a+m)) (.av (f m))).av t=_;rw [zpn];by_cases h:t=a+m
  ·subst h;rw [if_pos rfl,if_pos (by omega),yed]
  ·rw [if_neg h,tmps_av f a t m σ];by_cases h2:a<=t∧t<a+m
   ·rw [if_pos h2,if_pos (by omega)]
   ·rw [if_neg h2,if_neg (by omega)]
theorem zsn (f:Nat->Loc×Ct) (hf:∀ j,∃ t v,f j=(.tmp t,.av v)):∀ (l:List Nat) (σ:St),zgg σ (app σ (l.map f))
 | [],_=>⟨rfl,rfl,rfl,rfl⟩
 | j::l,σ=>by
  obtain ⟨t,v,e⟩:=hf j;rw [ya1,e,zcl];have h1:=zgg.tmp σ t (.av v);have h2:=zsn f hf l (upd σ (.tmp t) (.av v));exact ⟨h2.gn.trans h1.gn,h2.ig.trans h1.ig,h2.kd.trans h1.kd,h2.ce.trans h1.ce⟩
theorem entA_av (n k t:Nat) (σ τ:St):(app σ (entA n k τ)).av t=if k+1<=t∧t<k+1+n then .im .any else if 1<=t∧t<1+k then τ.av (n+(t-1)) else if t=0 then .agg ((List.range n).map fun j=>τ.av j) else σ.av t:=by
 unfold entA;rw [zcl,za2,tmps_av (fun _=>.im .any),tmps_av (fun j=>τ.av (n+j)),zpn]
theorem entA_same (n k:Nat) (σ τ:St):zgg σ (app σ (entA n k τ)):=by
 unfold entA;rw [zcl,za2];have h1:=zgg.tmp σ 0 (.av (.agg ((List.range n).map fun j=>τ.av j)));have h2:=zsn (fun j=>(Loc.tmp (1+j),Ct.av (τ.av (n+j)))) (fun j=>⟨_,_,rfl⟩) (List.range k) (upd σ (.tmp 0) (.av (.agg ((List.range n).map fun j=>τ.av j))));have h3:=zsn (fun j=>(Loc.tmp (k+1+j),Ct.av (.im .any))) (fun j=>⟨_,_,rfl⟩) (List.range n) (app (upd σ (.tmp 0) (.av (.agg ((List.range n).map fun j=>τ.av j)))) ((List.range k).map fun j=>(Loc.tmp (1+j),Ct.av (τ.av (n+j)))));exact ⟨h3.gn.trans (h2.gn.trans h1.gn),h3.ig.trans (h2.ig.trans h1.ig),h3.kd.trans (h2.kd.trans h1.kd),h3.ce.trans (h2.ce.trans h1.ce)⟩
theorem pad_getD (vs:List Value) (N t:Nat):(vs.toArray++Array.replicate N undef).getD t undef=vs.getD t undef:=by
 simp only [yc1,ybs];by_cases h:t<vs.length
 ·rw [yez (by simpa using h)];simp
 ·rw [Array.getElem?_append_right (by simp;omega),yaq (by omega),Array.getElem?_replicate];split<;>rfl
theorem st0A_sat (w:World) (S:Nat->Prop) {us vs:List Value} {xs:List Arg} {F:List Nat} (h:zea w S (us++vs) xs F) (h1:∀ u∈us,u.oneCell'=true) (hnd:F.Nodup) (hF:∀ b∈F,¬ S b∧b<w.heap.size) (hS:∀ b,S b->b<w.heap.size) (N:Nat) (hn:xs.length<=N) (hn2:vs.length+1<=N) (hok:entOk xs=true) :
  Sat ⟨w,S,N,fun b=>b∈F,fun _=>False,zko xs (us++vs),[]⟩ (app (st0 xs) (entA us.length vs.length (st0 xs))) { tmps:=(.agg us.toArray::vs).toArray++Array.replicate (N-(.agg us.toArray::vs).toArray.size) undef,defers:=[] } w:=by
 have a0:=h.len;obtain ⟨ρ,hs⟩:=st0_sat w S h hnd hF hS N (by omega) hok;refine ⟨ρ,hs.slots (entA_same _ _ _ _) (fun t=>?_) (by simp;omega) rfl⟩;rw [entA_av]
 have hv:∀ t,RepA w (Imm ⟨w,S,N,fun b=>b∈F,fun _=>False,zko xs (us++vs),[]⟩ (st0 xs) ρ w) ρ (st0 xs).gn ((us++vs).getD t undef) ((st0 xs).av t):=fun t=>by
  have:=hs.tms t;rw [pad_getD] at this;exact this
 simp only [pad_getD];by_cases c1:vs.length+1<=t∧t<vs.length+1+us.length
 ·rw [if_pos c1];exact .im _ _ (.any _)
 ·rw [if_neg c1];by_cases c2:1<=t∧t<1+vs.length
  ·rw [if_pos c2];have:=hv (us.length+(t-1));obtain ⟨j,rfl⟩:∃ j,t=j+1:=⟨t-1,by omega⟩;rw [yd6] at this ⊢
   have e:(us++vs).getD (us.length+j) undef=(Value.agg us.toArray::vs).getD (j+1) undef:=by
    simp only [ybs];rw [yax (by omega),yed];rfl
   rw [<- e];exact this
  ·rw [if_neg c2];by_cases c3:t=0
   ·subst c3;rw [if_pos rfl];refine .agg us _ (by simp) h1 fun i u x hu hx=>?_;have hi:=(zkI.1 hu).1;rw [yaf,ybh hi] at hx;simp only [yal,zkF] at hx;subst hx;have:=hv i
    have e:(us++vs).getD i undef=u:=by
     simp only [ybs];rw [yan hi,hu];rfl
    rw [e] at this;exact this
   ·rw [if_neg c3];have:=hv t
    have e:(us++vs).getD t undef=(Value.agg us.toArray::vs).getD t undef:=by
     simp only [ybs];rw [yaq (by rw [zkJ];omega),yaq (by rw [zkL];omega)]
    rw [<- e];exact this
theorem sp_ofA_code (hm:P.follows .mixedOrders=true) {C:FuncId->List Arg->Rs->Prop} (hC:∀ g xs r,C g xs r->SpX P g xs r) {own:List Nat} {f:FuncId} {fn:Func} {c:Code} (hf:P.funcs[f]?=some fn) (hname:(fn.name=="runtime.NumGoroutine")=false) (hb:fn.body=some c)
  {t:TypeId} {l:List Oc} {k:Nat} {xs:List Arg} {r:Rs} (hl:l.length+k=xs.length) (hn:xs.length<=fn.ntmps) (hn2:k+1<=fn.ntmps) (hok:entOk xs=true) (h:∀ w S vs F,zea w S vs xs F->zkm P C fn.ntmps own c (retKA P t fn.results.toList xs r) (app (st0 xs) (entA l.length k (st0 xs)))):SpX P f (.lent .dead::.box t l::xs) r:=by
 refine ⟨fun args w=>zen hf hname hb args w,fun w S us vs F hS a0 hu h1 a8 hF=>?_⟩;have a6:=a0.len;rw [zkJ] at a6;have hk:k=vs.length:=by omega
 subst hk;have a7:=st0A_sat w S a0 h1 a8 hF hS fn.ntmps hn hn2 hok;have h:=h w S _ F a0;rw [<- hu] at h;refine calls_of_wp hf hb (zfw (B:=⟨w,S,fn.ntmps,fun b=>b∈F,fun _=>False,zko xs (us++vs),[]⟩) hm hC c _ _ h _ _ a7 _ fun e σ' a' w' hk a2=>?_)
 have a5:RetOkA P t fn.results.toList xs σ' r->a'.defers=[]∧∃ v,(results fn a'.tmps).run P w'=.ok v w'∧∃ (v' u:Value) (F':List Nat),Ending.returned v=.returned v'∧RetA t v' u∧Belo (fun b=>b∈F) w.heap.size w w' ∧
   zn7 w' (fun b=>(S b∨w.heap.size<=b∨b∈F)∧b<w'.heap.size∧b∉F') u (bxVs (us++vs) xs) r F'∧F'.Nodup∧∀ b∈F',(w.heap.size<=b∨b∈F)∧b<w'.heap.size:=fun hk=>by
  obtain ⟨v,u,F',hv,a3,a4,h1,h2⟩:=results_okA (vs0:=us++vs) hk a2 a0.len fun j v hv=>hv;obtain ⟨ρ,a2⟩:=a2;exact ⟨a2.dfr,v,hv,v,u,F',rfl,a3,a2.bel,a4,h1,h2⟩
 cases e with
 | ret=>exact a5 hk
 | normal=>exact a5 hk
 | exit id=>exact hk.elim
 | goto l=>exact hk.elim
 | panic ch=>exact hk.elim
 | outgrown=>exact hk.elim
end
end
section
open Go.RowKit
def lookA:List (Nat×AV)->Nat->AV
 | [],_=>.im .any
 | p::l,t=>match Nat.beq t p.1 with | true=>p.2 | false=>lookA l t
def zom:List (Nat×Kd)->Nat->Kd
 | [],_=>.dead
 | p::l,t=>match Nat.beq t p.1 with | true=>p.2 | false=>zom l t
def lookC:List (Nat×Nat×AV)->Nat->Nat->AV
 | [],_,_=>.im .any
 | p::l,o,i=>match Nat.beq o p.1&&Nat.beq i p.2.1 with | true=>p.2.2 | false=>lookC l o i
def gnM:List (Nat×Kd)->Nat->Nat
 | [],_=>1
 | p::l,o=>match Nat.beq o p.1 with | true=>(match Nat.blt o 64 with | true=>0 | false=>1) | false=>gnM l o
def mkSt (avs:List (Nat×AV)) (kds:List (Nat×Kd)) (cels:List (Nat×Nat×AV)):St:=fun l=>match l with
 | .tmp t=>.av (lookA avs t)
 | .gen o=>.n (gnM kds o)
 | .ign _=>.n 0
 | .knd o=>.kd (zom kds o)
 | .cel o i=>.av (lookC cels o i)
inductive Sub:AV->AV->Prop
 | refl (a:AV):Sub a a
 | any (a:AV):Sub a (.im .any)
 | nz (x:IV):Sub (.im x) (.im (Sym.nz x))
theorem RepA.less {w:World} {S:Nat->Prop} {ρ:Ly} {γ:Nat->Nat} {v:Value} {x y:AV} (h:RepA w S ρ γ v x) (s:Sub x y):RepA w S ρ γ v y:=by
 cases s with
 | refl=>exact h
 | any=>exact .im _ _ (.any _)
 | nz x=>exact .im _ _ (nz_rep h.im_inv)
theorem Sub.rfl' {a b:AV} (h:a=b):Sub a b:=h ▸ .refl _
def zfy:List (Nat×Option Nat)->Nat->Option (Option Nat)
 | [],_=>none
 | p::l,b=>match Nat.beq b p.1 with | true=>some p.2 | false=>zfy l b
def srcs:List (Nat×Option Nat)->List Nat
 | []=>[]
 | (_,some a)::l=>a::srcs l
 | (_,none)::l=>srcs l
mutual
inductive SubR (σ:St) (src:List (Nat×Option Nat)) (γ:Nat->Nat):AV->AV->Prop
 | im {a:AV} {b:IV} (h:Sub a (.im b)):SubR σ src γ a (.im b)
 | osl {a b g g':Nat} (h:zfy src b=some (some a)) (hg:σ.gn a=g) (hg':γ b=g'):SubR σ src γ (.osl a g) (.osl b g')
 | osv {a b g g' k m:Nat} (h:zfy src b=some (some a)) (hg:σ.gn a=g) (hg':γ b=g'):SubR σ src γ (.osv a g k m) (.osv b g' k m)
 | made {b g':Nat} (h:zfy src b=some none) (hg':γ b=g'):SubR σ src γ (.im (.val (.slice none 0 0))) (.osl b g')
 | own {a b g g' i:Nat} (h:zfy src b=some (some a)) (hg:σ.gn a=g) (hg':γ b=g'):SubR σ src γ (.own a g i) (.own b g' i)
 | elt {a b g g' k i j:Nat} (h:zfy src b=some (some a)) (hg:σ.gn a=g) (hg':γ b=g'):SubR σ src γ (.elt a g k i j) (.elt b g' k i j)
 | sub {a b g i:Nat} (h:zfy src b=some (some a)) (hg:σ.ig a=g):SubR σ src γ (.sub a g i) (.sub b 0 i)
 | fn {f:FuncId} {cs ds:List AV} (h:zs4 σ src γ cs ds):SubR σ src γ (.fn f cs) (.fn f ds)
 | agg {cs ds:List AV} (h:zs4 σ src γ cs ds):SubR σ src γ (.agg cs) (.agg ds)
inductive zs4 (σ:St) (src:List (Nat×Option Nat)) (γ:Nat->Nat):List AV->List AV->Prop
 | nil:zs4 σ src γ [] []
 | cons {c d:AV} {cs ds:List AV} (h:SubR σ src γ c d) (t:zs4 σ src γ cs ds):zs4 σ src γ (c::cs) (d::ds)
end
section
variable {w:World} {S S':Nat->Prop} {σ:St} {ρ ρ':Ly} {src:List (Nat×Option Nat)} {γ:Nat->Nat}
mutual
theorem SubR.rep (hI:∀ v x,RepI w S v x->RepI w S' v x) (hρ:∀ b a,zfy src b=some (some a)->ρ' b=ρ a∧ρ'.inn b=ρ.inn a) (hn:∀ b,zfy src b=some none->ρ' b=.slice none 0 0) (hig:(∀ o,ρ.ig o=σ.ig o)∧∀ o,ρ'.ig o=0) :
  ∀ {x y:AV},SubR σ src γ x y->∀ {v:Value},RepA w S ρ σ.gn v x->RepA w S' ρ' γ v y
 | x,_,.im h,v,hr=>.im _ _ (hI _ _ (hr.less h).im_inv)
 | _,_,.osl h hg hg',v,hr=>by
  cases hr with
  | osl _ _ _ h1 h2 h3=>exact .osl _ _ _ h1 (ydx hg'.symm) fun _=>by rw [(hρ _ _ h).1];exact h3 hg
 | _,_,.osv h hg hg',v,hr=>by
  cases hr with
  | osv _ _ _ _ _ h1 h2 h3=>exact .osv _ _ _ _ _ h1 (ydx hg'.symm) fun _=>by rw [(hρ _ _ h).1];exact h3 hg
 | _,_,.made h hg',v,hr=>by
  cases hr.im_inv with
  | val _=>exact .osl _ _ _ rfl (ydx hg'.symm) fun _=>(hn _ h).symm
 | _,_,.own h hg hg',v,hr=>by
  cases hr with
  | own _ _ _ _ h1 h2 h3=>exact .own _ _ _ _ h1 (ydx hg'.symm) fun _=>by rw [(hρ _ _ h).1];exact h3 hg
 | _,_,.elt h hg hg',v,hr=>by
  cases hr with
  | elt _ _ _ _ _ _ h1 h2 h3=>exact .elt _ _ _ _ _ _ h1 (ydx hg'.symm) fun _=>by rw [(hρ _ _ h).1];exact h3 hg
 | _,_,.sub h hg,v,hr=>by
  cases hr with
  | sub _ _ _ _ h1 h2 h3=>exact .sub _ _ _ _ h1 (yag _) fun _=>by rw [(hρ _ _ h).2];exact h3 ((hig.1 _).trans hg)
 | _,_,.fn h,v,hr=>by
  cases hr with
  | fn _ us _ hl h1 =>
   have:=zs4.rep hI hρ hn hig h ⟨hl,h1⟩;exact .fn _ _ _ this.1 this.2
 | _,_,.agg h,v,hr=>by
  cases hr with
  | agg us _ hl h0 h1 =>
   have:=zs4.rep hI hρ hn hig h ⟨hl,h1⟩;exact .agg _ _ this.1 h0 this.2
theorem zs4.rep (hI:∀ v x,RepI w S v x->RepI w S' v x) (hρ:∀ b a,zfy src b=some (some a)->ρ' b=ρ a∧ρ'.inn b=ρ.inn a) (hn:∀ b,zfy src b=some none->ρ' b=.slice none 0 0) (hig:(∀ o,ρ.ig o=σ.ig o)∧∀ o,ρ'.ig o=0) :
  ∀ {xs ys:List AV},zs4 σ src γ xs ys->∀ {us:List Value},Reps w S ρ σ.gn us xs->Reps w S' ρ' γ us ys
 | _,_,.nil,us,hr=>⟨hr.1,fun i u x hu hx=>by simp at hx⟩
 | _,_,.cons h t,[],hr=>by have:=hr.1;simp at this
 | _,_,.cons h t,u::us,hr=>by
  have h1:=SubR.rep hI hρ hn hig h (hr.2 0 u _ rfl rfl);have h2:=zs4.rep hI hρ hn hig t (us:=us) ⟨by simpa using hr.1,fun i u x hu hx=>hr.2 (i+1) u x (by simpa using hu) (by simpa using hx)⟩;refine ⟨by simp [h2.1],fun i v x hv hx=>?_⟩;cases i with
  | zero=>simp at hv hx;subst hv hx;exact h1
  | succ i=>exact h2.2 i v x (by simpa using hv) (by simpa using hx)
end
end
def SubL (σ:St) (src:List (Nat×Option Nat)) (γ:Nat->Nat):List (Nat×AV)->Prop
 | []=>True
 | p::l=>(∃ x,σ.av p.1=x∧SubR σ src γ x p.2)∧SubL σ src γ l
def KeepOk (σ:St) (o a:Nat):Prop:=match Nat.blt o 64 with | true=>a=o∧σ.gn a=0 | false=>True
def NilKd (o:Nat) (k:Kd):Prop:=Nat.blt o 64=false∧((∃ e m,k=.row e m []∧0<m)∨(∃ e e' m,k=.grid e e' m [] none)∨∃ t e m,k=.bag t e m [] none)
def KdL (σ:St) (src:List (Nat×Option Nat)):List (Nat×Kd)->Prop
 | []=>True
 | p::l=>((∃ a,zfy src p.1=some (some a)∧σ.kd a=p.2∧KeepOk σ p.1 a)∨(zfy src p.1=some none∧NilKd p.1 p.2))∧KdL σ src l
def CeL (σ:St) (src:List (Nat×Option Nat)) (γ:Nat->Nat):List (Nat×Nat×AV)->Prop
 | []=>True
 | p::l=>(∃ a x,zfy src p.1=some (some a)∧σ.ce a p.2.1=x∧SubR σ src γ x p.2.2)∧CeL σ src γ l
theorem lookA_sub {σ:St} {src:List (Nat×Option Nat)} {γ:Nat->Nat}:∀ {avs:List (Nat×AV)},SubL σ src γ avs->∀ t,SubR σ src γ (σ.av t) (lookA avs t)
 | [],_,t=>.im (.any _)
 | p::l,h,t=>by
  unfold lookA;split
  ·rename_i e;have e:=yav e;subst e;obtain ⟨x,h1,h2⟩:=h.1;rw [h1];exact h2
  ·exact lookA_sub h.2 t
theorem zq9 {σ:St} {src:List (Nat×Option Nat)} {γ:Nat->Nat}:∀ {cels:List (Nat×Nat×AV)},CeL σ src γ cels->∀ b a i,zfy src b=some (some a)->SubR σ src γ (σ.ce a i) (lookC cels b i)
 | [],_,b,a,i,_=>.im (.any _)
 | p::l,h,b,a,i,hs=>by
  unfold lookC;split
  ·rename_i e;rw [ya4] at e;have e1:=yav e.1;have e2:=yav e.2;subst e1 e2;obtain ⟨a',x,h1,h3,h2⟩:=h.1;rw [hs] at h1;injection h1 with h1
   injection h1 with h1
   subst h1;rw [h3];exact h2
  ·exact zq9 h.2 b a i hs
theorem zsi {σ:St} {src:List (Nat×Option Nat)}:∀ {kds:List (Nat×Kd)},KdL σ src kds->∀ o,zom kds o≠.dead ->
  (∃ a,zfy src o=some (some a)∧σ.kd a=zom kds o∧KeepOk σ o a)∨(zfy src o=some none∧NilKd o (zom kds o))
 | [],_,o,h=>absurd rfl h
 | p::l,h,o,hd=>by
  unfold zom at hd ⊢;split
  ·rename_i e;have e:=yav e;subst e;exact h.1
  ·rename_i e;rw [e] at hd;exact zsi h.2 o hd
theorem gnM_keep {σ:St} {src:List (Nat×Option Nat)}:∀ {kds:List (Nat×Kd)},KdL σ src kds->∀ o,gnM kds o=0->zfy src o=some (some o)∧σ.gn o=0
 | [],_,o,h=>by simp [gnM] at h
 | p::l,h,o,hg=>by
  unfold gnM at hg;split at hg
  ·rename_i e;have e:=yav e;subst e;split at hg
   ·rename_i hb;rcases h.1 with ⟨a,h1,_,h3⟩ | ⟨_,h3,_⟩
    ·unfold KeepOk at h3;rw [hb] at h3;obtain ⟨rfl,h4⟩:=h3;exact ⟨h1,h4⟩
    ·rw [hb] at h3;cases h3
   ·cases hg
  ·exact gnM_keep h.2 o hg
theorem znu:∀ {src:List (Nat×Option Nat)} {b a:Nat},zfy src b=some (some a)->a∈srcs src
 | [],b,a,h=>by cases h
 | (c,o)::l,b,a,h=>by
  unfold zfy at h;split at h
  ·simp only [zkF] at h;subst h;simp [srcs]
  ·cases o with
   | none=>exact znu (src:=l) h
   | some d=>exact yay _ (znu h)
theorem zsd:∀ {src:List (Nat×Option Nat)},(srcs src).Nodup->∀ {b c a:Nat},zfy src b=some (some a)->zfy src c=some (some a)->b=c
 | [],_,b,c,a,h,_=>by cases h
 | (d,o)::l,hn,b,c,a,h,k=>by
  unfold zfy at h k;cases o with
  | none =>
   split at h
   ·cases h
   ·split at k
    ·cases k
    ·exact zsd (src:=l) hn h k
  | some q =>
   obtain ⟨h1,h2⟩:=yb2.1 hn;split at h
   ·rename_i e1;simp only [zkF] at h;subst h;split at k
    ·rename_i e2;rw [yav e1,yav e2]
    ·exact absurd (znu k) h1
   ·split at k
    ·simp only [zkF] at k;subst k;exact absurd (znu h) h1
    ·exact zsd h2 h k
theorem Ent.trans {σ σ' σ'':St} (h:Ent σ σ') (k:Ent σ' σ''):Ent σ σ'':=fun B a w hs=>k B a w (h B a w hs)
theorem Ent.mk {σ:St} {avs:List (Nat×AV)} {kds:List (Nat×Kd)} {cels:List (Nat×Nat×AV)} (src:List (Nat×Option Nat)) (hn:ndB (srcs src) []=true) (ha:SubL σ src (gnM kds) avs) (hk:KdL σ src kds) (hc:CeL σ src (gnM kds) cels):Ent σ (mkSt avs kds cels):=by
 rintro B a w ⟨ρ,hs⟩;have a4:=(zge hn).1
 let ρ':Ly:=⟨fun b=>match zfy src b with | some (some a)=>ρ a | _=>.slice none 0 0,fun b=>match zfy src b with | some (some a)=>ρ.inn a | _=>[],fun _=>0⟩
 have hρ:∀ b a,zfy src b=some (some a)->ρ' b=ρ a∧ρ'.inn b=ρ.inn a:=fun b a h=>by simp only [ρ',h];exact ⟨trivial,trivial⟩
 have hρn:∀ b,zfy src b=some none->ρ' b=.slice none 0 0:=fun b h=>by simp only [ρ',h]
 have hρi:∀ b,zfy src b=some none->ρ'.inn b=[]:=fun b h=>by simp only [ρ',h]
 have a2:∀ o,(mkSt avs kds cels).kd o=zom kds o:=fun _=>rfl
 have a0:∀ o q,Owns (mkSt avs kds cels) ρ' o q->∃ a,zfy src o=some (some a)∧Owns σ ρ a q:=fun o q hq=>by
  rcases zsi hk o hq.lv with ⟨a,h1,h2,_⟩ | ⟨h1,_,h2⟩
  ·refine ⟨a,h1,?_⟩;unfold Owns at hq ⊢;rw [a2,(hρ o a h1).1,(hρ o a h1).2] at hq;rw [h2];exact hq
  ·unfold Owns at hq;rw [a2,hρn o h1,hρi o h1] at hq;rcases h2 with ⟨e,m,h2,_⟩ | ⟨e,e',m,h2⟩ | ⟨t,e,m,h2⟩
   ·rw [h2] at hq;simp [fpk,zbz] at hq
   ·rw [h2] at hq;simp [fpk,fpv,zbz] at hq
   ·rw [h2] at hq;simp [fpk,fpv,zbz] at hq
 have hS:∀ b,Imm B σ ρ w b->Imm B (mkSt avs kds cels) ρ' w b:=fun b hi=>⟨hi.1,hi.2.1,fun o hq=>by
  obtain ⟨a,_,h2⟩:=a0 o b hq
  exact hi.2.2.1 a h2,hi.2.2.2⟩
 have hI:∀ v x,RepI w (Imm B σ ρ w) v x->RepI w (Imm B (mkSt avs kds cels) ρ' w) v x:=fun v x hr=>hr.mono hS fun _ _ _ h=>h;have hA:∀ {x y:AV},SubR σ src (gnM kds) x y->∀ {v:Value},RepA w (Imm B σ ρ w) ρ σ.gn v x->RepA w (Imm B (mkSt avs kds cels) ρ' w) ρ' (mkSt avs kds cels).gn v y:=fun h _ hr=>SubR.rep hI hρ hρn ⟨hs.igs,fun _=>rfl⟩ h hr;refine ⟨ρ',hs.bel,fun o=>?_,fun o b ho=>?_,fun o p b h1 h2=>?_,fun t=>hA (lookA_sub ha t) (hs.tms t),fun _=>rfl,fun b hb=>⟨(hs.res b hb).1,fun o ho=>?_⟩,fun o v hl hg=>?_,hs.siz,hs.dfr⟩
 ·rw [a2]
  have nil:zfy src o=some none->NilKd o (zom kds o)->zkl B (mkSt avs kds cels) ρ' w o (zom kds o):=fun h1 ⟨_,h2⟩=>by
   rcases h2 with ⟨e,m,h2,h3⟩ | ⟨e,e',m,h2⟩ | ⟨t,e,m,h2⟩
   ·rw [h2];show zhl w _ (ρ' o) e m [];rw [hρn o h1];exact ⟨[],h3,by simp,by simp,World.ownsRow_nil _ _ _ _,rfl,by simp,by simp⟩
   ·rw [h2];show zi2 w _ (ρ' o) (ρ'.inn o) e e' m [] none;rw [hρn o h1,hρi o h1];exact ⟨ycz,rfl,[],yag _,World.ownsRow_nil _ _ _ _,by simp,fun i u hu=>by simp at hu⟩
   ·rw [h2];show zp6 w _ (ρ' o) (ρ'.inn o) t e m []∧_;rw [hρn o h1,hρi o h1];exact ⟨⟨rfl,ycz,[],rfl,rfl,fun i g row hg _=>by simp at hg⟩,fun p hp=>by cases hp⟩
  have a3:∀ a,zfy src o=some (some a)->σ.kd a=zom kds o->zkl B (mkSt avs kds cels) ρ' w o (zom kds o):=fun a h1 h2=>by
   have ho:=hs.obs a;rw [h2] at ho;obtain ⟨e1,e2⟩:=hρ o a h1;cases e:zom kds o with
   | dead=>trivial
   | box t m =>
    rw [e] at ho;obtain ⟨b,us,h3,h4,h5,h6,h7⟩:=ho;exact ⟨b,us,e1.trans h3,h4,h5,h6,fun i u hu=>hA (zq9 hc o a i h1) (h7 i u hu)⟩
   | row t k es =>
    rw [e] at ho;show zdk w (Imm B (mkSt avs kds cels) ρ' w) (ρ' o) (ρ'.inn o) (.row t k es);rw [e1,e2];exact zdk.mono (k:=.row t k es) ho (fun _ _=>rfl) hI
   | grid t t' k gs q =>
    rw [e] at ho;show zdk w (Imm B (mkSt avs kds cels) ρ' w) (ρ' o) (ρ'.inn o) (.grid t t' k gs q);rw [e1,e2];exact zdk.mono (k:=.grid t t' k gs q) ho (fun _ _=>rfl) hI
   | map l =>
    rw [e] at ho;show zdk w (Imm B (mkSt avs kds cels) ρ' w) (ρ' o) (ρ'.inn o) (.map l);rw [e1,e2];exact zdk.mono (k:=.map l) ho (fun _ _=>rfl) hI
   | bag ty te m l q =>
    rw [e] at ho;show zp6 w (Imm B (mkSt avs kds cels) ρ' w) (ρ' o) (ρ'.inn o) ty te m l∧_;rw [e1,e2];exact ⟨zp6.mono ho.1 (fun _ _=>rfl) hI,fun p hp=>hA (zq9 hc o a 0 h1) (ho.2 p hp)⟩
   | mapI l c =>
    rw [e] at ho;show GoOk w (Imm B (mkSt avs kds cels) ρ' w) (ρ' o) (ρ'.inn o) l c;rw [e1,e2];exact GoOk.mono ho (fun _ _=>rfl) hI
   | que t k es =>
    rw [e] at ho;show zdk w (Imm B (mkSt avs kds cels) ρ' w) (ρ' o) (ρ'.inn o) (.que t k es);rw [e1,e2];exact zdk.mono (k:=.que t k es) ho (fun _ _=>rfl) hI
  by_cases hd:zom kds o=.dead
  ·rw [hd];trivial
  ·rcases zsi hk o hd with ⟨a,h1,h2,_⟩ | ⟨h1,h2⟩
   ·exact a3 a h1 h2
   ·exact nil h1 h2
 ·obtain ⟨a,_,h2⟩:=a0 o b ho;exact hs.own a b h2
 ·obtain ⟨c,e1,b1⟩:=a0 o b h1;obtain ⟨d,e2,b2⟩:=a0 p b h2;have:=hs.dis c d b b1 b2;subst this;exact zsd a4 e1 e2
 ·obtain ⟨a,_,h2⟩:=a0 o b ho;exact (hs.res b hb).2 a h2
 ·obtain ⟨h1,h2⟩:=gnM_keep hk o hg;rw [(hρ o o h1).1];exact hs.rt o v hl h2
theorem SatR.say {B:Base} {σ:St} {a:Act} {w:World} {ρ:Ly} (h:SatR B σ a w ρ) (t:Nat) {v:AV} (hv:RepA w (Imm B σ ρ w) ρ σ.gn (a.tmps.getD t undef) v):SatR B (upd σ (.tmp t) (.av v)) a w ρ:=by
 refine h.slots (zgg.tmp σ t (.av v)) (fun u=>?_) h.siz h.dfr;rw [zpn];by_cases e:u=t
 ·rw [if_pos e,e];exact hv
 ·rw [if_neg e];exact h.tms u
theorem Ent.fz {σ:St} (t:Nat) {x:IV} {bs:yad} (h:fz σ (σ.av t)=some (x,bs)) (hg:gok σ bs):Ent σ (upd (app σ (fwr bs)) (.tmp t) (.av (.im x))):=by
 rintro B a w ⟨ρ,hs⟩;exact ⟨ρ,(hs.kills bs).1.say t (.im _ _ (fz_ok hs (bs':=bs) (gok_mem hg) (hs.tms t) h fun _ h=>h))⟩
theorem Ent.que {σ:St} (o:Nat) {e:TypeId} {k:Nat} {es:List (List IV)} (h:σ.kd o=.row e k es):Ent σ (upd σ (.knd o) (.kd (.que e k es))):=by
 rintro B a w ⟨ρ,hs⟩
 have a0:∀ p b,Owns (upd σ (.knd o) (.kd (.que e k es))) ρ p b↔Owns σ ρ p b:=fun p b=>by
  unfold Owns;rw [zfj];by_cases hp:p=o
  ·rw [if_pos hp,hp,h];rfl
  ·rw [if_neg hp]
 have a2:Imm B (upd σ (.knd o) (.kd (.que e k es))) ρ w=Imm B σ ρ w:=by
  funext b;unfold Imm;simp only [a0]
 have a3:(upd σ (.knd o) (.kd (.que e k es))).gn=σ.gn:=funext fun p=>zgh σ o p _;refine ⟨ρ,hs.bel,fun p=>?_,fun p b hp=>hs.own p b ((a0 p b).1 hp),fun p q b hp hq=>hs.dis p q b ((a0 p b).1 hp) ((a0 q b).1 hq),fun t=>?_,fun p=>by rw [zi4];exact hs.igs p,fun b hb=>⟨(hs.res b hb).1,fun p hp=>(hs.res b hb).2 p ((a0 p b).1 hp)⟩,fun p v hl hg=>hs.rt p v hl (by rw [a3] at hg;exact hg),hs.siz,hs.dfr⟩
 ·rw [zfj];by_cases hp:p=o
  ·rw [if_pos hp];have ho:=hs.obs p;rw [hp,h] at ho;show zjk w (Imm B _ ρ w) (ρ p) e k es;rw [a2,hp];exact zhl.que ho
  ·rw [if_neg hp];exact (hs.obs p).mono rfl rfl (fun i=>zja σ o p i _) (fun _ _=>rfl) (fun v x hr=>by rw [a2];exact hr) fun v x hr=>by rw [a2,a3];exact hr
 ·rw [a2,a3,zh0];exact hs.tms t
def Ok (x:IV):Prop:=∃ w S v,RepI w S v x
def OkL (es:List (List IV)):Prop:=es.length<=17592186044416∧∀ e∈es,∀ x∈e,Ok x
theorem ok_flat {w:World} {S:Nat->Prop} {es:List (List IV)} {us:List Value} (hl:us.length=es.flatten.length) (hr:∀ (i:Nat) u x,us[i]?=some u->es.flatten[i]?=some x->RepI w S u x):∀ e∈es,∀ x∈e,Ok x:=fun e he x hx=>by
 have hm:x∈es.flatten:=ydz.2 ⟨e,he,hx⟩;obtain ⟨i,hi⟩:=ycy hm;have hlt:i<us.length:=by rw [hl];exact (zkI.1 hi).1
 exact ⟨w,S,_,hr i _ x (zkM hlt) hi⟩
theorem Ok.sl {es:List (List IV)} (h:Ok (.sl es)):OkL es:=by
 obtain ⟨w,S,v,h⟩:=h;cases h with
 | emp A c=>exact ⟨yag _,by simp⟩
 | sl b o c k n _ us hn hk hc hs hS hl h1 hu hr=>exact ⟨by omega,ok_flat hl hr⟩
theorem ok_all {w:World} {S:Nat->Prop} {cs:List IV} {us:List Value} (hl:us.length=cs.length) (hr:∀ (i:Nat) u x,us[i]?=some u->cs[i]?=some x->RepI w S u x):∀ x∈cs,Ok x:=fun x hx=>by
 obtain ⟨i,hi⟩:=ycy hx;have hlt:i<us.length:=by rw [hl];exact (zkI.1 hi).1
 exact ⟨w,S,_,hr i _ x (zkM hlt) hi⟩
theorem Ok.agg {cs:List IV} (h:Ok (.agg cs)):∀ x∈cs,Ok x:=by
 obtain ⟨w,S,v,h⟩:=h;cases h with
 | agg us _ hl h1 hr=>exact ok_all hl hr
theorem Ok.agg_at {cs:List IV} {x:IV} (h:Ok (.agg cs)) (i:Nat) (hx:cs[i]?=some x):Ok x:=h.agg x (zkH hx)
theorem Ok.ref {cs:List IV} (h:Ok (.ref cs)):∀ x∈cs,Ok x:=by
 obtain ⟨w,S,v,h⟩:=h;cases h with
 | ref b o us _ hS hl h1 hu hr=>exact ok_all hl hr
theorem Ok.ref_at {cs:List IV} {x:IV} (h:Ok (.ref cs)) (i:Nat) (hx:cs[i]?=some x):Ok x:=h.ref x (zkH hx)
theorem Holds.true_ (σ:St):Holds σ True:=fun _ _ _ _=>trivial
theorem Holds.and {σ:St} {φ ψ:Prop} (h:Holds σ φ) (k:Holds σ ψ):Holds σ (φ∧ψ):=fun B a w hs=>⟨h B a w hs,k B a w hs⟩
theorem Holds.av {σ:St} (t:Nat) {x:IV} (h:σ.av t=.im x):Holds σ (Ok x):=by
 rintro B a w ⟨ρ,hs⟩;have h1:=hs.tms t;rw [h] at h1;exact ⟨_,_,_,h1.im_inv⟩
theorem Holds.ce {σ:St} (o i:Nat) {t:TypeId} {m:Nat} {x:IV} (hk:σ.kd o=.box t m) (hi:i<m) (h:σ.ce o i=.im x):Holds σ (Ok x):=by
 rintro B a w ⟨ρ,hs⟩;have ho:=hs.obs o;rw [hk] at ho;obtain ⟨b,us,h3,h5,h6,h7,h8⟩:=ho;have:=h8 i _ (zkM (by omega));rw [h] at this;exact ⟨_,_,_,this.im_inv⟩
theorem Holds.kd {σ:St} (o:Nat) {t:TypeId} {k:Nat} {es:List (List IV)} (hk:σ.kd o=.row t k es):Holds σ (OkL es):=by
 rintro B a w ⟨ρ,hs⟩;have ho:=hs.obs o;rw [hk] at ho;obtain ⟨us,h1,h2,h3,h4,h5,h6,h7⟩:=ho;exact ⟨h3,ok_flat h5 h7⟩
theorem Holds.kdq {σ:St} (o:Nat) {t:TypeId} {k:Nat} {es:List (List IV)} (hk:σ.kd o=.que t k es):Holds σ (OkL es):=by
 rintro B a w ⟨ρ,hs⟩;have ho:=hs.obs o;rw [hk] at ho;obtain ⟨us,h1,h2,h3,h5,h6,h7,h8⟩:=ho;exact ⟨h3,ok_flat h5 h7⟩
theorem Holds.mono {σ:St} {φ ψ:Prop} (h:Holds σ φ) (k:φ->ψ):Holds σ ψ:=fun B a w hs=>k (h B a w hs)
def iter {S R:Type} (step:S->Option (S⊕R)):Nat->S->Option R
 | 0,_=>none
 | n+1,s=>match step s with
  | none=>none
  | some (.inl s')=>iter step n s'
  | some (.inr r)=>some r
def Fin {S R:Type} (step:S->Option (S⊕R)) (r:R) (k:Nat):S⊕R->Prop
 | .inl s'=>iter step k s'=some r
 | .inr r'=>r'=r
def Nxt {S R:Type} (step:S->Option (S⊕R)) (r:R) (st:S->St) (k:Nat) (σ':St):Prop:=∃ m',m'<k+1∧∃ s,iter step m' s=some r∧Ent σ' (st s)
theorem Nxt.mk {S R:Type} {step:S->Option (S⊕R)} {r:R} {st:S->St} {k:Nat} {σ':St} (s:S) (h:Fin step r k (.inl s)) (e:Ent σ' (st s)):Nxt step r st k σ':=⟨k,yc4 _,s,h,e⟩
attribute [irreducible] Nxt
theorem zb5.iter {S R:Type} (step:S->Option (S⊕R)) (st:S->St) (φ:S->Prop) {body:(Exit->St->Prop)->St->Prop} {K:Exit->St->Prop} {σ:St} {n:Nat} {s0:S} {r:R}
  (h:Sym.iter step n s0=some r) (e0:Ent σ (st s0)) (hφ:∀ s,Holds (st s) (φ s))
  (hb:∀ k s o,φ s->step s=some o->Fin step r k o->body (fun e σ'=>match e with | .normal=>Nxt step r st k σ' | e=>K e σ') (st s)):zb5 body K σ:=by
 unfold zb5;refine ⟨fun m σ=>∃ s,Sym.iter step m s=some r∧Ent σ (st s),n,⟨s0,h,e0⟩,?_⟩;rintro m σ ⟨s,hm,he⟩;refine ⟨st s,φ s,he,hφ s,fun hp=>?_⟩;cases m with
 | zero=>cases hm
 | succ k =>
  unfold Sym.iter at hm;split at hm
  ·cases hm
  ·rename_i s' hs;have:=hb k s _ hp hs hm;unfold Nxt at this;exact this
  ·rename_i r' hs;have:=hb k s _ hp hs (by injection hm);unfold Nxt at this;exact this
def Join (s σ':St):Prop:=∃ σ1,Ent σ' σ1∧σ1=s
theorem Join.mk {s σ':St} (e:Ent σ' s):Join s σ':=⟨s,e,rfl⟩
attribute [irreducible] Join
theorem Cut.mk (s:St) (φ:Prop) {body:(St->Prop)->Prop} {rest:St->Prop} (hφ:Holds s φ) (h:body (Join s)) (k:φ->rest s):Cut body rest:=by
 unfold Cut;unfold Join at h;exact ⟨fun σ=>σ=s,h,fun σ e=>⟨φ,by rw [e];exact hφ,fun hp=>by rw [e];exact k hp⟩⟩
end
end Go.Proofs.YteigfkncoiiaiaaGreatDoor.Sym

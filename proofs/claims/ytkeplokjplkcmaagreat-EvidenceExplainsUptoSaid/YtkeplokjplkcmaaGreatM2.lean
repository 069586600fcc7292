/-
  Parts of the proof, behind each other.
-/
import Derived.Test.YtkeplokjplkcmaaGreatM1
import Derived.Maps.Own
import Derived.Laws.StructEq
import Derived.ChangeKeysEq
import Derived.Great.BuildSlice
import Derived.Orders
set_option linter.all false
set_option maxRecDepth 100000
namespace Go.Proofs.YtkeplokjplkcmaaGreat.Sym
section
open Go.RowKit
def mkObj_eqs(σ τ:St)(nm:Nat)(k:Kd):(∀o,(app σ (zd2 τ nm k)).kd o=if o=nm then k else σ.kd o)/\(∀o,(app σ (zd2 τ nm k)).gn o=if o=nm then τ.gn nm+1 else σ.gn o)/\(∀o,(app σ (zd2 τ nm k)).ig o=σ.ig o) /\
  (∀t,(app σ (zd2 τ nm k)).av t=σ.av t)/\∀o i,(app σ (zd2 τ nm k)).ce o i=σ.ce o i:=by
 unfold zd2;simp only[zb6,zeq];exact⟨λo=>by rw[zei,kd_gen],λo=>by rw[zfe,gn_gen],λo=>by rw[zh7,ig_gen],λo=>by rw[zg8,av_gen],λo i=>by rw[zh1,ce_gen]⟩
def mkK_eqs(σ τ:St)(nm:Nat)(k:Kd):(∀o,(app σ (zfq τ nm k)).kd o=if o=nm then k else σ.kd o)/\(∀o,(app σ (zfq τ nm k)).gn o=if o=nm then τ.gn nm+1 else σ.gn o)/\(∀o,(app σ (zfq τ nm k)).ig o=if o=nm/\zox k=true then τ.ig nm+1 else σ.ig o) /\
  (∀t,(app σ (zfq τ nm k)).av t=σ.av t)/\∀o i,(app σ (zfq τ nm k)).ce o i=σ.ce o i:=by
 have hn:zox k=false->(∀o,(app σ (zd2 τ nm k)).kd o=if o=nm then k else σ.kd o)/\(∀o,(app σ (zd2 τ nm k)).gn o=if o=nm then τ.gn nm+1 else σ.gn o)/\(∀o,(app σ (zd2 τ nm k)).ig o=if o=nm/\zox k=true then τ.ig nm+1 else σ.ig o) /\
  (∀t,(app σ (zd2 τ nm k)).av t=σ.av t)/\∀o i,(app σ (zd2 τ nm k)).ce o i=σ.ce o i:=λhg=>by
  obtain⟨h1,h2,h3,h4,h5⟩:=mkObj_eqs σ τ nm k;exact⟨h1,h2,λo=>by rw[if_neg (λe=>by rw[hg]at e;cases e.2)];exact h3 o,h4,h5⟩
 cases k with
 |dead=>exact hn rfl
 |box t m=>exact hn rfl
 |row e m es=>exact hn rfl
 |map l=>exact hn rfl
 |bag t e m l q=>exact hn rfl
 |mapI l c=>exact hn rfl
 |que e m es=>exact hn rfl
 |grid e e' m gs q =>
  show(∀o,(app (upd σ (.ign nm) (.n (τ.ig nm+1))) (zd2 τ nm _)).kd o=_)/\(∀o,(app (upd σ (.ign nm) (.n (τ.ig nm+1))) (zd2 τ nm _)).gn o=_)/\(∀o,(app (upd σ (.ign nm) (.n (τ.ig nm+1))) (zd2 τ nm _)).ig o=_) /\
   (∀t,(app (upd σ (.ign nm) (.n (τ.ig nm+1))) (zd2 τ nm _)).av t=_)/\∀o i,(app (upd σ (.ign nm) (.n (τ.ig nm+1))) (zd2 τ nm _)).ce o i=_
  obtain⟨h1,h2,h3,h4,h5⟩:=mkObj_eqs (upd σ (.ign nm) (.n (τ.ig nm+1))) τ nm (.grid e e' m gs q);refine⟨λo=>by rw[h1,kd_ign],λo=>by rw[h2,gn_ign],λo=>?_,λt=>by rw[h4,av_ign],λo i=>by rw[h5,ce_ign]⟩;rw[h3,ig_ign];by_cases e1:o=nm
  ·rw[if_pos e1,if_pos ⟨e1,rfl⟩]
  ·rw[if_neg e1,if_neg (λh=>e1 h.1)]
def innK(k:Kd)(inn old:List Value):List Value:=match k with
 | .grid _ _ _ _ _=>inn
 | .bag _ _ _ _ _=>inn
 | .mapI _ _=>inn
 |_=>old
def fpk_innK(v:Value)(k:Kd)(inn old:List Value):fpk v (innK k inn old) k=fpk v inn k:=by cases k<;>rfl
def hold_innK{w:World}{S:Nat->Prop}{v:Value}{inn old:List Value}:∀{k:Kd},zdq w S v inn k->zdq w S v (innK k inn old) k
 | .dead,h=>h
 | .box _ _,h=>h
 | .row _ _ _,h=>h
 | .grid _ _ _ _ _,h=>h
 | .map _,h=>h
 | .bag _ _ _ _ _,h=>h
 | .mapI _ _,h=>h
 | .que _ _ _,h=>h
def setK(ρ:Ly)(σ':St)(nm:Nat)(v:Value)(inn:List Value)(k:Kd):Ly:=⟨λo=>if o=nm then v else ρ o,λo=>if o=nm then innK k inn (ρ.inn nm) else ρ.inn o,σ'.ig⟩
section
variable {P:Program}{B:Base}{o:Oper}{σ:St}{K:Fx->Prop}
def adopt_one{a:Act}{w:World}{ρ:Ly}(h:SatR B σ a w ρ){S':Nat->Prop}{v:Value}{k:Kd}{inn:List Value}{nm:Nat}{τ:St}(hg:σ.gn nm=τ.gn nm)(hi:σ.ig nm=τ.ig nm)(hh:zdq w S' v inn k)(hS:∀b,S' b->Imm B σ ρ w b)(hz:∀b∈fpk v inn k,B.Z b) :
  ∃ρ':Ly,SatR { B with Z:=λb=>B.Z b/\b∉fpk v inn k } (app σ (zfq τ nm k)) a w ρ'/\(∀u x,RepI w (Imm B σ ρ w) u x->RepI w (Imm { B with Z:=λb=>B.Z b/\b∉fpk v inn k } (app σ (zfq τ nm k)) ρ' w) u x) /\
   (∀u x,RepA w (Imm B σ ρ w) ρ σ.gn u x->RepA w (Imm { B with Z:=λb=>B.Z b/\b∉fpk v inn k } (app σ (zfq τ nm k)) ρ' w) ρ' (app σ (zfq τ nm k)).gn u x) /\
   (∀b,Imm B σ ρ w b->Imm { B with Z:=λb=>B.Z b/\b∉fpk v inn k } (app σ (zfq τ nm k)) ρ' w b)/\ρ' nm=v/\∀o,o≠nm->ρ' o=ρ o:=by
 obtain⟨e1,e2,e3,e4,e5⟩:=mkK_eqs σ τ nm k;have a2:∀t m,k≠.box t m:=λt m e=>by subst e;exact hh.elim
 have a0:∀b,Owns (app σ (zfq τ nm k)) (setK ρ (app σ (zfq τ nm k)) nm v inn k) nm b->b∈fpk v inn k:=λb hb=>by
  unfold Owns at hb;rw[e1,if_pos rfl]at hb;simp only[setK,if_pos]at hb;rw[fpk_innK]at hb;exact hb
 obtain⟨h1,h2,h3,h4⟩:=h.stepZ (σ':=app σ (zfq τ nm k)) (ρ':=setK ρ (app σ (zfq τ nm k)) nm v inn k) (w':=w) (λo=>o=nm) (λb=>B.Z b/\b∉fpk v inn k) e4
  (λo hd=>⟨by rw[e1,if_neg hd],by rw[e2,if_neg hd],λi=>e5 o i,by simp[setK,hd],by simp[setK,hd],by show(app σ (zfq τ nm k)).ig o=_;rw[e3,if_neg (λe=>hd e.1)];exact(h.igs o).symm⟩)
  (λo hd=>by
   subst hd
   refine⟨⟨by rw[e2,if_pos rfl,hg];omega,λe=>by rw[e2,if_pos rfl,hg]at e;omega⟩,?_,λe=>?_⟩
   ·show _<=(app σ (zfq τ o k)).ig o
    rw[e3,h.igs,hi]
    split<;>omega
   ·have e:(app σ (zfq τ o k)).ig o=ρ.ig o:=e
    rw[e3,h.igs,hi]at e
    cases hgk:zox k with
    |true=>rw[hgk,if_pos ⟨rfl,rfl⟩]at e;omega
    |false =>
     simp only[setK,if_pos]
     cases k<;>first|rfl|exact hh.elim|cases hgk)
  (λo=>rfl) (Belo.refl _ _ _) (λo b hd ho=>by subst hd;exact .inr (.inl (hz b (a0 b ho)))) (λo p b hd hp _ _=>hd.trans hp.symm)
  (λb hb=>⟨(h.res b hb.1).1.2,.inr (.inl hb.1),λo hd ho=>by subst hd;exact hb.2 (a0 b ho)⟩) λhI hA o hd=>by
   subst hd;rw[e1,if_pos rfl];refine zkl.of_hold a2 ?_;simp only[setK,if_pos];refine hold_innK (hh.mono (λ_ _=>rfl) λu x hr=>hI u x (hr.mono hS λ_ _ _ h=>h))
 exact⟨_,h1,h2,h3,h4,by simp[setK],λo ho=>by simp[setK,ho]⟩
def zif(σ:St):∀(a b:List (Nat×Kd)),zc7 σ (a++b)=zc7 σ a++zc7 σ b
 |[],b=>rfl
 |p::a,b=>by rw[yc2,zc7,zif σ a b,zc7,yb3]
def zkq{a:Act}{w:World}{S':Nat->Prop}(τ:St)(f:Nat->Nat):∀{l:List Oc} {i:Nat} {us:List Value} {F:List Nat} {B:Base} {σ:St} {ρ:Ly},SatR B σ a w ρ->zjf w S' us l F->(∀b,S' b->Imm B σ ρ w b)->F.Nodup->(∀b∈F,B.Z b) ->
  ((zcc τ f i l).2.map (·.1)).Nodup->(∀p∈(zcc τ f i l).2,σ.gn p.1=τ.gn p.1/\σ.ig p.1=τ.ig p.1) ->
  ∃(ρ':Ly) (Z':Nat->Prop),SatR { B with Z:=Z' } (app σ (zc7 τ (zcc τ f i l).2)) a w ρ'/\(∀b,B.Z b->b∉F->Z' b)/\Reps w (Imm { B with Z:=Z' } (app σ (zc7 τ (zcc τ f i l).2)) ρ' w) ρ' (app σ (zc7 τ (zcc τ f i l).2)).gn us (zcc τ f i l).1 /\
   (∀u x,RepA w (Imm B σ ρ w) ρ σ.gn u x->RepA w (Imm { B with Z:=Z' } (app σ (zc7 τ (zcc τ f i l).2)) ρ' w) ρ' (app σ (zc7 τ (zcc τ f i l).2)).gn u x) /\
   (∀b,Imm B σ ρ w b->Imm { B with Z:=Z' } (app σ (zc7 τ (zcc τ f i l).2)) ρ' w b)/\(∀o,o∉(zcc τ f i l).2.map (·.1)->ρ' o=ρ o/\(app σ (zc7 τ (zcc τ f i l).2)).gn o=σ.gn o/\(app σ (zc7 τ (zcc τ f i l).2)).ig o=σ.ig o/\(app σ (zc7 τ (zcc τ f i l).2)).kd o=σ.kd o)
 |[],i,us,F,B,σ,ρ,h,hok,hS,hnd,hz,hn,hgs=>by
  match us,hok with
  |[],hok=>exact⟨ρ,B.Z,h,λ_ hb _=>hb,⟨rfl,by simp⟩,λ_ _ hr=>hr,λ_ hb=>hb,λ_ _=>⟨rfl,rfl,rfl,rfl⟩⟩
 |c::l,i,us,F,B,σ,ρ,h,hok,hS,hnd,hz,hn,hgs=>by
  match us,hok with
  |u::us,⟨F1,F2,h1,h2,h3⟩ =>
   subst h3;rw[ybm]at hnd;cases c with
   |im x =>
    obtain⟨hx,rfl⟩:=h1;obtain⟨ρ',Z',g1,g2,g3,g4,g5,g6⟩:=zkq τ f (l:=l) (i:=i+1) h h2 hS hnd.2.1 (λb hb=>hz b (by simp[hb])) hn hgs;refine⟨ρ',Z',g1,g2,⟨by simp[zcc,ocPl,g3.1],λj y z hy hz=>?_⟩,g4,g5,g6⟩;cases j with
    |zero =>
     simp[zcc,ocPl]at hy hz;subst hy hz;exact .im _ _ (hx.mono (λb hb=>g5 b (hS b hb)) λ_ _ _ h=>h)
    |succ j=>exact g3.2 j y z (by simpa using hy) (by simpa[zcc,ocPl]using hz)
   |ow k =>
    obtain⟨ho1,inn,hh,rfl⟩:=h1
    have hn':(f i∉(zcc τ f (i+1) l).2.map (·.1))/\((zcc τ f (i+1) l).2.map (·.1)).Nodup:=by
     have:(zcc τ f i (.ow k::l)).2=(f i,k)::(zcc τ f (i+1) l).2:=rfl;rw[this,yav,yb0]at hn;exact hn
    have a7:=hgs (f i,k) (by show _∈(f i,k)::_;simp);obtain⟨ρ1,a1,a2,a3,a4,a5,a6⟩:=adopt_one h (nm:=f i) (τ:=τ) a7.1 a7.2 hh hS λb hb=>hz b (by simp[hb]);obtain⟨e1,e2,e3,e4,e5⟩:=mkK_eqs σ τ (f i) k;have a8:∀p∈(zcc τ f (i+1) l).2,p.1≠f i:=λp hp e=>hn'.1 (yao.2 ⟨p,hp,e⟩)
    obtain⟨ρ',Z',g1,g2,g3,g4,g5,g6⟩:=zkq τ f (l:=l) (i:=i+1) a1 h2 (λb hb=>a4 b (hS b hb)) hnd.2.1 (λb hb=>⟨hz b (by simp[hb]),λhf=>hnd.2.2 b hf b hb rfl⟩) hn'.2 (λp hp=>by
     rw[e2,e3,if_neg (a8 p hp),if_neg (λe=>a8 p hp e.1)]
     exact hgs p (by show p∈(f i,k)::_;simp[hp]))
    have a9:app σ (zc7 τ (zcc τ f i (.ow k::l)).2)=app (app σ (zfq τ (f i) k)) (zc7 τ (zcc τ f (i+1) l).2):=by
     show app σ (zfq τ (f i) k++zc7 τ (zcc τ f (i+1) l).2)=_;rw[zaz]
    rw[a9];refine⟨ρ',Z',g1,λb hb b0=>g2 b ⟨hb,λhf=>b0 (by simp[hf])⟩ (λhf=>b0 (by simp[hf])),⟨by show _=((_:AV)::(zcc τ f (i+1) l).1).length;simp[g3.1],λj y z hy hz=>?_⟩,λv x hr=>g4 v x (a3 v x hr),λb hb=>g5 b (a4 b hb),λo ho=>?_⟩
    ·cases j with
     |zero =>
      have hz:(AV.osl (f i) (τ.gn (f i)+1))=z:=by simpa[zcc,ocPl]using hz
      simp at hy;subst hy hz;obtain⟨b1,b2,_,_⟩:=g6 (f i) hn'.1;refine .osl _ _ _ ho1 ?_ λ_=>?_
      ·rw[b2,e2,if_pos rfl];omega
      ·rw[b1,a5]
     |succ j=>exact g3.2 j y z (by simpa using hy) (by simpa[zcc,ocPl]using hz)
    ·have a0:o≠f i/\o∉(zcc τ f (i+1) l).2.map (·.1):=by
      have:(zcc τ f i (.ow k::l)).2=(f i,k)::(zcc τ f (i+1) l).2:=rfl;rw[this,yav]at ho;exact⟨λe=>ho (by simp[e]),λhm=>ho (yau _ hm)⟩
     obtain⟨b1,b2,b3,b4⟩:=g6 o a0.2;exact⟨by rw[b1,a6 o a0.1],by rw[b2,e2,if_neg a0.1],by rw[b3,e3,if_neg (λe=>a0.1 e.1)],by rw[b4,e1,if_neg a0.1]⟩
def LkR(w:World)(S:Nat->Prop)(ρ:Ly)(γ:Nat->Nat)(p:Value)(qs:List Nat):LK->Prop
 | .box t al=>∃(q:Nat) (us:List Value),qs=[q]/\p=.pointer (some ⟨q,0,none⟩)/\w.heap[q]?=some (.cells us.toArray t (0,0))/\(∀u∈us,u.oneCell'=true)/\Reps w S ρ γ us al
 | .obj k=>flatK k=true/\∃inn,zdq w S p inn k/\qs=fpk p inn k
def BxR(w:World)(S:Nat->Prop)(ρ:Ly)(γ:Nat->Nat):List (Nat×LK)->List Value->List Nat->Prop
 |[],[],qs=>qs=[]
 |(_,x)::bl,p::ps,qs=>∃q1 q2,LkR w S ρ γ p q1 x/\BxR w S ρ γ bl ps q2/\qs=q1++q2
 |_,_,_=>False
def LkR.mono{w:World}{S S':Nat->Prop}{ρ ρ':Ly}{γ γ':Nat->Nat}(hA:∀u x,RepA w S ρ γ u x->RepA w S' ρ' γ' u x){p:Value}{qs:List Nat}:∀{x:LK},LkR w S ρ γ p qs x->LkR w S' ρ' γ' p qs x
 | .box t al,⟨q,us,h1,h2,h3,h4,h5⟩=>⟨q,us,h1,h2,h3,h4,⟨h5.1,λi u x hu hx=>hA _ _ (h5.2 i u x hu hx)⟩⟩
 | .obj k,⟨h1,inn,h2,h3⟩=>⟨h1,inn,h2.mono (λ_ _=>rfl) λu x hr=>(hA u (.im x) (.im _ _ hr)).im_inv,h3⟩
def BxR.mono{w:World}{S S':Nat->Prop}{ρ ρ':Ly}{γ γ':Nat->Nat}(hA:∀u x,RepA w S ρ γ u x->RepA w S' ρ' γ' u x):∀{bl:List (Nat×LK)} {ps:List Value} {qs:List Nat},BxR w S ρ γ bl ps qs->BxR w S' ρ' γ' bl ps qs
 |[],[],_,h=>h
 |_::_,_::_,_,⟨q1,q2,h1,h2,h3⟩=>⟨q1,q2,h1.mono hA,h2.mono hA,h3⟩
 |[],_::_,_,h=>h.elim
 |_::_,[],_,h=>h.elim
def zm9{a:Act}{w:World}{S':Nat->Prop}(τ:St):∀{bx:yad} {ys:List Arg} {ps:List Value} {F:List Nat} {bl:List (Nat×LK)} {ss:List (Nat×Kd)} {B:Base} {σ:St} {ρ:Ly},bxPl τ bx ys=some (bl,ss)->SatR B σ a w ρ->zdz w S' ps ys F->(∀b,S' b->Imm B σ ρ w b)->F.Nodup->(∀b∈F,B.Z b) ->
  (ss.map (·.1)).Nodup->(∀p∈ss,σ.gn p.1=τ.gn p.1/\σ.ig p.1=τ.ig p.1) ->
  ∃(ρ':Ly) (Z':Nat->Prop) (qs:List Nat),SatR { B with Z:=Z' } (app σ (zc7 τ ss)) a w ρ'/\(∀b,B.Z b->b∉F->Z' b)/\(∀q∈qs,Z' q/\q∈F)/\qs.Nodup/\BxR w (Imm { B with Z:=Z' } (app σ (zc7 τ ss)) ρ' w) ρ' (app σ (zc7 τ ss)).gn bl ps qs/\bl.map (·.1)=bx.map (·.1) /\
   (∀u x,RepA w (Imm B σ ρ w) ρ σ.gn u x->RepA w (Imm { B with Z:=Z' } (app σ (zc7 τ ss)) ρ' w) ρ' (app σ (zc7 τ ss)).gn u x) /\
   (∀b,Imm B σ ρ w b->Imm { B with Z:=Z' } (app σ (zc7 τ ss)) ρ' w b)/\(∀o,o∉ss.map (·.1)->ρ' o=ρ o/\(app σ (zc7 τ ss)).gn o=σ.gn o/\(app σ (zc7 τ ss)).ig o=σ.ig o/\(app σ (zc7 τ ss)).kd o=σ.kd o)
 |[],[],ps,F,bl,ss,B,σ,ρ,e,h,hok,hS,hnd,hz,hn,hgs=>by
  simp only[bxPl,zkF,zkG]at e;obtain⟨rfl,rfl⟩:=e
  match ps,hok with
  |[],hok=>exact⟨ρ,B.Z,[],h,λ_ hb _=>hb,by simp,yc4,rfl,rfl,λ_ _ hr=>hr,λ_ hb=>hb,λ_ _=>⟨rfl,rfl,rfl,rfl⟩⟩
 |[],y::ys,ps,F,bl,ss,B,σ,ρ,e,h,hok,hS,hnd,hz,hn,hgs=>by simp[bxPl]at e
 |(b,i)::bx,[],ps,F,bl,ss,B,σ,ρ,e,h,hok,hS,hnd,hz,hn,hgs=>by simp[bxPl]at e
 |(b,i)::bx,.im _::ys,ps,F,bl,ss,B,σ,ρ,e,h,hok,hS,hnd,hz,hn,hgs=>by simp[bxPl]at e
 |(b,i)::bx,.ow _::ys,ps,F,bl,ss,B,σ,ρ,e,h,hok,hS,hnd,hz,hn,hgs=>by simp[bxPl]at e
 |(b,i)::bx,.lent k::ys,ps,F,bl,ss,B,σ,ρ,e,h,hok,hS,hnd,hz,hn,hgs=>by
  unfold bxPl at e;split at e
  ·rename_i l s2 hfk e2;simp only[zkF,zkG]at e;obtain⟨rfl,rfl⟩:=e
   match ps,hok with
   |p::ps,⟨F1,F2,⟨p1,inn,p2,p3⟩,p6,p7⟩ =>
    subst p7;rw[ybm]at hnd;obtain⟨hnF1,hnF2,hdis⟩:=hnd;obtain⟨ρ',Z',qs,g1,g2,g3,g4,g5,g6,g7,g8,g9⟩:=zm9 τ e2 h p6 hS hnF2 (λc hc=>hz c (by simp[hc])) hn hgs;refine⟨ρ',Z',F1++qs,g1,λc hc hnc=>g2 c hc λhf=>hnc (by simp[hf]),λc hc=>?_,ybm.2 ⟨hnF1,g4,λx hx y hy=>hdis x hx y (g3 y hy).2⟩,⟨F1,qs,⟨hfk,inn,p2.mono (λ_ _=>rfl) λu x hr=>hr.mono (λc hc=>g8 c (hS c hc)) λ_ _ _ h=>h,p3⟩,g5,rfl⟩,by simp[g6],g7,g8,g9⟩;rcases yam.1 hc with hc|hc
    ·exact⟨g2 c (hz c (by simp[hc])) λhf=>hdis c hc c hf rfl,by simp[hc]⟩
    ·exact⟨(g3 c hc).1,by simp[(g3 c hc).2]⟩
  ·cases e
 |(b,i)::bx,.box t cs::ys,ps,F,bl,ss,B,σ,ρ,e,h,hok,hS,hnd,hz,hn,hgs=>by
  unfold bxPl at e;split at e
  ·rename_i al s1 l s2 e1 e2;simp only[zkF,zkG]at e;obtain⟨rfl,rfl⟩:=e
   match ps,hok with
   |p::ps,⟨F1,F2,⟨q,us,F',p1,p2,p3,p4,p5⟩,p6,p7⟩ =>
    subst p5 p7;have hs1:s1=(zcc τ (cellNm τ b i) 0 cs).2:=by rw[e1]
    have a7:al=(zcc τ (cellNm τ b i) 0 cs).1:=by rw[e1]
    rw[ya0,ybm]at hn;rw[yc2,yb0,ybm]at hnd;obtain⟨hq,a0,hnF2,hdis⟩:=hnd;rw[yam,not_or]at hq;obtain⟨ρ1,Z1,a1,a2,a3,a4,a5,a6⟩:=zkq τ (cellNm τ b i) (l:=cs) (i:=0) h p4 hS a0 (λc hc=>hz c (by simp[hc])) (by rw[<- hs1];exact hn.1) (λp hp=>hgs p (yan _ (by rw[hs1];exact hp)));rw[<- hs1]at a1 a3 a4 a5 a6;rw[<- a7]at a3
    obtain⟨ρ',Z',qs,g1,g2,g3,g4,g5,g6,g7,g8,g9⟩:=zm9 τ e2 a1 p6 (λc hc=>a5 c (hS c hc)) hnF2 (λc hc=>a2 c (hz c (by simp[hc])) λhf=>hdis c hf c hc rfl) hn.2.1 (λp hp=>by
     obtain⟨b1,b2,b3,_⟩:=a6 p.1 λhm=>hn.2.2 p.1 hm p.1 (yao.2 ⟨p,hp,rfl⟩) rfl
     rw[b2,b3]
     exact hgs p (yai _ hp))
    rw[zif,zaz];refine⟨ρ',Z',q::qs,g1,λc hc hnc=>g2 c (a2 c hc λhf=>hnc (by simp[hf])) λhf=>hnc (by simp[hf]),λc hc=>?_,yb0.2 ⟨λhm=>hq.2 (g3 q hm).2,g4⟩,⟨[q],qs,⟨q,us,rfl,p1,p2,p3,⟨a3.1,λj u x hu hx=>g7 _ _ (a3.2 j u x hu hx)⟩⟩,g5,rfl⟩,by simp[g6],λv x hr=>g7 v x (a4 v x hr),λc hc=>g8 c (a5 c hc),λo ho=>?_⟩
    ·rcases yaw.1 hc with rfl|hc
     ·exact⟨g2 _ (a2 _ (hz _ (by simp)) hq.1) hq.2,by simp⟩
     ·exact⟨(g3 c hc).1,by simp[(g3 c hc).2]⟩
    ·rw[ya0,yam,not_or]at ho;obtain⟨b1,b2,b3,b4⟩:=a6 o ho.1;obtain⟨c1,c2,c3,c4⟩:=g9 o ho.2;exact⟨c1.trans b1,c2.trans b2,c3.trans b3,c4.trans b4⟩
  ·cases e
def adopt_lent{a:Act}{w:World}{b:Nat}{x:LK}{p:Value}{qs:List Nat}{B:Base}{σ:St}{ρ:Ly}(h:SatR B σ a w ρ)(hx:LkR w (Imm B σ ρ w) ρ σ.gn p qs x)(hz:∀q∈qs,B.Z q)(hρ:ρ b=p) :
  SatR { B with Z:=λc=>B.Z c/\c∉qs } (app σ (lkWr b x)) a w ρ/\(∀u y,RepA w (Imm B σ ρ w) ρ σ.gn u y->RepA w (Imm { B with Z:=λc=>B.Z c/\c∉qs } (app σ (lkWr b x)) ρ w) ρ (app σ (lkWr b x)).gn u y):=by
 cases x with
 |box t al =>
  obtain⟨q,us,e1,e2,e3,e4,e5⟩:=hx;subst e1;have hρb:ρ b=.pointer (some ⟨q,0,none⟩):=hρ.trans e2;have a3:∀o,(app (upd σ (.knd b) (.kd (.box t al.length))) (zfg b 0 al)).kd o=if o=b then .box t al.length else σ.kd o:=λo=>by rw[znu,zei]
  have a5:(app (upd σ (.knd b) (.kd (.box t al.length))) (zfg b 0 al)).gn=σ.gn:=by rw[zp5];exact funext λo=>zfe σ b o _
  have a0:∀c,Owns (app (upd σ (.knd b) (.kd (.box t al.length))) (zfg b 0 al)) ρ b c->c=q:=λc hc=>by
   unfold Owns at hc;rw[a3,if_pos rfl,hρb]at hc;simpa[fpk,zb3]using hc
  obtain⟨h1,h2,h3,h4⟩:=h.stepZ (σ':=app (upd σ (.knd b) (.kd (.box t al.length))) (zfg b 0 al)) (ρ':=ρ) (w':=w) (λo=>o=b) (λc=>B.Z c/\c∉[q]) (λo=>by rw[zpv,zg8])
   (λo hd=>⟨by rw[a3,if_neg hd],by rw[a5],λi=>by rw[zlx,if_neg (λz=>hd z.1),zh1],rfl,rfl,rfl⟩) (λo _=>⟨⟨by rw[a5];exact yaq _,λ_=>rfl⟩,yaq _,λ_=>rfl⟩)
   (λo=>by rw[celWr_ig,zh7];exact h.igs o) (Belo.refl _ _ _) (λo c hd ho=>by subst hd;rw[a0 c ho];exact .inr (.inl (hz q (by simp)))) (λo p c hd hp _ _=>hd.trans hp.symm)
   (λc hc=>⟨(h.res c hc.1).1.2,.inr (.inl hc.1),λo hd ho=>by subst hd;exact hc.2 (by rw[a0 c ho];simp)⟩) λhI hA o hd=>by
    subst hd;rw[a3,if_pos rfl];refine⟨q,us,hρb,e3,e5.1,e4,λi u hu=>?_⟩;have hi:i<al.length:=by rw[<- e5.1];exact(zkI.1 hu).1
    obtain⟨c,hc⟩:∃c,al[i]?=some c:=⟨_,zkM hi⟩;rw[zlx,if_pos ⟨rfl,by omega,by omega⟩,yea,ziq hc];exact hA _ _ (e5.2 i u c hu hc)
  exact⟨h1,h3⟩
 |obj k =>
  obtain⟨e1,inn,e2,e3⟩:=hx;have a7:∀t m,k≠.box t m:=λt m e=>by subst e;cases e1
  have a6:∀a2,fpk p a2 k=qs:=λa2=>by rw[e3];cases k<;>first|rfl|cases e1
  have a4:∀a2,zdq w (Imm B σ ρ w) p a2 k:=λa2=>by cases k<;>first|exact e2|cases e1
  have a0:∀c,Owns (upd σ (.knd b) (.kd k)) ρ b c->c∈qs:=λc hc=>by
   unfold Owns at hc;rw[zei,if_pos rfl,hρ,a6]at hc;exact hc
  obtain⟨h1,h2,h3,h4⟩:=h.stepZ (σ':=upd σ (.knd b) (.kd k)) (ρ':=ρ) (w':=w) (λo=>o=b) (λc=>B.Z c/\c∉qs) (λo=>zg8 σ b o _)
   (λo hd=>⟨by rw[zei,if_neg hd],zfe σ b o _,λi=>zh1 σ b o i _,rfl,rfl,rfl⟩) (λo _=>⟨⟨by rw[zfe];exact yaq _,λ_=>rfl⟩,yaq _,λ_=>rfl⟩)
   (λo=>by rw[zh7];exact h.igs o) (Belo.refl _ _ _) (λo c hd ho=>by subst hd;exact .inr (.inl (hz c (a0 c ho)))) (λo p c hd hp _ _=>hd.trans hp.symm)
   (λc hc=>⟨(h.res c hc.1).1.2,.inr (.inl hc.1),λo hd ho=>by subst hd;exact hc.2 (a0 c ho)⟩) λhI hA o hd=>by
    subst hd;rw[zei,if_pos rfl];refine zkl.of_hold a7 ?_;rw[hρ];exact(a4 _).mono (λ_ _=>rfl) hI
  exact⟨h1,h3⟩
def zme{a:Act}{w:World}:∀{bl:List (Nat×LK)} {ps:List Value} {qs:List Nat} {B:Base} {σ:St} {ρ:Ly},SatR B σ a w ρ->BxR w (Imm B σ ρ w) ρ σ.gn bl ps qs->qs.Nodup->(∀q∈qs,B.Z q)->(bl.map (·.1)).Nodup->(∀(j:Nat) (b:Nat) (p:Value),(bl.map (·.1))[j]?=some b->ps[j]?=some p->ρ b=p) ->
  ∃Z':Nat->Prop,SatR { B with Z:=Z' } (app σ (bxWr bl)) a w ρ/\(∀b,B.Z b->b∉qs->Z' b)/\(∀u x,RepA w (Imm B σ ρ w) ρ σ.gn u x->RepA w (Imm { B with Z:=Z' } (app σ (bxWr bl)) ρ w) ρ (app σ (bxWr bl)).gn u x)
 |[],ps,qs,B,σ,ρ,h,hb,hnd,hz,hn,hρ=>by
  match ps,hb with
  |[],hb=>exact⟨B.Z,h,λ_ hb _=>hb,λ_ _ hr=>hr⟩
 |(b,x)::bl,[],qs,B,σ,ρ,h,hb,hnd,hz,hn,hρ=>hb.elim
 |(b,x)::bl,p::ps,qs,B,σ,ρ,h,⟨q1,q2,e1,e2,e3⟩,hnd,hz,hn,hρ=>by
  subst e3;rw[ybm]at hnd;rw[yav,yb0]at hn;obtain⟨h1,h3⟩:=adopt_lent h e1 (λq hq=>hz q (by simp[hq])) (hρ 0 b p rfl rfl);obtain⟨Z',g1,g2,g3⟩:=zme h1 (e2.mono h3) hnd.2.1 (λc hc=>⟨hz c (by simp[hc]),λe=>hnd.2.2 c e c hc rfl⟩) hn.2 λj c v hc hv=>hρ (j+1) c v (by simpa using hc) (by simpa using hv)
  have happ:app σ (bxWr ((b,x)::bl))=app (app σ (lkWr b x)) (bxWr bl):=by
   show app σ (lkWr b x++bxWr bl)=_;rw[zaz]
  rw[happ];exact⟨Z',g1,λc hc a0=>g2 c ⟨hc,λe=>a0 (by simp[e])⟩ λhm=>a0 (by simp[hm]),λu x hr=>g3 u x (h3 u x hr)⟩
def zq3(bs:yad):∀(σ:St),(app σ (fwr bs)).ig=σ.ig:=by
 induction bs with
 |nil=>intro σ;rfl
 |cons b bs ih =>
  intro σ;show(app (upd σ (.knd b.1) (.kd .dead)) (fwr bs)).ig=_;rw[ih];exact funext λt=>zh7 σ b.1 t _
def zh4{a:Act}{w w':World}{ρ:Ly}(h:SatR B σ a w ρ)(gs:yad)(hgsn:(gs.map (·.1)).Nodup){S':Nat->Prop}{v:Value}{ps:List Value}{τ:St}{tp:Bool}{d:Nat}{l:List Oc}{ys:List Arg}{F':List Nat}{bx:yad}{bl:List (Nat×LK)}{ss':List (Nat×Kd)}{va:AV}
  (hb:Belo (λb=>b∈zdh σ ρ gs) w.heap.size w w') (hS:∀b,S' b->(Imm B σ ρ w b\/w.heap.size<=b\/b∈zdh σ ρ gs)/\b<w'.heap.size/\b∉F') (hr:zl9 w' S' v ps (.mk tp l ys) F') (hnd:F'.Nodup) (hF':∀b∈F',(w.heap.size<=b\/b∈zdh σ ρ gs)/\b<w'.heap.size)
  (hbl:bxPl τ bx ys=some (bl,ss')) (hps:ps=bx.map λp=>ρ p.1) (hbn:(bx.map (·.1)).Nodup) (hva:resV tp (zcc τ (zd4 tp d) 0 l).1=some va) (hnm:(((zcc τ (zd4 tp d) 0 l).2++ss').map (·.1)).Nodup) (hnb:∀x∈((zcc τ (zd4 tp d) 0 l).2++ss').map (·.1),x∉bl.map (·.1))
  (hτ:∀p∈(zcc τ (zd4 tp d) 0 l).2++ss',σ.gn p.1=τ.gn p.1/\σ.ig p.1=τ.ig p.1) :
  ∃ρ',SatR B (app (app (app σ (fwr gs)) (zc7 τ ((zcc τ (zd4 tp d) 0 l).2++ss'))) (bxWr bl)) a w' ρ'/\RepA w' (Imm B (app (app (app σ (fwr gs)) (zc7 τ ((zcc τ (zd4 tp d) 0 l).2++ss'))) (bxWr bl)) ρ' w') ρ' (app (app (app σ (fwr gs)) (zc7 τ ((zcc τ (zd4 tp d) 0 l).2++ss'))) (bxWr bl)).gn v va /\
   (∀u x,RepA w (Imm B σ ρ w) ρ σ.gn u x->RepA w' (Imm B (app (app (app σ (fwr gs)) (zc7 τ ((zcc τ (zd4 tp d) 0 l).2++ss'))) (bxWr bl)) ρ' w') ρ' (app (app (app σ (fwr gs)) (zc7 τ ((zcc τ (zd4 tp d) 0 l).2++ss'))) (bxWr bl)).gn u x) /\
   ∀(j:Nat) (b:Nat) (p:Value),(bl.map (·.1))[j]?=some b->ps[j]?=some p->ρ' b=p:=by
 have a7:∀o,o∈gs.map (·.1)->∀b,¬Owns (app σ (fwr gs)) ρ o b:=λo ho b d3=>(zpw d3).2 ho
 obtain⟨h1,d6,d1,d5⟩:=h.stepZ (σ':=app σ (fwr gs)) (ρ':=ρ) (w':=w') (λo=>o∈gs.map (·.1)) (λb=>B.Z b\/b∈F') (λt=>fwr_av gs t σ) (λo hd=>⟨by rw[zjk,if_neg hd],by rw[zl4],λi=>fwr_ce gs o i σ,rfl,rfl,rfl⟩)
  (λo _=>⟨⟨by rw[zl4];exact yaq _,λ_=>rfl⟩,yaq _,λ_=>rfl⟩) (λo=>by rw[zq3];exact h.igs o)
  ⟨hb.os,hb.tape,hb.output,hb.size,λk hk hn=>hb.block k hk λhm=>by
   obtain⟨p,hp,ho⟩:=zds.1 hm
   exact hn (.inr ⟨p.1,yao.2 ⟨p,hp,rfl⟩,ho⟩)⟩
  (λo b hd ho=>absurd ho (a7 o hd b)) (λo p b hd hp ho _=>absurd ho (a7 o hd b))
  (λb a0=>by
   rcases a0 with a0|a0
   ·exact⟨yct (h.res b a0).1.2 hb.size,.inr (.inl a0),λo hd=>a7 o hd b⟩
   ·obtain⟨h2,h3⟩:=hF' b a0
    refine⟨h3,?_,λo hd=>a7 o hd b⟩
    rcases h2 with h2|h2
    ·exact .inl h2
    ·obtain⟨p,hp,ho⟩:=zds.1 h2
     exact .inr (.inr ⟨p.1,yao.2 ⟨p,hp,rfl⟩,ho⟩))
  λ_ _ o hd=>by rw[zjk,if_pos hd];trivial
 have c7:∀b,S' b->Imm { B with Z:=λb=>B.Z b\/b∈F' } (app σ (fwr gs)) ρ w' b:=λb a0=>by
  obtain⟨h2,h3,h4⟩:=hS b a0;rcases h2 with h2|h2|h2
  ·exact d5 b h2
  ·refine⟨.inr (.inl (ycg h.bel.size h2)),h3,λo ho=>?_,λhz=>?_⟩
   ·have:=(h.own o b (zpw ho).1).2;omega
   ·rcases hz with hz|hz
    ·have:=(h.res b hz).1.2;omega
    ·exact h4 hz
  ·obtain⟨p,hp,ho⟩:=zds.1 h2;refine⟨.inr (h.own p.1 b ho).1,h3,λq hq=>?_,λhz=>?_⟩
   ·obtain⟨h5,h6⟩:=zpw hq;have:=h.dis q p.1 b h5 ho;subst this;exact h6 (yao.2 ⟨p,hp,rfl⟩)
   ·rcases hz with hz|hz
    ·exact(h.res b hz).2 p.1 ho
    ·exact h4 hz
 obtain⟨us,F1,F2,hv,hl,hy,rfl⟩:=hr;rw[ybm]at hnd;rw[ya0,ybm]at hnm
 obtain⟨ρ2,Z2,a1,a2,a3,a4,a5,a6⟩:=zkq τ (zd4 tp d) (l:=l) (i:=0) h1 hl c7 hnd.1 (λb a0=>.inr (yan _ a0)) hnm.1 λp hp=>by
  rw[zl4,zq3];exact hτ p (yan _ hp)
 obtain⟨ρ3,Z3,qs,b1,b2,b3,b4,b5,b6,b7,b8,b9⟩:=zm9 τ hbl a1 hy (λb a0=>a5 b (c7 b a0)) hnd.2.1 (λb a0=>a2 b (.inr (yai _ a0)) λhf=>hnd.2.2 b hf b a0 rfl) hnm.2.1 λp hp=>by
  obtain⟨c1,c2,c3,_⟩:=a6 p.1 λhm=>hnm.2.2 p.1 hm p.1 (yao.2 ⟨p,hp,rfl⟩) rfl;rw[c2,c3,zl4,zq3];exact hτ p (yai _ hp)
 have d0:app (app (app σ (fwr gs)) (zc7 τ (zcc τ (zd4 tp d) 0 l).2)) (zc7 τ ss')=app (app σ (fwr gs)) (zc7 τ ((zcc τ (zd4 tp d) 0 l).2++ss')):=by rw[zif,zaz]
 rw[d0]at b1 b5 b7 b8 b9
 have a9:∀(j:Nat) (b:Nat) (p:Value),(bl.map (·.1))[j]?=some b->ps[j]?=some p->ρ3 b=p:=λj b p a0 hp=>by
  have c0:b∈bl.map (·.1):=zkH a0;rw[b6,yae]at a0;rw[hps,yae]at hp;cases hc:bx[j]? with
  |none=>rw[hc]at a0;cases a0
  |some y =>
   rw[hc]at a0 hp;simp only[yap,zkF]at a0 hp;have c6:b∉(zcc τ (zd4 tp d) 0 l).2.map (·.1):=λhm=>hnb b (by rw[ya0];exact yan _ hm) c0;have c9:b∉ss'.map (·.1):=λhm=>hnb b (by rw[ya0];exact yai _ hm) c0;rw[(b9 b c9).1,(a6 b c6).1,<- hp,a0]
 obtain⟨Z4,c1,c2,c3⟩:=zme b1 b5 b4 (λq hq=>(b3 q hq).1) (by rw[b6];exact hbn) a9
 have c8:RepA w' (Imm { B with Z:=Z4 } (app (app (app σ (fwr gs)) (zc7 τ ((zcc τ (zd4 tp d) 0 l).2++ss'))) (bxWr bl)) ρ3 w') ρ3 (app (app (app σ (fwr gs)) (zc7 τ ((zcc τ (zd4 tp d) 0 l).2++ss'))) (bxWr bl)).gn v va:=by
  have a8:Reps w' (Imm { B with Z:=Z4 } (app (app (app σ (fwr gs)) (zc7 τ ((zcc τ (zd4 tp d) 0 l).2++ss'))) (bxWr bl)) ρ3 w') ρ3 (app (app (app σ (fwr gs)) (zc7 τ ((zcc τ (zd4 tp d) 0 l).2++ss'))) (bxWr bl)).gn us (zcc τ (zd4 tp d) 0 l).1 :=
   ⟨a3.1,λi u x hu hx=>c3 _ _ (b7 _ _ (a3.2 i u x hu hx))⟩
  cases tp with
  |true =>
   simp only[resV,zkF]at hva;subst hva;rw[hv];exact .tup _ _ a8.1 a8.2
  |false =>
   simp only[resV]at hva;split at hva
   ·rename_i al d2;injection hva with hva
    subst hva;have hv:us=[v]:=hv;subst hv;exact a8.2 0 v al rfl (by rw[d2];rfl)
   ·cases hva
 obtain⟨e1,e2,e3,_⟩:=c1.stepZ (σ':=app (app (app σ (fwr gs)) (zc7 τ ((zcc τ (zd4 tp d) 0 l).2++ss'))) (bxWr bl)) (ρ':=ρ3) (w':=w') (λ_=>False) B.Z (λ_=>rfl) (λ_ _=>⟨rfl,rfl,λ_=>rfl,rfl,rfl,rfl⟩) (λ_ hd=>hd.elim) c1.igs (Belo.refl _ _ _) (λ_ _ hd=>hd.elim) (λ_ _ _ hd=>hd.elim)
  (λb a0=>by
   have b0:b∉F1++F2:=λhf=>by
    rcases (hF' b hf).1 with h5|h5
    ·have:=(h.res b a0).1.2;omega
    ·obtain⟨p,hp,ho⟩:=zds.1 h5
     exact(h.res b a0).2 p.1 ho
   rw[yam,not_or]at b0
   have d4:Z4 b:=c2 b (b2 b (a2 b (.inl a0) b0.1) b0.2) λhq=>b0.2 (b3 b hq).2
   exact⟨yct (h.res b a0).1.2 hb.size,.inr (.inl d4),λ_ hd=>hd.elim⟩) λ_ _ _ hd=>hd.elim
 exact⟨ρ3,e1,e3 _ _ c8,λu x hr=>e3 _ _ (c3 _ _ (b7 _ _ (a4 _ _ (d1 _ _ hr)))),a9⟩
def objG_same{σ':St}{p:Nat}(h:σ'.kd p=σ.kd p):objG σ' p=objG σ p:=by unfold objG;rw[h]
def zc5.mem{σ':St}{gs:yad}(h:zc5 σ σ' gs){p:Nat×Nat}(hp:p∈gs):σ'.gn p.1=σ.gn p.1/\σ'.kd p.1=σ.kd p.1/\zok σ' p.1=zok σ p.1 :=
 have hh:=zc5.head (p:=p) (c:=[]) λl hl=>h l (by
  unfold frd at *
  rw[ybn,ydr,yb4]at hl
  exact ycf.2 ⟨p,hp,hl⟩)
 ⟨hh.1,hh.2.1,hh.2.2.1⟩
def cellG0_same{σ':St}{own:List Nat}{d i j:Nat}{c:AV}{x:Oc}{gs:yad}(e:ztb σ own d i j c=some (x,gs))(h:∀p∈gs,σ'.kd p.1=σ.kd p.1):ztb σ' own d i j c=some (x,gs):=by
 unfold ztb at e ⊢;split at e
 ·exact e
 ·rename_i p g;split at e
  ·rename_i k hk;injection e with e
   injection e with e1 e2
   subst e1 e2;rw[objG_same (h (p,g) (by simp)),hk]
  ·cases e
 ·cases e
def cellG_same{σ':St}{own:List Nat}{d i j:Nat}{c:AV}{x:Oc}{gs:yad}(e:cellG σ own d i j c=some (x,gs))(h:∀p∈gs,σ'.kd p.1=σ.kd p.1):cellG σ' own d i j c=some (x,gs):=by
 unfold cellG at e ⊢;split at e
 ·rename_i hh;exact e
 ·rename_i hh;exact cellG0_same e h
def zr4{σ':St}{own:List Nat}{d i:Nat}:∀{cs:List AV} {j:Nat} {xs:List Oc} {gs:yad},zpc σ own d i j cs=some (xs,gs)->(∀p∈gs,σ'.kd p.1=σ.kd p.1)->zpc σ' own d i j cs=some (xs,gs)
 |[],_,_,_,e,_=>e
 |c::cs,j,xs,gs,e,h=>by
  simp only[zpc]at e ⊢;split at e
  ·rename_i x g1 xs1 gs1 h1 h2;simp only[zkF,zkG]at e;obtain⟨rfl,rfl⟩:=e;rw[cellG_same h1 λp hp=>h p (yan _ hp),zr4 h2 λp hp=>h p (yai _ hp)]
  ·cases e
def argG_same{σ':St}{own:List Nat}{d i:Nat}{c:AV}{x:Arg}{bs gs:yad}(e:argG σ own d i c=some (x,bs,gs))(hb:zc5 σ σ' bs)(hg:zc5 σ σ' gs):argG σ' own d i c=some (x,bs,gs):=by
 unfold argG at e ⊢;split at e
 ·rename_i ho;split at e
  ·rename_i b g;split at e
   ·rename_i k hk;simp only[zkF,zkG]at e;obtain⟨rfl,rfl,rfl⟩:=e;rw[objG_same (hg.mem (p:=(b,g)) (by simp)).2.1,hk]
   ·cases e
  ·rename_i b g;split at e
   ·rename_i t m hk;split at e
    ·rename_i cs a2 a0;simp only[zkF,zkG]at e;obtain⟨rfl,rfl,rfl⟩:=e;obtain⟨h1,h2,h3⟩:=hg.mem (p:=(b,g)) (by simp);simp only[h2,hk];rw[h3,zr4 a0 λp hp=>(hg.mem (yau _ hp)).2.1]
    ·cases e
   ·cases e
  ·exact e
  ·cases e
 ·rename_i ho;split at e
  ·exact e
  ·split at e
   ·rename_i y bs' hy;simp only[zkF,zkG]at e;obtain⟨rfl,rfl,rfl⟩:=e;rw[zkm hy hb]
   ·cases e
def zi6{σ':St}{own:List Nat}{d:Nat}:∀{cs:List AV} {i:Nat} {xs:List Arg} {bs gs:yad},ziw σ own d i cs=some (xs,bs,gs)->zc5 σ σ' bs->zc5 σ σ' gs->ziw σ' own d i cs=some (xs,bs,gs)
 |[],i,xs,bs,gs,e,_,_=>e
 |c::cs,i,xs,bs,gs,e,hb,hg=>by
  simp only[ziw]at e ⊢;split at e
  ·rename_i x b1 g1 xs1 bs1 gs1 h1 h2;simp only[zkF,zkG]at e;obtain⟨rfl,rfl,rfl⟩:=e;rw[argG_same h1 hb.left hg.left,zi6 h2 hb.right hg.right]
  ·cases e
def zlo{ρ:Ly}{bs gs:yad}(h:∀p∈gs,p.1∉bs.map (·.1)):zdh (app σ (fwr bs)) ρ gs=zdh σ ρ gs:=by
 unfold zdh
 induction gs with
 |nil=>rfl
 |cons p gs ih =>
  rw[ybn,ybn,zjk,if_neg (h p (by simp)),ih λq hq=>h q (by simp[hq])]
def zib:∀{l:List (Nat×Kd)} {p:Nat×Kd},p∈l->Loc.gen p.1∈zks l/\Loc.ign p.1∈zks l
 |q::l,p,h=>by
  rcases yaw.1 h with rfl|h
  ·exact⟨by simp[zks],by simp[zks]⟩
  ·obtain⟨h1,h2⟩:=zib h;exact⟨by simp[zks,h1],by simp[zks,h2]⟩
def zhc{σ':St}{b:Nat}(h:σ' (.ign b)=σ (.ign b)):σ'.ig b=σ.ig b:=by unfold St.ig;rw[h]
def resOk_flat{w:World}{S S':Nat->Prop}{v:Value}{ps:List Value}{r:Rs}{F:List Nat}(hf:flatRs r)(h:zl9 w S v ps r F):zl9 w S' v ps r F:=by
 cases r with
 |mk tp l ys =>
  obtain⟨us,F1,F2,h1,h2,h3,h4⟩:=h;exact⟨us,F1,F2,h1,h2.flat hf.1,h3.flat hf.2,h4⟩
def zn0{τ:St}:∀{bx:yad} {ys:List Arg} {bl:List (Nat×LK)} {ss:List (Nat×Kd)},bxPl τ bx ys=some (bl,ss)->bl.map (·.1)=bx.map (·.1)
 |[],[],bl,ss,e=>by simp only[bxPl,zkF,zkG]at e;obtain⟨rfl,rfl⟩:=e;rfl
 |[],_::_,_,_,e=>by simp[bxPl]at e
 |(b,i)::bx,[],_,_,e=>by simp[bxPl]at e
 |(b,i)::bx,.im _::ys,_,_,e=>by simp[bxPl]at e
 |(b,i)::bx,.ow _::ys,_,_,e=>by simp[bxPl]at e
 |(b,i)::bx,.lent k::ys,bl,ss,e=>by
  unfold bxPl at e;split at e
  ·rename_i l s2 hfk e2;simp only[zkF,zkG]at e;obtain⟨rfl,rfl⟩:=e;simp[zn0 e2]
  ·cases e
 |(b,i)::bx,.box t cs::ys,bl,ss,e=>by
  unfold bxPl at e;split at e
  ·rename_i al s1 l s2 e1 e2;simp only[zkF,zkG]at e;obtain⟨rfl,rfl⟩:=e;simp[zn0 e2]
  ·cases e
def znx{own:List Nat}{d:Nat}:∀{cs:List AV} {i:Nat} {xs:List Arg} {bs gs:yad},ziw σ own d i cs=some (xs,bs,gs)->((bxG own d i cs).map (·.1)).Sublist (gs.map (·.1))
 |[],i,xs,bs,gs,e=>by simp[bxG]
 |c::cs,i,xs,bs,gs,e=>by
  simp only[ziw]at e;split at e
  ·rename_i x b1 g1 xs1 bs1 gs1 h1 h2;simp only[zkF,zkG]at e;obtain⟨rfl,rfl,rfl⟩:=e;have ih:=znx h2
   have up:((bxG own d (i+1) cs).map (·.1)).Sublist ((g1++gs1).map (·.1)):=by
    rw[ya0];exact ih.trans (ydo _ _)
   unfold argG at h1;unfold bxG;split at h1
   ·split at h1
    ·rename_i b g;split at h1
     ·simp only[zkF,zkG]at h1;obtain⟨rfl,rfl,rfl⟩:=h1;simp only;split
      ·simp only[yav,yc2];refine List.Sublist.cons_cons _ ?_;exact ih
      ·exact up
     ·cases h1
    ·rename_i b g;split at h1
     ·split at h1
      ·simp only[zkF,zkG]at h1;obtain⟨rfl,rfl,rfl⟩:=h1;simp only[yav,yc2];refine List.Sublist.cons_cons _ ?_;rw[ya0];exact ih.trans (ydo _ _)
      ·cases h1
     ·cases h1
    ·exact up
    ·cases h1
   ·exact up
  ·cases e
def agL_len:∀(cs:List AV),(agL cs).length=cs.length
 |[]=>rfl
 |_::l=>congrArg (·+1) (agL_len l)
def argG_nm{own:List Nat}{d i:Nat}{a:AV}{x:Arg}{bs gs:yad}(h:argG σ own d i a=some (x,bs,gs)):x≠.lent .dead:=by
 rintro rfl;unfold argG at h;split at h
 ·split at h
  ·split at h
   ·rename_i k hk;simp only[zkF,zkG]at h;unfold lentG at h;split at h
    ·obtain⟨h1,_⟩:=h;injection h1 with h1
     exact(zjl hk).2.1 h1
    ·cases h.1
   ·cases h
  ·split at h
   ·split at h
    ·simp at h
    ·cases h
   ·cases h
  ·split at h
   ·split at h
    ·simp at h
    ·cases h
   ·cases h
  ·cases h
 ·split at h
  ·split at h
   ·simp at h
   ·cases h
  ·split at h
   ·simp at h
   ·cases h
def argsG_nm{own:List Nat}{d i:Nat}{al0:List AV}{xs:List Arg}{bs gs:yad}(h:ziw σ own d i al0=some (xs,bs,gs)):nmX xs=true:=by
 cases al0 with
 |nil =>
  simp only[ziw,zkF,zkG]at h;rw[<- h.1];rfl
 |cons a l =>
  simp only[ziw]at h;split at h
  ·rename_i h1 _;simp only[zkF,zkG]at h;rw[<- h.1];have:=argG_nm h1;unfold nmX;split
   ·rename_i e;injection e with e
    exact absurd e this
   ·rfl
  ·cases h
def aCall_ok{C:FuncId->List Arg->Rs->Prop}(hC:∀g xs r,C g xs r->SpX P g xs r){own:List Nat}{c:Call}{f:Operand}(hop:o.op=.call c)(hcal:c.callee=.value f)(hd:zct B.n o=true)(h:aCall own o σ K C f c.args.toList):∃fx,K fx/\Eff P B o fx.rd σ fx.wr:=by
 unfold aCall at h;split at h
 ·rename_i d g caps b4 hf;split at h
  ·rename_i xs bs gs b9;obtain⟨e1,h⟩:=h.ok;obtain⟨a0,a9⟩:=zfm e1;obtain⟨c8,r,hr,h⟩:=h.out;obtain⟨a5,e2⟩:=(hC g xs r hr).sp (argsG_nm b9);cases r with
   |mk tp l ys =>
   simp only at h;split at h
   ·rename_i al ss bl ss' c7 c9;split at h
    ·rename_i va c6;obtain⟨d9,h⟩:=h.ok;obtain⟨a8,b5⟩:=zfm d9;have d6:al=(zcc σ (zd4 tp d) 0 l).1:=by rw[c7]
     have e5:ss=(zcc σ (zd4 tp d) 0 l).2:=by rw[c7]
     subst d6 e5;have b0:=((znx b9).nodup a0);have c0:∀t,some d=some t->t<B.n:=λt e=>by injection e with e;subst e;exact zc0 hd b4
     have b3:∀(σ':St),(∀x∈opd f++opdL c.args.toList++frd σ (bs++gs)++zks ((zcc σ (zd4 tp d) 0 l).2++ss'),σ' x=σ x)->∀(a:Act) (w:World) (ρ:Ly),SatR B σ' a w ρ->∀(K':Act->World->Prop) (Q:Exit->Act->World->Prop),
       (∀v w' F',Belo (λb=>b∈zdh σ' ρ gs) w.heap.size w w'->zl9 w' (λb=>(Imm B (app σ' (fwr bs)) ρ w b\/w.heap.size<=b\/b∈zdh σ' ρ gs)/\b<w'.heap.size/\b∉F') v ((bxG own d 0 (c.args.toList.map (evA σ)++caps)).map λp=>ρ p.1) (.mk tp l ys) F' ->
        F'.Nodup->(∀b∈F',(w.heap.size<=b\/b∈zdh σ' ρ gs)/\b<w'.heap.size)->(∀p∈(zcc σ (zd4 tp d) 0 l).2++ss',σ'.gn p.1=σ.gn p.1/\σ'.ig p.1=σ.ig p.1)->K' (a.put (some d) v) w')->o.wp P a w K' Q:=by
      intro σ' hag a w ρ hs K' Q hK;have d4:=zaw (zaw (zaw hag));have d1:=za7 (zaw (zaw hag));have a4:zc5 σ σ' (bs++gs):=za7 (zaw hag);have b2:=za7 hag
      have b7:∀p∈bs++gs,σ'.gn p.1=p.2:=λp hp=>by
       rw[<- c8 p hp];exact(a4.mem hp).1
      obtain⟨us,d8,e0⟩:∃us:List Value,a.eval f=.func (.func g) #[] us.toArray/\Reps w (Imm B σ' ρ w) ρ σ'.gn us caps:=by
       have h1:=za4 hs f;rw[zal d4]at h1;split at hf
       ·rename_i g' a2 b6;simp only[zkF,zkG]at hf;obtain⟨rfl,rfl⟩:=hf;rw[b6]at h1;have h1:=h1.im_inv;generalize a.eval f=v at h1;cases h1 with
        |fn _ us _ hl hr =>
         refine⟨us,rfl,by simpa using hl,λi u y hu hy=>?_⟩;simp only[yae]at hy;cases hc:a2[i]? with
         |none=>rw[hc]at hy;cases hy
         |some c =>
          rw[hc]at hy;simp only[yap,zkF]at hy;rw[<- hy];exact .im _ _ (hr i u c hu hc)
       ·rename_i g' a2 b6;simp only[zkF,zkG]at hf;obtain⟨rfl,rfl⟩:=hf;rw[b6]at h1;generalize a.eval f=v at h1;cases h1 with
        |fn _ us _ hl hr=>exact⟨us,rfl,hl,hr⟩
       ·cases hf
      have a3:=(evL_ok hs d1).app e0;have d2:=zi6 b9 a4.left a4.right;have d3:=zns hs (bs0:=bs) (λp hp=>b7 p (yan _ hp)) a3 d2 (λ_ h=>h) λp hp=>b7 p (yai _ hp);obtain⟨d7,_⟩:=bxG_ok hs a3 d2 λp hp=>b7 p (yai _ hp)
      have a6:=e2 w (Imm B (app σ' (fwr bs)) ρ w) _ _ (λb hb=>hb.2.1) d3 (zen hs a0) λb hb=>by
       obtain⟨p,hp,ho⟩:=zds.1 hb;refine⟨λhi=>hi.2.2.1 p.1 ?_,(hs.own p.1 b ho).2⟩;unfold Owns at ho ⊢;rw[zjk,if_neg (a9 p.1 (yao.2 ⟨p,hp,rfl⟩))];exact ho
      have run:(execOp a.eval o).run P w=.ok (.enter g (c.args.toList.map a.eval++us).toArray) w:=by
       have e:(c.args.map a.eval)++us.toArray=(c.args.toList.map a.eval++us).toArray:=by
        apply ye7;simp
       simp[execOp,hop,resolve,hcal,d8,Deferred.ofValue,invoke,a5,<- e]
      unfold Oper.wp;rw[run,Oper.upon_enter];refine a6.mono ?_;rintro e w' ⟨v,F',rfl,d0,a7,d5,e3⟩;show K' (a.put o.dst v) w';rw[b4];rw[d7]at a7
      exact hK v w' F' d0 a7 d5 e3 λp hp=>by
       obtain⟨h5,h6⟩:=zib hp;exact⟨zdj (b2 _ h5),zhc (b2 _ h6)⟩
     split at h
     ·obtain⟨b8,h⟩:=h.out;refine⟨_,h,λσ' hag a w ⟨ρ,hs⟩ K' Q hK=>b3 σ' hag a w ρ hs K' Q λv w' F' h1 h2 h3 h4 h5=>hK _ _ ?_⟩;obtain⟨ρ',g1,g2,_⟩:=zh4 hs gs a0 (S':=λ_=>False) h1 (λb hb=>hb.elim) (resOk_flat b8 h2) h3 h4 c9 rfl b0 c6 a8 b5 h5;refine⟨ρ',?_⟩;show SatR B (app σ' (fwr gs++(zc7 σ ((zcc σ (zd4 tp d) 0 l).2++ss')++(bxWr bl++[(.tmp d,.av va)])))) _ _ _;rw[zaz,zaz,zaz];exact g1.put (d:=some d) c0 g2
     ·refine⟨_,h,λσ' hag a w ⟨ρ,hs⟩ K' Q hK=>b3 σ' hag a w ρ hs K' Q λv w' F' h1 h2 h3 h4 h5=>hK _ _ ?_⟩;have e4:=zlo (σ:=σ') (ρ:=ρ) (bs:=bs) (gs:=gs) λp hp=>a9 p.1 (yao.2 ⟨p,hp,rfl⟩);rw[<- e4]at h1 h2 h4;obtain⟨ρ',g1,g2,_⟩:=zh4 (hs.kills bs).1 gs a0 h1 (λb hb=>hb) h2 h3 h4 c9 rfl b0 c6 a8 b5 λp hp=>by rw[zl4,zq3];exact h5 p hp
      refine⟨ρ',?_⟩;show SatR B (app σ' (fwr bs++(fwr gs++(zc7 σ ((zcc σ (zd4 tp d) 0 l).2++ss')++(bxWr bl++[(.tmp d,.av va)]))))) _ _ _;rw[zaz,zaz,zaz,zaz];exact g1.put (d:=some d) c0 g2
    ·exact h.elim
   ·exact h.elim
  ·exact h.elim
 ·exact h.elim
def aCallA_ok{C:FuncId->List Arg->Rs->Prop}(hC:∀g xs r,C g xs r->SpX P g xs r){own:List Nat}{c:Call}{f:Operand}(hop:o.op=.call c)(hcal:c.callee=.value f)(hd:zct B.n o=true)(h:aCallA own o σ K C f c.args.toList):∃fx,K fx/\Eff P B o fx.rd σ fx.wr:=by
 unfold aCallA at h;split at h
 ·rename_i d g caps cs rest b4 hf d8;split at h
  ·rename_i xs bs gs d4;obtain⟨e8,h⟩:=h.ok;obtain⟨a4,b2⟩:=zfm e8;obtain⟨c6,r,hr,h⟩:=h.out;obtain⟨a8,e9⟩:SpA P g (agT (own.contains (8500000+d))) (agL cs).length xs r:=hC g _ r hr;cases r with
   |mk tp l ys =>
   simp only at h;split at h
   ·rename_i al ss bl ss' b9 e5;split at h
    ·rename_i va a3;obtain⟨e6,h⟩:=h.ok;obtain⟨b8,d5⟩:=zfm e6;have e1:al=(zcc σ (zd4 tp d) 0 l).1:=by rw[b9]
     have f5:ss=(zcc σ (zd4 tp d) 0 l).2:=by rw[b9]
     subst e1 f5;have c7:=((znx d4).nodup a4);have d9:∀t,some d=some t->t<B.n:=λt e=>by injection e with e;subst e;exact zc0 hd b4
     have d3:∀(σ':St),(∀x∈opd f++opdL c.args.toList++frd σ (bs++gs)++zks ((zcc σ (zd4 tp d) 0 l).2++ss'),σ' x=σ x)->∀(a:Act) (w:World) (ρ:Ly),SatR B σ' a w ρ->∀(K':Act->World->Prop) (Q:Exit->Act->World->Prop),
       (∀v u w' F',RetA (agT (own.contains (8500000+d))) v u->Belo (λb=>b∈zdh σ' ρ gs) w.heap.size w w'->zl9 w' (λb=>(Imm B (app σ' (fwr bs)) ρ w b\/w.heap.size<=b\/b∈zdh σ' ρ gs)/\b<w'.heap.size/\b∉F') u ((bxG own d 0 (cs++(rest++caps))).map λp=>ρ p.1) (.mk tp l ys) F' ->
        F'.Nodup->(∀b∈F',(w.heap.size<=b\/b∈zdh σ' ρ gs)/\b<w'.heap.size)->(∀p∈(zcc σ (zd4 tp d) 0 l).2++ss',σ'.gn p.1=σ.gn p.1/\σ'.ig p.1=σ.ig p.1)->K' (a.put (some d) v) w')->o.wp P a w K' Q:=by
      intro σ' hag a w ρ hs K' Q hK;have d6:=zaw (zaw (zaw hag));have c9:=za7 (zaw (zaw hag));have a7:zc5 σ σ' (bs++gs):=za7 (zaw hag);have b3:=za7 hag
      have b5:∀p∈bs++gs,σ'.gn p.1=p.2:=λp hp=>by
       rw[<- c6 p hp];exact(a7.mem hp).1
      obtain⟨us,e3,e7⟩:∃us:List Value,a.eval f=.func (.func g) #[] us.toArray/\Reps w (Imm B σ' ρ w) ρ σ'.gn us caps:=by
       have h1:=za4 hs f;rw[zal d6]at h1;split at hf
       ·rename_i g' a5 a0;simp only[zkF,zkG]at hf;obtain⟨rfl,rfl⟩:=hf;rw[a0]at h1;have h1:=h1.im_inv;generalize a.eval f=v at h1;cases h1 with
        |fn _ us _ hl hr =>
         refine⟨us,rfl,by simpa using hl,λi u y hu hy=>?_⟩;simp only[yae]at hy;cases hc:a5[i]? with
         |none=>rw[hc]at hy;cases hy
         |some c =>
          rw[hc]at hy;simp only[yap,zkF]at hy;rw[<- hy];exact .im _ _ (hr i u c hu hc)
       ·rename_i g' a5 a0;simp only[zkF,zkG]at hf;obtain⟨rfl,rfl⟩:=hf;rw[a0]at h1;generalize a.eval f=v at h1;cases h1 with
        |fn _ us _ hl hr=>exact⟨us,rfl,hl,hr⟩
       ·cases hf
      have a0:=evL_ok hs c9;rw[d8]at a0
      obtain⟨u0,vr,e4,h0,a2,e0⟩:∃u0 vr,c.args.toList.map a.eval=.agg u0.toArray::vr/\Reps w (Imm B σ' ρ w) ρ σ'.gn u0 cs/\(∀u∈u0,u.oneCell'=true)/\Reps w (Imm B σ' ρ w) ρ σ'.gn vr rest:=by
       generalize c.args.toList.map a.eval=vs at a0
       match vs,a0 with
       |[],a0=>have:=a0.1;simp at this
       |v::vr,a0 =>
        have h1:=a0.2 0 v (.agg cs) rfl rfl;cases h1 with
        |agg us _ hl h1 hr=>exact⟨us,vr,rfl,⟨hl,hr⟩,h1,by simpa using a0.1,λi u x hu hx=>a0.2 (i+1) u x (by simpa using hu) (by simpa using hx)⟩
      have a6:=h0.app (e0.app e7);have d1:=zi6 d4 a7.left a7.right;have d2:=zns hs (bs0:=bs) (λp hp=>b5 p (yan _ hp)) a6 d1 (λ_ h=>h) λp hp=>b5 p (yai _ hp);obtain⟨e2,_⟩:=bxG_ok hs a6 d1 λp hp=>b5 p (yai _ hp)
      have a9:=e9 w (Imm B (app σ' (fwr bs)) ρ w) _ _ _ (λb hb=>hb.2.1) d2 (by rw[agL_len];exact h0.1) a2 (zen hs a4) λb hb=>by
       obtain⟨p,hp,ho⟩:=zds.1 hb;refine⟨λhi=>hi.2.2.1 p.1 ?_,(hs.own p.1 b ho).2⟩;unfold Owns at ho ⊢;rw[zjk,if_neg (b2 p.1 (yao.2 ⟨p,hp,rfl⟩))];exact ho
      have run:(execOp a.eval o).run P w=.ok (.enter g (c.args.toList.map a.eval++us).toArray) w:=by
       have e:(c.args.map a.eval)++us.toArray=(c.args.toList.map a.eval++us).toArray:=by
        apply ye7;simp
       simp[execOp,hop,resolve,hcal,e3,Deferred.ofValue,invoke,a8,<- e]
      rw[e4]at run;unfold Oper.wp;rw[run,Oper.upon_enter];refine a9.mono ?_;rintro e w' ⟨v,u,F',rfl,b7,c8,b0,d7,f3⟩;show K' (a.put o.dst v) w';rw[b4];rw[e2]at b0
      exact hK v u w' F' b7 c8 b0 d7 f3 λp hp=>by
       obtain⟨h5,h6⟩:=zib hp;exact⟨zdj (b3 _ h5),zhc (b3 _ h6)⟩
     refine⟨_,h,λσ' hag a w ⟨ρ,hs⟩ K' Q hK=>d3 σ' hag a w ρ hs K' Q λv u w' F' h0 h1 h2 h3 h4 h5=>hK _ _ ?_⟩;have f4:=zlo (σ:=σ') (ρ:=ρ) (bs:=bs) (gs:=gs) λp hp=>b2 p.1 (yao.2 ⟨p,hp,rfl⟩);rw[<- f4]at h1 h2 h4
     obtain⟨b6,c0,d0⟩:∃b6,resV tp (zcc σ (zd4 tp d) 0 l).1=some b6/\∀(w:World) (S:Nat->Prop) (ρ:Ly) (γ:Nat->Nat),RepA w S ρ γ u b6->RepA w S ρ γ v va:=by
      generalize own.contains (8500000+d)=fl at a3 h0;cases fl with
      |false=>exact⟨va,a3,λ_ _ _ _ hr=>by have h0:v=u:=h0;rw[h0];exact hr⟩
      |true =>
       obtain⟨us',rfl,rfl,ho⟩:∃us:List Value,u=.tuple us.toArray/\v=.agg us.toArray/\∀x∈us,x.oneCell'=true:=h0;cases tp with
       |false=>cases a3
       |true =>
        have a3:some (AV.agg (zcc σ (zd4 true d) 0 l).1)=some va:=a3;injection a3 with a3
        subst a3;refine⟨_,rfl,λw S ρ γ hr=>?_⟩;generalize hq:Value.tuple us'.toArray=q at hr;cases hr with
        |tup us2 _ hl hr2 =>
         have e:us2=us':=by
          injection hq with hq
          have:=congrArg Array.toList hq;simpa using this.symm
         subst e;exact .agg _ _ hl ho hr2
     obtain⟨ρ',g1,g2,_⟩:=zh4 (hs.kills bs).1 gs a4 h1 (λb hb=>hb) h2 h3 h4 e5 rfl c7 c0 b8 d5 λp hp=>by rw[zl4,zq3];exact h5 p hp
     refine⟨ρ',?_⟩;show SatR B (app σ' (fwr bs++(fwr gs++(zc7 σ ((zcc σ (zd4 tp d) 0 l).2++ss')++(bxWr bl++[(.tmp d,.av va)]))))) _ _ _;rw[zaz,zaz,zaz,zaz];exact g1.put (d:=some d) d9 (d0 _ _ _ _ g2)
    ·exact h.elim
   ·exact h.elim
  ·exact h.elim
 ·exact h.elim
def aCallR_ok{C:FuncId->List Arg->Rs->Prop}(hC:∀g xs r,C g xs r->SpX P g xs r){own:List Nat}{c:Call}{f:Operand}(hop:o.op=.call c)(hcal:c.callee=.value f)(hd:zct B.n o=true)(h:aCallR own o σ K C f c.args.toList):∃fx,K fx/\Eff P B o fx.rd σ fx.wr:=by
 unfold aCallR at h;split at h
 ·rename_i d g caps b3 hf;split at h
  ·rename_i xs bs gs d5;obtain⟨e0,h⟩:=h.ok;obtain⟨a5,b0⟩:=zfm e0;obtain⟨b8,r,hr,h⟩:=h.out;obtain⟨a7,e7⟩:SpR P g xs r:=hC g _ r hr;cases r with
   |mk tp l ys =>
   simp only at h;split at h
   ·rename_i al ss bl ss' d2 e5;split at h
    ·rename_i va a0;obtain⟨e6,h⟩:=h.ok;obtain⟨b6,c9⟩:=zfm e6;have d7:al=(zcc σ (zd4 tp d) 0 l).1:=by rw[d2]
     have e8:ss=(zcc σ (zd4 tp d) 0 l).2:=by rw[d2]
     subst d7 e8;have b9:=((znx d5).nodup a5);have e3:∀t,some d=some t->t<B.n:=λt e=>by injection e with e;subst e;exact zc0 hd b3
     have c8:∀(σ':St),(∀x∈opd f++opdL c.args.toList++frd σ (bs++gs)++zks ((zcc σ (zd4 tp d) 0 l).2++ss'),σ' x=σ x)->∀(a:Act) (w:World) (ρ:Ly),SatR B σ' a w ρ->∀(K':Act->World->Prop) (Q:Exit->Act->World->Prop),
       (∀v u w' F',RetA 1 v u->Belo (λb=>b∈zdh σ' ρ gs) w.heap.size w w'->zl9 w' (λb=>(Imm B (app σ' (fwr bs)) ρ w b\/w.heap.size<=b\/b∈zdh σ' ρ gs)/\b<w'.heap.size/\b∉F') u ((bxG own d 0 (c.args.toList.map (evA σ)++caps)).map λp=>ρ p.1) (.mk tp l ys) F' ->
        F'.Nodup->(∀b∈F',(w.heap.size<=b\/b∈zdh σ' ρ gs)/\b<w'.heap.size)->(∀p∈(zcc σ (zd4 tp d) 0 l).2++ss',σ'.gn p.1=σ.gn p.1/\σ'.ig p.1=σ.ig p.1)->K' (a.put (some d) v) w')->o.wp P a w K' Q:=by
      intro σ' hag a w ρ hs K' Q hK;have d0:=zaw (zaw (zaw hag));have c0:=za7 (zaw (zaw hag));have a6:zc5 σ σ' (bs++gs):=za7 (zaw hag);have b2:=za7 hag
      have b5:∀p∈bs++gs,σ'.gn p.1=p.2:=λp hp=>by
       rw[<- b8 p hp];exact(a6.mem hp).1
      obtain⟨us,d8,d9⟩:∃us:List Value,a.eval f=.func (.func g) #[] us.toArray/\Reps w (Imm B σ' ρ w) ρ σ'.gn us caps:=by
       have h1:=za4 hs f;rw[zal d0]at h1;split at hf
       ·rename_i g' a3 a2;simp only[zkF,zkG]at hf;obtain⟨rfl,rfl⟩:=hf;rw[a2]at h1;have h1:=h1.im_inv;generalize a.eval f=v at h1;cases h1 with
        |fn _ us _ hl hr =>
         refine⟨us,rfl,by simpa using hl,λi u y hu hy=>?_⟩;simp only[yae]at hy;cases hc:a3[i]? with
         |none=>rw[hc]at hy;cases hy
         |some c =>
          rw[hc]at hy;simp only[yap,zkF]at hy;rw[<- hy];exact .im _ _ (hr i u c hu hc)
       ·rename_i g' a3 a2;simp only[zkF,zkG]at hf;obtain⟨rfl,rfl⟩:=hf;rw[a2]at h1;generalize a.eval f=v at h1;cases h1 with
        |fn _ us _ hl hr=>exact⟨us,rfl,hl,hr⟩
       ·cases hf
      have a2:=evL_ok hs c0;have a4:=a2.app d9;have c6:=zi6 d5 a6.left a6.right;have c7:=zns hs (bs0:=bs) (λp hp=>b5 p (yan _ hp)) a4 c6 (λ_ h=>h) λp hp=>b5 p (yai _ hp);obtain⟨e4,_⟩:=bxG_ok hs a4 c6 λp hp=>b5 p (yai _ hp)
      have a8:=e7 w (Imm B (app σ' (fwr bs)) ρ w) _ _ (λb hb=>hb.2.1) c7 (zen hs a5) λb hb=>by
       obtain⟨p,hp,ho⟩:=zds.1 hb;refine⟨λhi=>hi.2.2.1 p.1 ?_,(hs.own p.1 b ho).2⟩;unfold Owns at ho ⊢;rw[zjk,if_neg (b0 p.1 (yao.2 ⟨p,hp,rfl⟩))];exact ho
      have run:(execOp a.eval o).run P w=.ok (.enter g (c.args.toList.map a.eval++us).toArray) w:=by
       have e:(c.args.map a.eval)++us.toArray=(c.args.toList.map a.eval++us).toArray:=by
        apply ye7;simp
       simp[execOp,hop,resolve,hcal,d8,Deferred.ofValue,invoke,a7,<- e]
      unfold Oper.wp;rw[run,Oper.upon_enter];refine a8.mono ?_;rintro e w' ⟨v,u,F',rfl,d1,d3,a9,d6,e1⟩;show K' (a.put o.dst v) w';rw[b3];rw[e4]at a9
      exact hK v u w' F' d1 d3 a9 d6 e1 λp hp=>by
       obtain⟨h5,h6⟩:=zib hp;exact⟨zdj (b2 _ h5),zhc (b2 _ h6)⟩
     refine⟨_,h,λσ' hag a w ⟨ρ,hs⟩ K' Q hK=>c8 σ' hag a w ρ hs K' Q λv u w' F' h0 h1 h2 h3 h4 h5=>hK _ _ ?_⟩;have e2:=zlo (σ:=σ') (ρ:=ρ) (bs:=bs) (gs:=gs) λp hp=>b0 p.1 (yao.2 ⟨p,hp,rfl⟩);rw[<- e2]at h1 h2 h4
     obtain⟨b4,b7,d4⟩:∃b4,resV tp (zcc σ (zd4 tp d) 0 l).1=some b4/\∀(w:World) (S:Nat->Prop) (ρ:Ly) (γ:Nat->Nat),RepA w S ρ γ u b4->RepA w S ρ γ v va:=by
      obtain⟨us',rfl,rfl,ho⟩:∃us:List Value,u=.tuple us.toArray/\v=.agg us.toArray/\∀x∈us,x.oneCell'=true:=h0;cases tp with
      |false=>cases a0
      |true =>
       have a0:some (AV.agg (zcc σ (zd4 true d) 0 l).1)=some va:=a0;injection a0 with a0
       subst a0;refine⟨_,rfl,λw S ρ γ hr=>?_⟩;generalize hq:Value.tuple us'.toArray=q at hr;cases hr with
       |tup us2 _ hl hr2 =>
        have e:us2=us':=by
         injection hq with hq
         have:=congrArg Array.toList hq;simpa using this.symm
        subst e;exact .agg _ _ hl ho hr2
     obtain⟨ρ',g1,g2,_⟩:=zh4 (hs.kills bs).1 gs a5 h1 (λb hb=>hb) h2 h3 h4 e5 rfl b9 b7 b6 c9 λp hp=>by rw[zl4,zq3];exact h5 p hp
     refine⟨ρ',?_⟩;show SatR B (app σ' (fwr bs++(fwr gs++(zc7 σ ((zcc σ (zd4 tp d) 0 l).2++ss')++(bxWr bl++[(.tmp d,.av va)]))))) _ _ _;rw[zaz,zaz,zaz,zaz];exact g1.put (d:=some d) e3 (d4 _ _ _ _ g2)
    ·exact h.elim
   ·exact h.elim
  ·exact h.elim
 ·exact h.elim
end
end
section
open Go.RowKit
def cellV(w:World)(v:Value)(j:Nat):Value:=match v with
 | .pointer (some a)=>match w.heap[a.block]? with
  |some (.cells us _ _)=>us.toList.getD j undef
  |_=>undef
 |_=>undef
def fillCs_ok{w:World}{S:Nat->Prop}{h:Nat->Bool}{V:Nat->Value}:∀{us:List Value} {cs:List Oc} {j:Nat} {F:List Nat},(∀k u,us[k]?=some u->V (j+k)=u/\u.oneCell'=true)->zjf w S us cs F->zjf w S us (fillCs h V j cs) F
 |[],[],_,_,_,hk=>hk
 |[],_::_,_,_,_,hk=>hk.elim
 |_::_,[],_,_,_,hk=>hk.elim
 |u::us,c::cs,j,F,hv,⟨F1,F2,h1,h2,h3⟩=>by
  refine⟨F1,F2,?_,fillCs_ok (λk x hx=>by rw[ybt,ycm 1 k];exact hv (k+1) x (by simpa using hx)) h2,h3⟩;unfold fillC;split
  ·split
   ·rename_i hc;cases c with
    |ow k=>cases hc
    |im x =>
     obtain⟨_,h1⟩:=h1;obtain⟨this,a2⟩:=hv 0 u rfl;rw[ybz]at this;rw[this];exact⟨.ex _ a2,h1⟩
   ·exact h1
  ·exact h1
def fillX_ok{w:World}{S:Nat->Prop}{own:List Nat}{d:Nat}{V:Nat->Nat->Value}:∀{vs:List Value} {xs:List Arg} {i:Nat} {F:List Nat},(∀k v j,vs[k]?=some v->V (i+k) j=cellV w v j)->zdz w S vs xs F->zdz w S vs (fillX own d V i xs) F
 |[],[],_,_,_,hk=>hk
 |[],_::_,_,_,_,hk=>hk.elim
 |_::_,[],_,_,_,hk=>hk.elim
 |v::vs,x::xs,i,F,hv,⟨F1,F2,h1,h2,h3⟩=>by
  refine⟨F1,F2,?_,fillX_ok (λk x j hx=>by rw[ybt,ycm 1 k];exact hv (k+1) x j (by simpa using hx)) h2,h3⟩;cases x with
  |im x=>exact h1
  |ow k=>exact h1
  |lent k=>exact h1
  |box t cs =>
   obtain⟨q,us,F',e1,e2,e3,e4,e5⟩:=h1;refine⟨q,us,F',e1,e2,e3,fillCs_ok (λk u hu=>?_) e4,e5⟩;have:=hv 0 v (0+k) rfl;rw[ybz]at this;refine⟨?_,e3 u (zkH hu)⟩;rw[this,e1];unfold cellV;simp only[e2];rw[yal,ybj,hu];rfl
def fillX_vs{own:List Nat}{d:Nat}{V:Nat->Nat->Value}:∀{vs:List Value} {xs:List Arg} {i:Nat},bxVs vs (fillX own d V i xs)=bxVs vs xs
 |[],[],_=>rfl
 |[],_::_,_=>rfl
 |_::_,[],_=>rfl
 |v::vs,x::xs,i=>by
  have ih:=fillX_vs (own:=own) (d:=d) (V:=V) (vs:=vs) (xs:=xs) (i:=i+1);cases x with
  |im x=>exact ih
  |ow k=>exact ih
  |lent k=>show v::_=v::_;rw[ih]
  |box t cs=>show v::_=v::_;rw[ih]
def zrg{w:World}{S:Nat->Prop}{h:Nat->Bool}{V:Nat->Value}:∀{us:List Value} {cs:List Oc} {j:Nat} {F:List Nat},zjf w S us (fillCs h V j cs) F->zjf w S us cs F/\∀k c,cs[k]?=some c->h (j+k)=true->isAny c=true->us[k]?=some (V (j+k))
 |[],[],_,_,hk=>⟨hk,λk c hc=>by simp at hc⟩
 |[],_::_,_,_,hk=>hk.elim
 |_::_,[],_,_,hk=>hk.elim
 |u::us,c::cs,j,F,⟨F1,F2,h1,h2,h3⟩=>by
  obtain⟨r1,r2⟩:=zrg h2
  have key:OcOk w S u c F1/\(h j=true->isAny c=true->u=V j):=by
   unfold fillC at h1;split at h1
   ·rename_i hh;split at h1
    ·rename_i hc;obtain⟨h4,h5⟩:=h1;cases c with
     |ow k=>cases hc
     |im x =>
      cases x with
      |any=>cases h4;exact⟨⟨.any _,h5⟩,λ_ _=>rfl⟩
      |_=>cases hc
    ·rename_i hc;exact⟨h1,λ_ h6=>by rw[hc]at h6;cases h6⟩
   ·rename_i hh;exact⟨h1,λh6 _=>by rw[hh]at h6;cases h6⟩
  refine⟨⟨F1,F2,key.1,r1,h3⟩,λk c' hc hh ha=>?_⟩;cases k with
  |zero =>
   simp at hc;subst hc;rw[key.2 hh ha];rfl
  |succ k =>
   have:=r2 k c' (by simpa using hc) (by rw[ybt,ycm 1 k];exact hh) ha;rw[ybt,ycm 1 k]at this;simpa using this
def zs3{w:World}{S:Nat->Prop}{own:List Nat}{d:Nat}{V:Nat->Nat->Value}:∀{bx:yad} {ps:List Value} {ys:List Arg} {F:List Nat},zdz w S ps (fillY own d V bx ys) F->zdz w S ps ys F /\
  ∀p∈hlY own d bx ys,∃(k i:Nat) (t:TypeId) (cs:List Oc) (q:Nat) (us:List Value),bx[k]?=some (p.1,i)/\ys[k]?=some (.box t cs)/\p.2<cs.length/\ps[k]?=some (.pointer (some ⟨q,0,none⟩))/\w.heap[q]?=some (.cells us.toArray t (0,0))/\us[p.2]?=some (V i p.2)
 |[],ps,ys,F,hk=>⟨hk,λp hp=>by cases ys<;>simp[hlY]at hp⟩
 |_::_,ps,[],F,hk=>⟨hk,λp hp=>by simp[hlY]at hp⟩
 |(b,i)::bx,[],y::ys,F,hk=>hk.elim
 |(b,i)::bx,v::ps,y::ys,F,⟨F1,F2,h1,h2,h3⟩=>by
  obtain⟨r1,r2⟩:=zs3 h2
  have up:∀p∈hlY own d bx ys,∃(k i':Nat) (t:TypeId) (cs:List Oc) (q:Nat) (us:List Value),((b,i)::bx)[k]?=some (p.1,i')/\(y::ys)[k]?=some (.box t cs)/\p.2<cs.length/\(v::ps)[k]?=some (.pointer (some ⟨q,0,none⟩))/\w.heap[q]?=some (.cells us.toArray t (0,0))/\us[p.2]?=some (V i' p.2):=λp hp=>by
   obtain⟨k,i',t,cs,q,us,a1,a2,a3⟩:=r2 p hp;exact⟨k+1,i',t,cs,q,us,by simpa using a1,by simpa using a2,by simpa using a3⟩
  cases y with
  |im x=>exact⟨⟨F1,F2,h1,r1,h3⟩,up⟩
  |ow k=>exact⟨⟨F1,F2,h1,r1,h3⟩,up⟩
  |lent k=>exact⟨⟨F1,F2,h1,r1,h3⟩,up⟩
  |box t cs =>
   obtain⟨q,us,F',e1,e2,e3,e4,e5⟩:=h1;obtain⟨e6,e7⟩:=zrg e4;refine⟨⟨F1,F2,⟨q,us,F',e1,e2,e3,e6,e5⟩,r1,h3⟩,λp hp=>?_⟩;unfold hlY at hp;rcases yam.1 hp with hp|hp
   ·have hcell:∀(cs:List Oc) (j:Nat),p∈hlC own d i b j cs->∃m c,p=(b,j+m)/\cs[m]?=some c/\holeH own d i (j+m)=true/\isAny c=true:=by
     intro cs
     induction cs with
     |nil=>intro j hp;simp[hlC]at hp
     |cons c cs ih =>
      intro j hp
      have a0:p∈hlC own d i b (j+1) cs->∃m c',p=(b,j+m)/\(c::cs)[m]?=some c'/\holeH own d i (j+m)=true/\isAny c'=true:=λhp=>by
       obtain⟨m,c',a1,a2,a3,a4⟩:=ih (j+1) hp;exact⟨m+1,c',by rw[a1,ybt,ycm 1 m],by simpa using a2,by rw[<- ycm 1 m,<- ybt];exact a3,a4⟩
      unfold hlC at hp;split at hp
      ·rename_i hh ha;rcases yaw.1 hp with rfl|hp
       ·exact⟨0,c,rfl,rfl,hh,ha⟩
       ·exact a0 hp
      ·exact a0 hp
    obtain⟨m,c,rfl,a2,a3,a4⟩:=hcell cs 0 hp;rw[yal]at a3 ⊢;have a5:=e7 m c a2 (by rw[yal];exact a3) a4;rw[yal]at a5;exact⟨0,i,t,cs,q,us,rfl,rfl,(zkI.1 a2).1,by rw[e1];rfl,e2,a5⟩
   ·exact up p hp
def memB_iff{b:Nat}:∀{l:List Nat},memB b l=true↔b∈l
 |[]=>by simp[memB]
 |x::l=>by
  unfold memB;split
  ·rename_i h;simp[yar h]
  ·rename_i h;have hne:b≠x:=λe=>by rw[e,Nat.beq_refl]at h;cases h
   rw[memB_iff];simp[hne]
def memC_iff{b j:Nat}:∀{l:yad},memC b j l=true↔(b,j)∈l
 |[]=>by simp[memC]
 |x::l=>by
  unfold memC;split
  ·rename_i h;rw[yax]at h;have h1:=yar h.1;have h2:=yar h.2;have:(b,j)=x:=by rw[<- h1,<- h2]
   simp[this]
  ·rename_i h
   have a0:(b,j)≠x:=λe=>by
    rw[<- e]at h;simp at h
   rw[memC_iff];simp[a0]
section
variable {P:Program}{B:Base}{o:Oper}{σ:St}{K:Fx->Prop}
def keepW_at(bs:List Nat)(hs:yad)(l:Loc):∀(wr:List (Loc×Ct)) (σ:St),app σ (keepW bs hs wr) l=if keepL bs hs l=true then app σ wr l else σ l
 |[],σ=>by show σ l=_;split<;>rfl
 |p::wr,σ=>by
  unfold keepW;split
  ·rename_i hp;show app (upd σ p.1 p.2) (keepW bs hs wr) l=_;rw[keepW_at bs hs l wr];by_cases hl:keepL bs hs l=true
   ·rw[if_pos hl,if_pos hl];rfl
   ·rw[if_neg hl,if_neg hl,zd8,if_neg (λe=>hl (by rw[e];exact hp))]
  ·rename_i hp;rw[keepW_at bs hs l wr];by_cases hl:keepL bs hs l=true
   ·rw[if_pos hl,if_pos hl];have hne:l≠p.1:=λe=>by rw[e,hp]at hl;cases hl
    -- a write elsewhere
    have:∀(wr:List (Loc×Ct)) (σ1 σ2:St),(∀x,x≠p.1->σ1 x=σ2 x)->∀x,x≠p.1->app σ1 wr x=app σ2 wr x:=by
     intro wr
     induction wr with
     |nil=>intro σ1 σ2 h x hx;exact h x hx
     |cons q wr ih =>
      intro σ1 σ2 h x hx;refine ih (upd σ1 q.1 q.2) (upd σ2 q.1 q.2) (λy hy=>?_) x hx;rw[zd8,zd8];split
      ·rfl
      ·exact h y hy
    exact this wr σ (upd σ p.1 p.2) (λx hx=>by rw[zd8,if_neg hx]) l hne
   ·rw[if_neg hl,if_neg hl]
def argsG_box{own:List Nat}{d:Nat}{b i:Nat}:∀{cs:List AV} {i0:Nat} {xs:List Arg} {bs gs:yad},ziw σ own d i0 cs=some (xs,bs,gs)->(b,i)∈bxG own d i0 cs->objG σ b=none->∃k g,i=i0+k/\cs[k]?=some (.own b g 0)/\(b,g)∈gs
 |[],i0,xs,bs,gs,e,hm,_=>by simp[bxG]at hm
 |c::cs,i0,xs,bs,gs,e,hm,hn=>by
  simp only[ziw]at e;split at e
  ·rename_i x b1 g1 xs1 bs1 gs1 h1 h2;simp only[zkF,zkG]at e;obtain⟨rfl,rfl,rfl⟩:=e
   have up:(b,i)∈bxG own d (i0+1) cs->∃k g,i=i0+k/\(c::cs)[k]?=some (.own b g 0)/\(b,g)∈g1++gs1:=λhm=>by
    obtain⟨k,g,a1,a2,a3⟩:=argsG_box h2 hm hn;exact⟨k+1,g,by omega,by simpa using a2,yai _ a3⟩
   unfold argG at h1;unfold bxG at hm;split at h1
   ·rename_i ho;rw[ho]at hm;split at h1
    ·rename_i b' g';split at h1
     ·rename_i k hk;simp only at hm;split at hm
      ·rcases yaw.1 hm with e|hm
       ·simp only[zkG]at e;rw[<- e.1,hn]at hk;cases hk
       ·exact up hm
      ·exact up hm
     ·cases h1
    ·rename_i b' g';split at h1
     ·split at h1
      ·simp only[zkF,zkG]at h1;obtain⟨rfl,rfl,rfl⟩:=h1;simp only at hm;rcases yaw.1 hm with e|hm
       ·simp only[zkG]at e;obtain⟨rfl,rfl⟩:=e;exact⟨0,g',rfl,rfl,by simp⟩
       ·exact up hm
      ·cases h1
     ·cases h1
    ·exact up hm
    ·cases h1
   ·rename_i ho;rw[ho]at hm;exact up hm
  ·cases e
def zp4{τ:St}:∀{bx:yad} {ys:List Arg} {bl:List (Nat×LK)} {ss:List (Nat×Kd)},bxPl τ bx ys=some (bl,ss)->∀{k b i:Nat} {t:TypeId} {cs:List Oc},bx[k]?=some (b,i)->ys[k]?=some (.box t cs)->∃al,bl[k]?=some (b,.box t al)/\al.length=cs.length
 |[],_,_,_,_,k,b,i,t,cs,h1,_=>by simp at h1
 |_::_,[],_,_,e,k,b,i,t,cs,h1,h2=>by simp at h2
 |(b0,i0)::bx,y::ys,bl,ss,e,k,b,i,t,cs,h1,h2=>by
  cases y with
  |im x=>simp[bxPl]at e
  |ow x=>simp[bxPl]at e
  |lent x =>
   unfold bxPl at e;split at e
   ·rename_i l s2 hfk e2;simp only[zkF,zkG]at e;obtain⟨rfl,rfl⟩:=e;cases k with
    |zero=>simp at h2
    |succ k =>
     obtain⟨al,a1,a2⟩:=zp4 e2 (k:=k) (by simpa using h1) (by simpa using h2);exact⟨al,by simpa using a1,a2⟩
   ·cases e
  |box t0 cs0 =>
   unfold bxPl at e;split at e
   ·rename_i al s1 l s2 e1 e2;simp only[zkF,zkG]at e;obtain⟨rfl,rfl⟩:=e;cases k with
    |zero =>
     simp at h1 h2;obtain⟨rfl,rfl⟩:=h1;obtain⟨rfl,rfl⟩:=h2;refine⟨al,rfl,?_⟩;have:al=(zcc τ (cellNm τ b0 i0) 0 cs0).1:=by rw[e1]
     rw[this]
     have a0:∀(f:Nat->Nat) (cs:List Oc) (j:Nat),(zcc τ f j cs).1.length=cs.length:=by
      intro f cs
      induction cs with
      |nil=>intro j;rfl
      |cons c cs ih=>intro j;show(_::(zcc τ f (j+1) cs).1).length=_;rw[zkL,ih];rfl
     exact a0 _ _ _
    |succ k =>
     obtain⟨a3,a1,a2⟩:=zp4 e2 (k:=k) (by simpa using h1) (by simpa using h2);exact⟨a3,by simpa using a1,a2⟩
   ·cases e
def zku:∀{bl:List (Nat×LK)},sameBx σ bl=true->∀{b:Nat} {t:TypeId} {al:List AV},(b,LK.box t al)∈bl->σ.kd b=.box t al.length
 |[],_,b,t,al,h=>by simp at h
 |(b0,.obj k)::bl,e,b,t,al,h=>by
  rcases yaw.1 h with h|h
  ·simp at h
  ·exact zku (bl:=bl) e h
 |(b0,.box t0 al0)::bl,e,b,t,al,h=>by
  unfold sameBx at e;rw[yax]at e;rcases yaw.1 h with h|h
  ·simp only[zkG,LK.box.injEq]at h;obtain⟨rfl,rfl,rfl⟩:=h;have e1:=e.1;split at e1
   ·rename_i t' m hk;rw[yax]at e1;rw[hk,yar e1.1,yar e1.2]
   ·cases e1
  ·exact zku e.2 h
def bxN_mem:∀{bl:List (Nat×LK)} {b:Nat},b∈bxN bl->∃t al,(b,LK.box t al)∈bl
 |[],b,h=>by simp[bxN]at h
 |(b0,.obj k)::bl,b,h=>by
  obtain⟨t,al,h⟩:=bxN_mem (bl:=bl) h;exact⟨t,al,by simp[h]⟩
 |(b0,.box t al)::bl,b,h=>by
  have h:b∈b0::bxN bl:=h;rcases yaw.1 h with rfl|h
  ·exact⟨t,al,by simp⟩
  ·obtain⟨t,al,h⟩:=bxN_mem h;exact⟨t,al,by simp[h]⟩
def bxN_of:∀{bl:List (Nat×LK)} {b:Nat} {t:TypeId} {al:List AV},(b,LK.box t al)∈bl->b∈bxN bl
 |[],b,t,al,h=>by simp at h
 |(b0,.obj k)::bl,b,t,al,h=>by
  rcases yaw.1 h with h|h
  ·simp at h
  ·exact bxN_of (bl:=bl) h
 |(b0,.box t0 al0)::bl,b,t,al,h=>by
  show b∈b0::bxN bl;rcases yaw.1 h with h|h
  ·simp only[zkG]at h;simp[h.1]
  ·simp[bxN_of h]
def bxWr_kd:∀{bl:List (Nat×LK)} {σ:St} {b:Nat} {t:TypeId} {al:List AV},(bl.map (·.1)).Nodup->(b,LK.box t al)∈bl->(app σ (bxWr bl)).kd b=.box t al.length
 |[],σ,b,t,al,_,h=>by simp at h
 |(b0,x)::bl,σ,b,t,al,hn,h=>by
  rw[yav,yb0]at hn
  have happ:app σ (bxWr ((b0,x)::bl))=app (app σ (lkWr b0 x)) (bxWr bl):=by
   show app σ (lkWr b0 x++bxWr bl)=_;rw[zaz]
  rw[happ]
  have a0:∀(bl:List (Nat×LK)) (σ:St),b0∉bl.map (·.1)->(app σ (bxWr bl)).kd b0=σ.kd b0:=by
   intro bl
   induction bl with
   |nil=>intro σ _;rfl
   |cons p bl ih =>
    intro σ hm;rw[yav,yaw,not_or]at hm;show(app σ (lkWr p.1 p.2++bxWr bl)).kd b0=_;rw[zaz,ih _ hm.2];cases p.2 with
    |box t al =>
     show(app (upd σ (.knd p.1) (.kd (.box t al.length))) (zfg p.1 0 al)).kd b0=_;rw[znu,zei,if_neg hm.1]
    |obj k =>
     show(upd σ (.knd p.1) (.kd k)).kd b0=_;rw[zei,if_neg hm.1]
  rcases yaw.1 h with h|h
  ·simp only[zkG]at h;obtain⟨rfl,rfl⟩:=h;rw[a0 bl _ hn.1];show(app (upd σ (.knd b) (.kd (.box t al.length))) (zfg b 0 al)).kd b=_;rw[znu,zei,if_pos rfl]
  ·exact bxWr_kd hn.2 h
def fillX_nm{own:List Nat}{d i:Nat}{V:Nat->Nat->Value}{xs:List Arg}(h:nmX xs=true):nmX (fillX own d V i xs)=true:=by
 cases xs with
 |nil=>rfl
 |cons x l =>
  cases x with
  |im _=>rfl
  |ow _=>rfl
  |box _ _=>rfl
  |lent k=>cases k<;>first|rfl|cases h
def aCallH_ok{C:FuncId->List Arg->Rs->Prop}(hC:∀g xs r,C g xs r->SpX P g xs r){own:List Nat}{c:Call}{f:Operand}(hop:o.op=.call c)(hcal:c.callee=.value f)(hd:zct B.n o=true)(h:aCallH own o σ K C f c.args.toList):∃fx,K fx/\Eff P B o fx.rd σ fx.wr:=by
 unfold aCallH at h;split at h
 ·rename_i d g caps e9 hf;split at h
  ·rename_i xs bs gs d4;obtain⟨j4,h⟩:=h.ok;obtain⟨c6,b9⟩:=zfm j4;obtain⟨g9,tp,l,ys,hr,h⟩:=h.out;have j0:=λV=>(hC g _ _ (hr V)).sp (fillX_nm (argsG_nm d4));split at h
   ·rename_i al ss bl ss' i3 c8;split at h
    ·rename_i va j1;obtain⟨c9,h⟩:=h.ok;rw[yax]at c9;obtain⟨c9,b0⟩:=c9;obtain⟨g7,h8⟩:=zfm c9;have k6:al=(zcc σ (zd4 tp d) 0 l).1:=by rw[i3]
     have l7:ss=(zcc σ (zd4 tp d) 0 l).2:=by rw[i3]
     subst k6 l7;have d7:=((znx d4).nodup c6);have j8:∀t,some d=some t->t<B.n:=λt e=>by injection e with e;subst e;exact zc0 hd e9
     refine⟨_,h,λσ' hag a w ⟨ρ,hs⟩ K' Q hK=>?_⟩;have h9:=zaw (zaw (zaw hag));have h0:=za7 (zaw (zaw hag));have a9:zc5 σ σ' (bs++gs):=za7 (zaw hag);have e0:=za7 hag
     have d5:∀p∈bs++gs,σ'.gn p.1=p.2:=λp hp=>by
      rw[<- g9 p hp];exact(a9.mem hp).1
     obtain⟨us,j2,k7⟩:∃us:List Value,a.eval f=.func (.func g) #[] us.toArray/\Reps w (Imm B σ' ρ w) ρ σ'.gn us caps:=by
      have h1:=za4 hs f;rw[zal h9]at h1;split at hf
      ·rename_i g' c0 f6;simp only[zkF,zkG]at hf;obtain⟨rfl,rfl⟩:=hf;rw[f6]at h1;have h1:=h1.im_inv;generalize a.eval f=v at h1;cases h1 with
       |fn _ us _ hl hr =>
        refine⟨us,rfl,by simpa using hl,λi u y hu hy=>?_⟩;simp only[yae]at hy;cases hc:c0[i]? with
        |none=>rw[hc]at hy;cases hy
        |some c =>
         rw[hc]at hy;simp only[yap,zkF]at hy;rw[<- hy];exact .im _ _ (hr i u c hu hc)
      ·rename_i g' c0 f6;simp only[zkF,zkG]at hf;obtain⟨rfl,rfl⟩:=hf;rw[f6]at h1;generalize a.eval f=v at h1;cases h1 with
       |fn _ us _ hl hr=>exact⟨us,rfl,hl,hr⟩
      ·cases hf
     have a0:=(evL_ok hs h0).app k7;have g5:=zi6 d4 a9.left a9.right;have h4:=zns hs (bs0:=bs) (λp hp=>d5 p (yan _ hp)) a0 g5 (λ_ h=>h) λp hp=>d5 p (yai _ hp);obtain⟨l4,_⟩:=bxG_ok hs a0 g5 λp hp=>d5 p (yai _ hp);generalize k0:c.args.toList.map a.eval++us=vs at *
     let V:Nat->Nat->Value:=λi j=>cellV w (vs.getD i undef) j
     have f7:=fillX_ok (own:=own) (d:=d) (V:=V) (i:=0) (λk v j hv=>by
      show cellV w (vs.getD (0+k) undef) j=_
      rw[yal,ybj,hv];rfl) h4
     obtain⟨d6,l6⟩:=j0 V
     have d0:=l6 w (Imm B (app σ' (fwr bs)) ρ w) _ _ (λb hb=>hb.2.1) f7 (zen hs c6) λb hb=>by
      obtain⟨p,hp,ho⟩:=zds.1 hb;refine⟨λhi=>hi.2.2.1 p.1 ?_,(hs.own p.1 b ho).2⟩;unfold Owns at ho ⊢;rw[zjk,if_neg (b9 p.1 (yao.2 ⟨p,hp,rfl⟩))];exact ho
     have run:(execOp a.eval o).run P w=.ok (.enter g vs.toArray) w:=by
      have e:(c.args.map a.eval)++us.toArray=vs.toArray:=by
       rw[<- k0];apply ye7;simp
      simp[execOp,hop,resolve,hcal,j2,Deferred.ofValue,invoke,d6,<- e]
     unfold Oper.wp;rw[run,Oper.upon_enter];refine d0.mono ?_;rintro e w' ⟨v,F',rfl,d9,e8,i9,i7⟩;show K' (a.put o.dst v) w';rw[e9];rw[fillX_vs,l4]at e8;obtain⟨j9,F1,F2,r1,r2,r3,r4⟩:=e8;obtain⟨r5,r6⟩:=zs3 r3;have j6:=zlo (σ:=σ') (ρ:=ρ) (bs:=bs) (gs:=gs) λp hp=>b9 p.1 (yao.2 ⟨p,hp,rfl⟩);rw[<- j6]at d9 i7 r2 r5
     have h5:∀p∈(zcc σ (zd4 tp d) 0 l).2++ss',(app σ' (fwr bs)).gn p.1=σ.gn p.1/\(app σ' (fwr bs)).ig p.1=σ.ig p.1:=λp hp=>by
      obtain⟨h5,h6⟩:=zib hp;rw[zl4,zq3];exact⟨zdj (e0 _ h5),zhc (e0 _ h6)⟩
     obtain⟨ρ',g1,g2,g3,g4⟩:=zh4 (hs.kills bs).1 gs c6 d9 (λb hb=>hb) ⟨j9,F1,F2,r1,r2,r5,r4⟩ i9 i7 c8 rfl d7 j1 g7 h8 h5;have b7:=zn0 c8;have i6:(bl.map (·.1)).Nodup:=by rw[b7];exact d7
     -- the state with l3 i8
     generalize i0:fwr bs++(fwr gs++(zc7 σ ((zcc σ (zd4 tp d) 0 l).2++ss')++bxWr bl))=wr;generalize k5:hlY own d (bxG own d 0 (c.args.toList.map (evA σ)++caps)) ys=hl at r6
     have hσ1:app (app (app (app σ' (fwr bs)) (fwr gs)) (zc7 σ ((zcc σ (zd4 tp d) 0 l).2++ss'))) (bxWr bl)=app σ' wr:=by
      rw[<- i0,zaz,zaz,zaz]
     have d8:∀b∈bxN bl,∃t m,σ'.kd b=.box t m/\(app σ' wr).kd b=.box t m/\∀al,(b,LK.box t al)∈bl->al.length=m:=λb hb=>by
      obtain⟨t,al,hm⟩:=bxN_mem hb;have e1:=zku b0 hm;have l5:b∈gs.map (·.1):=(znx d4).subset (by rw[<- b7];exact yao.2 ⟨_,hm,rfl⟩);obtain⟨p,hp,rfl⟩:=yao.1 l5;refine⟨t,al.length,?_,?_,λl8 k8=>?_⟩
      ·rw[(a9.mem (yai _ hp)).2.1,e1]
      ·rw[<- hσ1];exact bxWr_kd i6 hm
      ·have:=zku b0 k8;rw[e1]at this;injection this with _ this
       exact this.symm
     rw[hσ1]at g1 g2 g3;have b6:=keepW_at (bxN bl) hl;have j7:∀t,(app σ' (keepW (bxN bl) hl wr)).av t=(app σ' wr).av t:=λt=>by unfold St.av;rw[b6,if_pos (show keepL (bxN bl) hl (.tmp t)=true from rfl)]
     have h7:(app σ' (keepW (bxN bl) hl wr)).gn=(app σ' wr).gn:=funext λt=>by unfold St.gn;rw[b6,if_pos (show keepL (bxN bl) hl (.gen t)=true from rfl)]
     have j5:∀t,(app σ' (keepW (bxN bl) hl wr)).ig t=(app σ' wr).ig t:=λt=>by unfold St.ig;rw[b6,if_pos (show keepL (bxN bl) hl (.ign t)=true from rfl)]
     have f8:(app σ' (keepW (bxN bl) hl wr)).kd=(app σ' wr).kd:=funext λt=>by
      by_cases ht:t∈bxN bl
      ·obtain⟨t1,m,e1,e2,_⟩:=d8 t ht;rw[e2,<- e1];unfold St.kd;rw[b6,if_neg (by show ¬(!memB t (bxN bl))=true;rw[memB_iff.2 ht];simp)]
      ·unfold St.kd
       rw[b6,if_pos (by
        show(!memB t (bxN bl))=true
        cases hb:memB t (bxN bl) with
        |false=>rfl
        |true=>exact absurd (memB_iff.1 hb) ht)]
     have i4:∀b j,(b,j)∉hl->(app σ' (keepW (bxN bl) hl wr)).ce b j=(app σ' wr).ce b j:=λb j hn=>by
      unfold St.ce
      rw[b6,if_pos (by
       show(!memC b j hl)=true
       cases hb:memC b j hl with
       |false=>rfl
       |true=>exact absurd (memC_iff.1 hb) hn)]
     have i5:∀b j,(b,j)∈hl->(app σ' (keepW (bxN bl) hl wr)).ce b j=σ'.ce b j:=λb j hm=>by
      unfold St.ce;rw[b6,if_neg (by show ¬(!memC b j hl)=true;rw[memC_iff.2 hm];simp)]
     have b8:∀o b,Owns (app σ' (keepW (bxN bl) hl wr)) ρ' o b↔Owns (app σ' wr) ρ' o b:=λo b=>by unfold Owns;rw[f8]
     have j3:∀p∈hl,p.1∈bxN bl:=λp hp=>by
      obtain⟨k,i,t,cs,q,c7,a1,a2,_⟩:=r6 p hp;obtain⟨al,a3,_⟩:=zp4 c8 a1 a2;exact bxN_of (zkH a3)
     obtain⟨s1,s2,s3,_⟩:=g1.stepZ (σ':=app σ' (keepW (bxN bl) hl wr)) (ρ':=ρ') (w':=w') (λo=>o∈bxN bl) B.Z j7
      (λo hd=>⟨by rw[f8],by rw[h7],λi=>i4 o i λhm=>hd (j3 _ hm),rfl,rfl,rfl⟩) (λo _=>⟨⟨by rw[h7];exact yaq _,λ_=>rfl⟩,yaq _,λ_=>rfl⟩)
      (λo=>by rw[j5];exact g1.igs o) (Belo.refl _ _ _) (λo b hd ho=>.inr (.inr ⟨o,hd,(b8 o b).1 ho⟩)) (λo p b _ _ h1 h2=>g1.dis o p b ((b8 o b).1 h1) ((b8 p b).1 h2))
      (λb hb=>⟨(g1.res b hb).1.2,.inr (.inl hb),λo _ ho=>(g1.res b hb).2 o ((b8 o b).1 ho)⟩) λhI hA o hd=>by
       obtain⟨t,m,k1,k2,k3⟩:=d8 o hd;rw[f8,k2];have ho:=g1.obs o;rw[k2]at ho;obtain⟨q,c7,b1,b2,b3,b4,b5⟩:=ho;refine⟨q,c7,b1,b2,b3,b4,λj u hu=>?_⟩;by_cases hm:(o,j)∈hl
       ·rw[i5 o j hm];obtain⟨k,i,t',cs,q',us'',a1,a2,a3,a4,a5,a6⟩:=r6 (o,j) hm;obtain⟨al,c1,c2⟩:=zp4 c8 a1 a2
        -- the box's place
        have e1:=g4 k o _ (by rw[yae,c1];rfl) a4;rw[b1]at e1;injection e1 with e1
        injection e1 with e1
        injection e1 with e1
        subst e1;rw[b2]at a5;injection a5 with a5
        injection a5 with a5 a7 a8
        have:c7=us'':=by simpa using a5
        subst this;have a6:c7[j]?=some (V i j):=a6;rw[hu]at a6;injection a6 with a6
        -- what it held before
        have k4:(o,i)∈bxG own d 0 (c.args.toList.map (evA σ)++caps):=zkH a1;have l0:objG σ' o=none:=by unfold objG;rw[k1]
        obtain⟨k',g',d1,d2,d3⟩:=argsG_box g5 k4 l0;rw[yal]at d1;subst d1
        obtain⟨v0,g8⟩:∃v0,vs[i]?=some v0:=by
         have l9:=(zkI.1 d2).1;have:=a0.1;exact⟨_,zkM (by omega)⟩
        have hg':=d5 (o,g') (yai _ d3);obtain⟨q0,f9,e1,e2,e3,e4,e5,e6,e7⟩:=zho hs (a0.2 i v0 _ g8 d2) hg' k1
        have hj:j<m:=by
         have h1:=k3 al (by
          have:=zkH c1
          have h2:=zku b0 this
          have h3:=(a9.mem (p:=(o,g')) (yai _ d3)).2.1
          rw[k1]at h3
          rw[h2]at h3
          injection h3 with h3 _
          subst h3
          exact this)
         have a3:j<cs.length:=a3;omega
        have hV:f9[j]?=some (V i j):=by
         show _=some (cellV w (vs.getD i undef) j);rw[ybj,g8];show _=some (cellV w v0 j);rw[e1];unfold cellV;simp only[e3];rw[ybj];have:j<f9.length:=by omega
         rw[zkM this];rfl
        have hk:=(hs.kills bs).1.obs o;rw[zjk,if_neg (b9 o (yao.2 ⟨_,d3,rfl⟩)),k1]at hk;obtain⟨q1,us1,f1,f2,f3,f4,f5⟩:=hk;rw[e2]at f1;injection f1 with f1
        injection f1 with f1
        injection f1 with f1
        subst f1;rw[e3]at f2;injection f2 with f2
        injection f2 with f2 _ _
        have:f9=us1:=by simpa using f2
        subst this;have g6:=f5 j _ hV;rw[fwr_ce]at g6;rw[a6];exact hA _ _ (g3 _ _ g6)
       ·rw[i4 o j hm];exact hA _ _ (b5 j u hu)
     refine hK _ _ ⟨ρ',?_⟩;show SatR B (app σ' (keepW (bxN bl) (hlY own d (bxG own d 0 (c.args.toList.map (evA σ)++caps)) ys) (fwr bs++(fwr gs++(zc7 σ ((zcc σ (zd4 tp d) 0 l).2++ss')++bxWr bl)))++[(.tmp d,.av va)])) _ _ _;rw[i0,k5,zaz];exact s1.put (d:=some d) j8 (s3 _ _ g2)
    ·exact h.elim
   ·exact h.elim
  ·exact h.elim
 ·exact h.elim
end
end
section
open Go.RowKit Go.ChangeMaps
def ba_eq{a b:ByteArray}(h:(a==b)=true):a=b:=by
 have h:ByteArray.beq a b=true:=h;unfold ByteArray.beq at h;cases a;cases b;simp at h;rw[h]
def ba_rfl(a:ByteArray):(a==a)=true:=by
 show ByteArray.beq a a=true;unfold ByteArray.beq;simp
section
variable {P:Program}{B:Base}{o:Oper}{σ:St}{K:Fx->Prop}
def aNilCheck_ok{x:Operand}(hop:o.op=.nilCheck x)(hd:zct B.n o=true)(h:zqe o σ K x):∃fx,K fx/\Eff P B o fx.rd σ fx.wr:=by
 unfold zqe at h;split at h
 ·rename_i b g i hx;obtain⟨hg,h⟩:=h.out;refine⟨_,h,Eff.pure hd λσ' hag a w ρ hs=>?_⟩;have h1:=za4 hs x;rw[zal (zaw hag),hx]at h1;have hg':=(zdj (za7 hag (.gen b) (by simp))).trans hg;generalize hv:a.eval x=v at h1;have h2:=h1;cases h1 with
  |own _ _ _ _ a2 hgg hh =>
   obtain⟨q,e1,e2⟩:=hh hg';refine⟨v,?_,h2⟩;subst e2;simp[execOp,hop,hv]
 ·rename_i cs hx;refine⟨_,h,Eff.pure hd λσ' hag a w ρ hs=>?_⟩;have h1:=za4 hs x;rw[zal hag,hx]at h1;have h2:=h1;have h1:=h1.im_inv;generalize hv:a.eval x=v at h1 h2;refine⟨v,?_,h2⟩;cases h1 with
  |ref b q us _ _ _ _ _ _=>simp[execOp,hop,hv]
 ·rename_i f cs hx;refine⟨_,h,Eff.pure hd λσ' hag a w ρ hs=>?_⟩;have h1:=za4 hs x;rw[zal hag,hx]at h1;have h2:=h1;have h1:=h1.im_inv;generalize hv:a.eval x=v at h1 h2;refine⟨v,?_,h2⟩;cases h1 with
  |fn _ us _ _ _=>simp[execOp,hop,hv]
 ·rename_i f cs hx;refine⟨_,h,Eff.pure hd λσ' hag a w ρ hs=>?_⟩;have h1:=za4 hs x;rw[zal hag,hx]at h1;have h2:=h1;generalize hv:a.eval x=v at h1 h2;refine⟨v,?_,h2⟩;cases h1 with
  |fn _ us _ _ _=>simp[execOp,hop,hv]
 ·exact h.elim
def zfb{α:Type}(z:List α):∀(l j:Nat),(List.replicate l z).flatten[j]?=if j<l*z.length then z[j%z.length]? else none
 |0,j=>by simp
 |l+1,j=>by
  rw[List.replicate_succ,ybu,ya1,zfb z l];by_cases h:j<z.length
  ·rw[if_pos h,if_pos (by rw[Nat.add_mul];omega),Nat.mod_eq_of_lt h]
  ·have e:j%z.length=(j-z.length)%z.length:=Nat.mod_eq_sub_mod (by omega);rw[if_neg h,e];by_cases h2:j-z.length<l*z.length
   ·rw[if_pos h2,if_pos (by rw[Nat.add_mul];omega)]
   ·rw[if_neg h2,if_neg (by rw[Nat.add_mul];omega)]
def made_take(z:Array Value)(l c:Nat)(h:l<=c)(hz:0<z.size):(madeCells z (c*z.size)).toList.take (l*z.size)=(List.replicate l z.toList).flatten:=by
 apply yca;intro j;rw[zfb,ybk];have hm:l*z.size<=c*z.size:=ybs _ h;simp only[yez];by_cases hj:j<l*z.size
 ·rw[if_pos hj,if_pos hj];have a0:j%z.size<z.size:=yef _ hz;unfold madeCells;rw[ycl,yae,Array.toList_range,yba (by omega)];simp only[yap];rw[getElem!_pos z (j%z.size) a0,ya6,yc5 a0]
 ·rw[if_neg hj,if_neg hj]
def cap_bytes{c by_:Nat}(h:za5 c by_):(by_:Int)*(c:Int)<=281474976710656:=by
 have h1:=h.1;have:((by_*c:Nat):Int)<=281474976710656:=by rw[yeb];omega
 rwa [Int.natCast_mul]at this
def mkZ_rep{w:World}{S:Nat->Prop}(own:List Nat)(d:Nat)(v:Value):RepI w S v (mkZ own d v):=by
 unfold mkZ;split
 ·exact .val v
 ·exact zj1 (.val v)
def aMakeSlice_ok{own:List Nat}{t:TypeId}{len cap:Operand}(hop:o.op=.makeSlice t len cap)(hd:zct B.n o=true)(h:zod P own o σ K t len cap):∃fx,K fx/\Eff P B o fx.rd σ fx.wr:=by
 unfold zod at h;split at h
 ·rename_i d et a2 d8;have d2:=zdr d8;split at h
  ·rename_i l c k z by_ hl hc hk hz d7;obtain⟨a4,h⟩:=h.ok;simp only[yax]at a4;have e6:=zd5 a4.1.1;obtain⟨i,zv,hi,b9,b2,a8,d1⟩:=zhh a4.1.2 hk d7
   have b8:zv.cells.toList=z:=by
    unfold zeroOf at hz;simp only[hi,b9,yap,zkF]at hz;exact hz
   have d6:∀u∈z,u.oneCell'=true:=λu hu=>ybf.1 a4.2 u hu;have a0:z.length=k:=by rw[<- b8];simpa using d1
   obtain⟨⟨h0,d4,a9⟩,h⟩:=h.out;have d9:(c.toNat:Int)=c:=ydu (by omega);have b5:l.toNat<=c.toNat:=by omega
   have e0:c.toNat<=17592186044416:=a9.2
   have zbg:∀σ' a w ρ,SatR B σ' a w ρ->(∀y∈opd len++opd cap,σ' y=σ y)->(execOp a.eval o).run P w=.ok (.value (.slice (some ⟨w.heap.size,0,none⟩) l.toNat c.toNat)) (w.alloc (.cells (madeCells zv.cells (c.toNat*k)) et)):=λσ' a w ρ hs hag=>by
    have h1:=za4 hs len;rw[zal (zaw hag)]at h1;have h2:=za4 hs cap;rw[zal (za7 hag)]at h2;have hb:=cap_bytes a9;rw[<- a8,d9]at hb;have hr:=run_make (P:=P) w t et i zv d2 hi b9 .i64 .i64 l c h0 d4 hb (by omega);rw[b2]at hr;simp[execOp,hop,zci hl h1,zci hc h2,hr]
   have a5:∀w:World,(w.alloc (.cells (madeCells zv.cells (c.toNat*k)) et)).ownsRow 0 et k (.slice (some ⟨w.heap.size,0,none⟩) l.toNat c.toNat) l.toNat (List.replicate l.toNat z).flatten:=λw=>by
    refine⟨?_,.inr ⟨w.heap.size,c.toNat,_,rfl,yaf _,heap_alloc_new w _,b5,by unfold maxLen;omega,size_madeCells _ _,?_⟩⟩
    ·rw[zbx (k:=k) (λx hx=>by rw[ybv hx];exact a0),yak]
    ·rw[<- b8,<- d1];exact made_take zv.cells _ _ b5 (by omega)
   have a6:∀u∈(List.replicate l.toNat z).flatten,u.oneCell'=true:=λu hu=>by
    obtain⟨x,hx,c8⟩:=yd3.1 hu;rw[ybv hx]at c8;exact d6 u c8
   have m:∀(σ':St) (w:World) (ρ:Ly),zo7 σ' w (w.alloc (.cells (madeCells zv.cells (c.toNat*k)) et)) ρ none (.slice (some ⟨w.heap.size,0,none⟩) l.toNat c.toNat) none:=λσ' w ρ =>
    ⟨World.grownBy_alloc w _ none,(λb e=>by cases e),λb e=>.inr (by simp only[zb3,zkF]at e;omega)⟩
   split at h
   ·split at h
    ·rename_i e' e7;split at h
     ·rename_i k' e8;obtain⟨a3,h⟩:=h.ok;simp only[yax]at a3;have c7:k=1:=by simpa using a3.1.1
      have d0:=zd5 a3.2
      have b3:z=[.slice none 0 0]:=by
       have:=a3.1.2;split at this
       ·rfl
       ·cases this
      have h:=h.out;refine⟨_,h,λσ' hag a w ⟨ρ,hs⟩ K' Q hK=>?_⟩;unfold Oper.wp;rw[zbg σ' a w ρ hs (zaw hag),Oper.upon_value,a2];have hg:σ'.gn d=σ.gn d:=zdj (za7 hag (.gen d) (by simp));have c9:σ'.ig d=σ.ig d:=zhc (za7 hag (.ign d) (by simp));obtain⟨e1,e2,e3,e4,e5⟩:=mkK_eqs σ' σ d (.grid et e' k' (List.replicate l.toNat [IV.sl []]) none)
      let v:Value:=.slice (some ⟨w.heap.size,0,none⟩) l.toNat c.toNat
      let σ2:=app σ' (zfq σ d (.grid et e' k' (List.replicate l.toNat [IV.sl []]) none))
      let ρ2:Ly:=setK ρ σ2 d v (List.replicate l.toNat (.slice none 0 0)) (.grid et e' k' (List.replicate l.toNat [IV.sl []]) none)
      have c0:fpv v (List.replicate l.toNat (.slice none 0 0))=[w.heap.size]:=by
       unfold fpv;simp only[yce,v,zb3];congr 1;exact List.filterMap_eq_nil_iff.2 λx hx=>by rw[ybv hx];rfl
      have b7:∀b,Owns σ2 ρ2 d b->b=w.heap.size:=λb hb=>by
       unfold Owns at hb;rw[e1,if_pos rfl]at hb;simp only[ρ2,setK,if_pos]at hb;have hb:b∈fpv v (List.replicate l.toNat (.slice none 0 0)):=hb;rw[c0]at hb;simpa using hb
      have a7:=World.grownBy_alloc w (.cells (madeCells zv.cells (c.toNat*k)) et) none
      obtain⟨b0,_,_⟩:=hs.step (σ':=σ2) (ρ':=ρ2) (w':=w.alloc (.cells (madeCells zv.cells (c.toNat*k)) et)) (λo=>o=d) e4
       (λo hd=>⟨by show σ2.kd o=_;rw[e1,if_neg hd],by show σ2.gn o=_;rw[e2,if_neg hd],λi=>e5 o i,by simp[ρ2,setK,hd],by simp[ρ2,setK,hd],by show σ2.ig o=_;rw[e3,if_neg (λe=>hd e.1)];exact(hs.igs o).symm⟩)
       (λo hd=>by
        subst hd
        refine⟨⟨by rw[e2,if_pos rfl,hg];omega,λe=>by rw[e2,if_pos rfl,hg]at e;omega⟩,?_,λe=>?_⟩
        ·show _<=σ2.ig o
         rw[e3,hs.igs,c9,if_pos ⟨rfl,rfl⟩];omega
        ·have e:σ2.ig o=ρ.ig o:=e
         rw[e3,hs.igs,c9,if_pos ⟨rfl,rfl⟩]at e;omega)
       (λo=>rfl) ⟨a7.os,a7.tape,a7.output,a7.size,λb hb _=>a7.block b hb (by simp)⟩ (λo b hd ho=>by subst hd;rw[b7 b ho];exact .inl (yaq _)) (λo p b hd hp _ _=>hd.trans hp.symm) λhI hA o hd=>by
        subst hd;rw[e1,if_pos rfl];show zig _ _ (ρ2 o) (ρ2.inn o) _ _ _ _ _;simp only[ρ2,setK,if_pos];refine⟨by show(fpv v (List.replicate l.toNat (.slice none 0 0))).Nodup;rw[c0];simp,by simp[innK],(List.replicate l.toNat z).flatten,by simp;omega,?_,a6,λi u hu=>.inr ⟨?_,[],?_,?_⟩⟩
        ·have:=a5 w;rw[c7]at this;rw[yak];rw[c7];exact this
        ·have hu:(List.replicate l.toNat (.slice none 0 0))[i]?=some u:=hu;rw[zfb,b3];rw[ybi]at hu;split at hu
         ·rename_i b4;injection hu with hu
          subst hu;simp[b4,Nat.mod_one]
         ·cases hu
        ·have hu:(List.replicate l.toNat (Value.slice none 0 0))[i]?=some u:=hu;rw[ybi]at hu ⊢;split at hu
         ·rename_i b4;rw[if_pos b4]
         ·cases hu
        ·have hu:(List.replicate l.toNat (Value.slice none 0 0))[i]?=some u:=hu;rw[ybi]at hu;split at hu
         ·injection hu with hu
          subst hu;exact⟨[],d0,by simp,by simp,World.ownsRow_nil _ _ _ _,rfl,by simp,by simp⟩
         ·cases hu
      refine hK _ _ ⟨ρ2,?_⟩;rw[zaz];refine b0.put (d:=some d) (λt e=>by injection e with e;subst e;exact zc0 hd a2) (.osl _ _ _ rfl ?_ λ_=>?_)
      ·show _<=σ2.gn d;rw[e2,if_pos rfl];exact yaq _
      ·simp[ρ2,setK,v]
     ·exact h.elim
    ·exact h.elim
   ·split at h
    ·have h:=h.out;refine⟨_,h,λσ' hag a w ⟨ρ,hs⟩ K' Q hK=>?_⟩;unfold Oper.wp;rw[zbg σ' a w ρ hs hag,Oper.upon_value,a2];have c6:Below w.heap.size w (w.alloc (.cells (madeCells zv.cells (c.toNat*k)) et)):=(Below.refl _ _).alloc (yaq _) _;obtain⟨d3,hI⟩:=hs.world c6;refine hK _ _ ⟨ρ,?_⟩;show SatR B (app σ' [(.tmp d,.av (.im (.sl (List.replicate l.toNat (z.map λv=>nz1 (.val v))))))]) _ _ _;refine d3.put (d:=some d) (λt e=>by injection e with e;subst e;exact zc0 hd a2) (.im _ _ ?_);refine .sl w.heap.size 0 c.toNat k l.toNat _ (List.replicate l.toNat z).flatten (by rw[yak]) (λx hx=>by rw[ybv hx,zkK,a0]) b5 (by omega) ⟨.inr (.inl hs.bel.size),by simp,λp d5=>?_,λhz=>?_⟩ ?_ a6 (λi u hu=>?_) λi u x hu hx=>?_
     ·have:=(hs.own p _ d5).2;omega
     ·have:=(hs.res _ hz).1.2;omega
     ·rw[zbx (k:=k) (λx hx=>by rw[ybv hx];exact a0),zbx (k:=k) (λx hx=>by rw[ybv hx,zkK,a0])];simp
     ·have:=(a5 w).cells (g:=w.heap.size) rfl i u hu;rw[addr_add,yal]at this;rw[yal];exact this
     ·rw[zfb]at hu hx;rw[zkK]at hx;split at hu
      ·rename_i b6;rw[if_pos b6,yae,hu]at hx;injection hx with hx
       subst hx;exact zj1 (.val u)
      ·cases hu
    ·have h:=h.out;refine⟨_,h,λσ' hag a w ⟨ρ,hs⟩ K' Q hK=>?_⟩;unfold Oper.wp;rw[zbg σ' a w ρ hs (zaw hag),Oper.upon_value,a2];refine hK _ _ ⟨setρ ρ d (.slice (some ⟨w.heap.size,0,none⟩) l.toNat c.toNat),?_⟩;have hg:σ'.gn d=σ.gn d:=zdj (za7 hag (.gen d) (by simp))
     have b0:=hs.new (d:=d) (k:=.row et k (List.replicate l.toNat (z.map λv=>mkZ own d v))) (cs:=[]) (m σ' w ρ) rfl λhI _=>by
      refine⟨(List.replicate l.toNat z).flatten,e6,λx hx=>by rw[ybv hx,zkK,a0],by rw[yak];omega,?_,?_,a6,λi u x hu hx=>?_⟩
      ·simp only[setρ,if_pos,yak];exact a5 w
      ·rw[zbx (k:=k) (λx hx=>by rw[ybv hx];exact a0),zbx (k:=k) (λx hx=>by rw[ybv hx,zkK,a0])];simp
      ·rw[zfb]at hu hx;rw[zkK]at hx;split at hu
       ·rename_i b6;rw[if_pos b6,yae,hu]at hx;injection hx with hx
        subst hx;exact mkZ_rep own d u
       ·cases hu
     have:=zkr (σ:=σ) (σ':=σ') (k:=.row et k (List.replicate l.toNat (z.map λv=>mkZ own d v))) (cs:=[]) (v:=.osl d (σ.gn d+1)) hg;simp only[zfg,yb4]at this;show SatR B (app σ' (zd2 σ d (.row et k (List.replicate l.toNat (z.map λv=>mkZ own d v)))++[(.tmp d,.av (.osl d (σ.gn d+1)))])) _ _ _;rw[this,<- hg];exact zjs b0 rfl (zc0 hd a2)
  ·exact h.elim
 ·exact h.elim
def aMakeMap_ok{t:TypeId}{r:Option Operand}(hop:o.op=.makeMap t r)(hd:zct B.n o=true)(h:aMakeMap o σ K t r):∃fx,K fx/\Eff P B o fx.rd σ fx.wr:=by
 unfold aMakeMap at h;split at h
 ·rename_i d a0;refine⟨_,h,λσ' hag a w ⟨ρ,hs⟩ K' Q hK=>?_⟩;have hg:σ'.gn d=σ.gn d:=zdj (hag (.gen d) (by simp))
  have run:(execOp a.eval o).run P w=.ok (.value (.map (some w.heap.size))) (w.alloc (.map #[] 0)):=by
   simp[execOp,hop,Instr.makeMap]
  unfold Oper.wp;rw[run,Oper.upon_value,a0]
  have m:zo7 σ' w (w.alloc (.map #[] 0)) ρ none (.map (some w.heap.size)) none :=
   ⟨World.grownBy_alloc w _ none,(λb e=>by cases e),λb e=>.inr (by simp only[zb3,zkF]at e;omega)⟩
  refine hK _ _ ⟨setρ ρ d (.map (some w.heap.size)),?_⟩;have a2:=hs.new (d:=d) (k:=.map []) (cs:=[]) m rfl λhI _=>⟨w.heap.size,0,#[],by simp[setρ],heap_alloc_new w _,rfl,zoo.nil 0⟩;have:=zkr (σ:=σ) (σ':=σ') (k:=.map []) (cs:=[]) (v:=.osl d (σ.gn d+1)) hg;simp only[zfg,yb4]at this;rw[this,<- hg];exact zjs a2 rfl (zc0 hd a0)
 ·exact h.elim
def zkx{w:World}{S:Nat->Prop}{ρ:Ly}{γ:Nat->Nat}{v:Value}{x:AV}{u:Value}(e:asVal x=some u)(h:RepA w S ρ γ v x):v=u:=by
 unfold asVal at e;split at e
 ·injection e with e
  subst e;have h:=h.im_inv;cases h;rfl
 ·cases e
def zi9{t k e:TypeId}(h:zsc P t=some (k,e)):P.underlying t=some (.map k e):=by
 unfold zsc at h;split at h
 ·rename_i k' e' hu;simp only[zkF,zkG]at h;rw[hu,h.1,h.2]
 ·cases h
def zqi{kt:TypeId}{D:TypeDesc}(h:keyD P kt=some D):P.underlying kt=some D/\((∃k,D=.int k)\/D=.string\/D=.bool):=by
 unfold keyD at h;split at h
 ·rename_i k hu;injection h with h;subst h;exact⟨hu,.inl ⟨k,rfl⟩⟩
 ·rename_i hu;injection h with h;subst h;exact⟨hu,.inr (.inl rfl)⟩
 ·rename_i hu;injection h with h;subst h;exact⟨hu,.inr (.inr rfl)⟩
 ·cases h
def zld{kt:TypeId}{D:TypeDesc}(h:keyD P kt=some D)(em:Bool)(v:Value)(w:World):(Instr.checkKey em 10000 kt v).run P w=.ok () w:=by
 obtain⟨hu,hD⟩:=zqi h;unfold Instr.checkKey;rw[Sem.run_bind,run_underlying hu];simp only[Result.andThen_ok];rcases hD with⟨k,rfl⟩|rfl|rfl<;>rfl
def ztm(D:TypeDesc)(k:Value):∀(es:List MapEntry) (i:Nat),(Instr.findNow D k es i).map (·.map (·.2))=findV D k (es.map λe=>(e.key,e.val))
 |[],i=>rfl
 |e::es,i=>by
  unfold Instr.findNow;rw[yav];unfold findV;simp only;cases Instr.sameNow D k e.key with
  |none=>rfl
  |some b=>cases b with
   |true=>rfl
   |false=>exact ztm D k es (i+1)
def zms{kt:TypeId}{D:TypeDesc}(h:keyD P kt=some D){k:Value}{es:List MapEntry}{r:Option (Nat×Value)}(hf:Instr.findNow D k es 0=some r)(w:World):(Instr.findKey kt k es).run P w=.ok r w:=by
 unfold Instr.findKey;rw[Sem.run_bind,run_underlying (zqi h).1];simp only[Result.andThen_ok,hf,Sem.run_pure]
def aLookup_ok{t:TypeId}{x i:Operand}{ok:Bool}(hop:o.op=.lookup t x i ok)(hd:zct B.n o=true)(h:aLookup P o σ K t x i ok):∃fx,K fx/\Eff P B o fx.rd σ fx.wr:=by
 unfold aLookup at h;split at h
 ·rename_i kt et b g kv a9 hx hi;have a5:=zi9 a9;split at h
  ·rename_i l D z a7 a4 hz;obtain⟨hg,r,hr,h⟩:=h.out;have h:=h.out
   have a3:∀σ',(∀y∈opd x++opd i++[.gen b,.knd b],σ' y=σ y)->∀a w,Sat B σ' a w->(execOp a.eval o).run P w=.ok (.value (if ok=true then .tuple #[r.getD z,.bool r.isSome] else r.getD z)) w:=λσ' hag a w ⟨ρ,hs⟩=>by
    obtain⟨ha,hg',b6,_⟩:=zcy hag;have h1:=za4 hs x;have h2:=za4 hs i;rw[zal (zaw ha),hx]at h1;rw[zal (za7 ha)]at h2;have a6:=zkx hi h2;have ho:=hs.obs b;rw[b6.trans a7]at ho;obtain⟨q,b0,es,e1,e2,e3,b7⟩:=ho
    have b5:a.eval x=.map (some q):=by
     generalize a.eval x=v at h1;cases h1 with
     |osl _ _ _ _ _ hh=>rw[hh (hg'.trans hg),e1]
    have a0:=ztm D kv es.toList 0;rw[e3,hr]at a0
    obtain⟨r0,b4,a2⟩:∃r0,Instr.findNow D kv es.toList 0=some r0/\r0.map (·.2)=r:=by
     cases hc:Instr.findNow D kv es.toList 0 with
     |none=>rw[hc]at a0;cases a0
     |some r0=>rw[hc]at a0;simp only[yap,zkF]at a0;exact⟨r0,rfl,a0⟩
    have b2:∀w,(zeroValue et).run P w=.ok z w:=λw=>by
     unfold zeroV at hz;split at hz
     ·rename_i it b3;simp[zeroValue,typeInfo,b3,hz]
     ·cases hz
    have a8:=MapKept.run_getObj_map (P:=P) e2;simp only[execOp,hop,b5,a6,Instr.lookup,Sem.run_bind,run_underlying a5,Result.andThen_ok,a8,Sem.run_pure,zld a4,zms a4 b4];cases r0 with
    |none =>
     simp only[ydi]at a2;subst a2;cases ok<;>simp[b2]
    |some p =>
     simp only[yap]at a2;subst a2;cases ok<;>simp
   split at h
   ·have h:=h.out;refine⟨_,h,Eff.pure hd λσ' hag a w ρ hs=>⟨_,a3 σ' hag a w ⟨ρ,hs⟩,?_⟩⟩;simp only[if_true]
    exact .tup [r.getD z,.bool r.isSome] _ rfl λj u y hu hy=>by
     match j with
     |0=>simp at hu hy;rw[<- hu,<- hy];exact zc1 _
     |1=>simp at hu hy;rw[<- hu,<- hy];exact vB_rep _
     |j+2=>simp at hu
   ·refine⟨_,h,Eff.pure hd λσ' hag a w ρ hs=>⟨_,a3 σ' hag a w ⟨ρ,hs⟩,?_⟩⟩;simp only[yec,if_false];exact zc1 _
  ·exact h.elim
 ·exact h.elim
def setV_eq(D:TypeDesc)(hD:(∃k,D=.int k)\/D=.string\/D=.bool)(k v:Value):∀(es:List MapEntry) (i:Nat) (l:List (Value×Value)),setV D k v (es.map λe=>(e.key,e.val))=some l ->
  (Instr.findNow D k es i=some none/\l=(es.map λe=>(e.key,e.val))++[(k,v)])\/∃j e,Instr.findNow D k es i=some (some (i+j,e.val))/\es[j]?=some e/\Instr.sameBits 10000 e.key k=true/\l=(es.set j { e with key:=k,val:=v }).map λe=>(e.key,e.val)
 |[],i,l,h=>by
  simp only[ydd,setV,zkF]at h;exact .inl ⟨rfl,by rw[<- h];rfl⟩
 |e::es,i,l,h=>by
  rw[yav]at h;unfold setV at h;unfold Instr.findNow;simp only at h;cases hs:Instr.sameNow D k e.key with
  |none=>rw[hs]at h;cases h
  |some b =>
   rw[hs]at h;cases b with
   |true =>
    simp only[zkF]at h;refine .inr ⟨0,e,rfl,rfl,?_,by rw[<- h];rfl⟩;unfold Instr.sameNow at hs;split at hs
    ·rename_i k1 a k2 b hk;split at hs
     ·rename_i he;simp only[zkF]at hs;rw[hk];have hab:a=b:=by simpa using hs
      subst he hab;simp[Instr.sameBits]
     ·cases hs
    ·rename_i a b hk;simp only[zkF]at hs;rw[hk,ba_eq hs];exact ba_rfl _
    ·rename_i a b hk;simp only[zkF]at hs;have hab:a=b:=by simpa using hs
     rw[hk,hab];simp[Instr.sameBits]
    ·cases hs
   |false =>
    cases hr:setV D k v (es.map λe=>(e.key,e.val)) with
    |none=>simp only[hr]at h;cases h
    |some l' =>
     simp only[hr,yap,zkF]at h;rcases setV_eq D hD k v es (i+1) l' hr with⟨h1,h2⟩|⟨j,e',h1,h2,h3,h4⟩
     ·exact .inl ⟨h1,by rw[<- h,h2];rfl⟩
     ·exact .inr ⟨j+1,e',by rw[h1,ybt,ycm 1 j],by simpa using h2,h3,by rw[<- h,h4];rfl⟩
def aMapUpdate_ok{t:TypeId}{x i y:Operand}(hop:o.op=.mapUpdate t x i y)(hd:zct B.n o=true)(h:zor P o σ K t x i y):∃fx,K fx/\Eff P B o fx.rd σ fx.wr:=by
 unfold zor at h;split at h
 ·rename_i kt et b g kv v c6 hx hi hy;have a5:=zi9 c6;split at h
  ·rename_i l D a6 a4;obtain⟨hg,l',b2,h⟩:=h.out;refine⟨_,h,λσ' hag a w ⟨ρ,hs⟩ K' Q hK=>?_⟩;obtain⟨ha,hg',a8,_⟩:=zcy hag;have h1:=za4 hs x;have h2:=za4 hs i;have h3:=za4 hs y;rw[zal (zaw (zaw ha)),hx]at h1;rw[zal (za7 (zaw ha))]at h2;rw[zal (za7 ha)]at h3;have b0:=zkx hi h2;have hv:=zkx hy h3;have ho:=hs.obs b;rw[a8.trans a6]at ho;obtain⟨q,a2,es,e1,e2,e3,b6⟩:=ho
   have b8:a.eval x=.map (some q):=by
    generalize a.eval x=u at h1;cases h1 with
    |osl _ _ _ _ _ hh=>rw[hh (hg'.trans hg),e1]
   rw[<- e3]at b2;have b4:=MapKept.run_getObj_map (P:=P) e2;have a7:live σ' b:=by unfold live;rw[a8.trans a6];exact λz=>by cases z
   have c7:zb3 (ρ b)=some q:=by rw[e1];rfl
   have a9:∀(a3:Array MapEntry) (a0:Nat),(a3.toList.map λe=>(e.key,e.val))=l'->zoo a3 a0->(execOp a.eval o).run P w=.ok .skip (setBlock w q (.map a3 a0))->o.wp P a w K' Q:=λa3 a0 b9 b3 b5=>by
    unfold Oper.wp;rw[b5,Oper.upon_skip];refine hK _ _ ⟨ρ,?_⟩
    have c0:=hs.turn (b:=b) (q:=q) (w':=setBlock w q (.map a3 a0)) (k':=.map l') a7 c7 ⟨rfl,rfl,rfl,by simp[setBlock],λi _ hi=>heap_setBlock_other e2 _ (λe=>hi (by rw[e]))⟩ (λc hc=>by unfold Owns;rw[a8.trans a6];exact hc) λhI =>
     ⟨q,a0,a3,e1,heap_setBlock_same e2 _,b9,b3⟩
    rw[zb6];exact c0.put (zio hd) (zc1 _)
   rcases setV_eq D (zqi a4).2 kv v es.toList 0 l' b2 with⟨f1,f2⟩|⟨j,e,f1,f2,f3,f4⟩
   ·refine a9 (es.push { key:=kv,val:=v,born:=a2 }) (a2+1) (by rw[f2];simp) (b6.push _ _) ?_;simp only[execOp,hop,b8,b0,hv,Instr.mapUpdate,Sem.run_bind,run_underlying a5,Result.andThen_ok,b4,Sem.run_pure,zld a4,zms a4 f1,MapKept.run_setObj_map _ e2];rfl
   ·have hj:es[j]?=some e:=by rw[<- ya6];exact f2
    have b7:j<es.size:=(yb2.1 hj).1;refine a9 (es.modify j λe=>{ e with key:=kv,val:=v }) a2 ?_ (b6.modify _ _ λ_=>rfl) ?_
    ·rw[f4];congr 1;apply yca;intro n;rw[ya6,ydh,ydk];by_cases hn:j=n
     ·subst hn;rw[if_pos rfl,if_pos rfl,if_pos (by simpa using b7),hj];rfl
     ·rw[if_neg hn,if_neg hn,ya6]
    ·rw[yal]at f1;simp only[execOp,hop,b8,b0,hv,Instr.mapUpdate,Sem.run_bind,run_underlying a5,Result.andThen_ok,b4,Sem.run_pure,zld a4,zms a4 f1,MapKept.run_setObj_map _ e2,hj,Instr.keyThatStays,yap,yaj,f3,if_true];rfl
  ·exact h.elim
 ·exact h.elim
def delV_eq(D:TypeDesc)(k:Value):∀(es:List MapEntry) (i:Nat) (l:List (Value×Value)),delV D k (es.map λe=>(e.key,e.val))=some l ->
  (Instr.findNow D k es i=some none/\l=es.map λe=>(e.key,e.val))\/∃j v,Instr.findNow D k es i=some (some (i+j,v))/\j<es.length/\l=(es.eraseIdx j).map λe=>(e.key,e.val)
 |[],i,l,h=>by
  simp only[ydd,delV,zkF]at h;exact .inl ⟨rfl,by rw[<- h];rfl⟩
 |e::es,i,l,h=>by
  rw[yav]at h;unfold delV at h;unfold Instr.findNow;simp only at h;cases hs:Instr.sameNow D k e.key with
  |none=>rw[hs]at h;cases h
  |some b =>
   rw[hs]at h;cases b with
   |true =>
    simp only[zkF]at h;exact .inr ⟨0,_,rfl,by simp,by rw[<- h];rfl⟩
   |false =>
    cases hr:delV D k (es.map λe=>(e.key,e.val)) with
    |none=>simp only[hr]at h;cases h
    |some l' =>
     simp only[hr,yap,zkF]at h;rcases delV_eq D k es (i+1) l' hr with⟨h1,h2⟩|⟨j,v,h1,h2,h3⟩
     ·exact .inl ⟨h1,by rw[<- h,h2];rfl⟩
     ·exact .inr ⟨j+1,v,by rw[h1,ybt,ycm 1 j],by simpa using h2,by rw[<- h,h3];rfl⟩
def aDelete_ok{c:Call}{t t':TypeId}{x i:Operand}(hop:o.op=.call c)(hc:c.callee=.builtin .delete)(ha:c.args.toList=[x,i])(ht:c.argTypes.toList=[t,t'])(hd:zct B.n o=true)(h:aDelete P o σ K t x i):∃fx,K fx/\Eff P B o fx.rd σ fx.wr:=by
 have a3:c.args=#[x,i]:=by rw[<- yb8 (xs:=c.args),ha]
 have b9:c.argTypes=#[t,t']:=by rw[<- yb8 (xs:=c.argTypes),ht]
 unfold aDelete at h;split at h
 ·rename_i kt et b g kv c7 hx hi;have a6:=zi9 c7;split at h
  ·rename_i l D a7 a5;obtain⟨hg,l',b4,h⟩:=h.out;refine⟨_,h,λσ' hag a w ⟨ρ,hs⟩ K' Q hK=>?_⟩;obtain⟨ha,hg',b0,_⟩:=zcy hag;have h1:=za4 hs x;have h2:=za4 hs i;rw[zal (zaw ha),hx]at h1;rw[zal (za7 ha)]at h2;have b3:=zkx hi h2;have ho:=hs.obs b;rw[b0.trans a7]at ho;obtain⟨q,a0,es,e1,e2,e3,a8⟩:=ho
   have b8:a.eval x=.map (some q):=by
    generalize a.eval x=u at h1;cases h1 with
    |osl _ _ _ _ _ hh=>rw[hh (hg'.trans hg),e1]
   rw[<- e3]at b4;have b6:=MapKept.run_getObj_map (P:=P) e2;have a9:live σ' b:=by unfold live;rw[b0.trans a7];exact λz=>by cases z
   have c8:zb3 (ρ b)=some q:=by rw[e1];rfl
   have b2:∀(a2:Array MapEntry),(a2.toList.map λe=>(e.key,e.val))=l'->zoo a2 a0->(execOp a.eval o).run P w=.ok (.value (.tuple #[])) (setBlock w q (.map a2 a0))->o.wp P a w K' Q:=λa2 c0 b5 b7=>by
    unfold Oper.wp;rw[b7,Oper.upon_value];refine hK _ _ ⟨ρ,?_⟩
    have c6:=hs.turn (b:=b) (q:=q) (w':=setBlock w q (.map a2 a0)) (k':=.map l') a9 c8 ⟨rfl,rfl,rfl,by simp[setBlock],λi _ hi=>heap_setBlock_other e2 _ (λe=>hi (by rw[e]))⟩ (λc hc=>by unfold Owns;rw[b0.trans a7];exact hc) λhI =>
     ⟨q,a0,a2,e1,heap_setBlock_same e2 _,c0,b5⟩
    rw[zb6];exact c6.put (zio hd) (.im _ _ (.any _))
   rcases delV_eq D kv es.toList 0 l' b4 with⟨f1,f2⟩|⟨j,v,f1,f2,f3⟩
   ·refine b2 es f2.symm a8 ?_;simp only[execOp,hop,resolve,hc,a3,b9,invoke,builtin,yeo,yav,ydd,Builtin.delete_,b8,b3,Sem.run_bind,Sem.run_pure,run_underlying a6,Result.andThen_ok,b6,zld a5,zms a5 f1,MapKept.run_setObj_map _ e2,yeq,yc8,yei];rfl
   ·have hj:j<es.size:=by simpa using f2
    have a4:(es.eraseIdxIfInBounds j).toList=es.toList.eraseIdx j:=by
     unfold Array.eraseIdxIfInBounds;rw[dif_pos hj];simp
    refine b2 (es.eraseIdxIfInBounds j) (by rw[a4,f3]) ⟨λy hy=>a8.1 y (by rw[a4]at hy;exact(List.eraseIdx_sublist _ _).subset hy),by rw[a4];exact a8.2.sublist ((List.eraseIdx_sublist _ _).map _)⟩ ?_;rw[yal]at f1;simp only[execOp,hop,resolve,hc,a3,b9,invoke,builtin,yeo,yav,ydd,Builtin.delete_,b8,b3,Sem.run_bind,Sem.run_pure,run_underlying a6,Result.andThen_ok,b6,zld a5,zms a5 f1,MapKept.run_setObj_map _ e2,yeq,yc8,yei];rfl
  ·exact h.elim
 ·exact h.elim
end
end
section
open Go.RowKit
section
variable {P:Program}{B:Base}{o:Oper}{σ:St}{K:Fx->Prop}
def zlb{a:Act}{w:World}{ρ:Ly}(hs:SatR B σ a w ρ){y:Operand}{n:Int}{k:IntKind}(hy:Sym.asInt (evA σ y)=some (k,n)){m:Nat}{c:BoundsCode}(h0:0<=n)(hm:n<=m):(Instr.sliceBound (a.eval y) m c).run P w=.ok n.toNat w:=by
 have h3:0<=n/\n<=m:=⟨h0,hm⟩;simp only[zci hy (za4 hs y),Instr.sliceBound,asIntOf,Sem.run_bind,Sem.run_pure,Result.andThen_ok,if_pos h3]
def znm{a:Act}{w:World}{ρ:Ly}(hs:SatR B σ a w ρ){b k:Nat}{t:TypeId}{es:List (List IV)}(hk:σ.kd b=.row t k es)(hn:0<es.length) :
  ∃(q cap:Nat) (cur:Array Value) (us:List Value),ρ b=.slice (some ⟨q,0,none⟩) es.length cap/\w.heap[q]?=some (.cells cur t (0,0))/\es.length<=cap/\cap<=maxLen/\cur.size=cap*k/\cur.toList.take (es.length*k)=us/\0<k/\(∀x∈es,x.length=k)/\es.length<=17592186044416/\us.length=es.flatten.length /\
   (∀u∈us,u.oneCell'=true)/\∀(i:Nat) u x,us[i]?=some u->es.flatten[i]?=some x->RepI w (Imm B σ ρ w) u x:=by
 have ho:=hs.obs b;rw[hk]at ho;obtain⟨us,h1,h2,h3,h4,h5,h6,h7⟩:=ho;rcases h4.2 with⟨_,h0⟩|⟨q,cap,cur,e1,_,e3,e4,e5,e6,e7⟩
 ·omega
 ·exact⟨q,cap,cur,us,e1,e3,e4,e5,e6,e7,h1,h2,h3,h5,h6,h7⟩
def aSliceV_ok{t:TypeId}{x lo:Operand}{b g:Nat}(hop:o.op=.slice t x (some lo) none none)(hx:evA σ x=.osl b g)(hd:zct B.n o=true)(h:aSliceV P o σ K t x b g lo):∃fx,K fx/\Eff P B o fx.rd σ fx.wr:=by
 unfold aSliceV at h;split at h
 ·rename_i et kk l b2 k es a6 a9 a7;have hu:=zdr a6;split at h
  ·rename_i k' b0;obtain⟨a3,h'⟩:=h.ok;clear h;have a3:=yar a3;subst a3;obtain⟨⟨hg,h0,hl,hn⟩,h⟩:=h'.out;refine⟨_,h,Eff.pure hd λσ' hag a w ρ hs=>?_⟩;obtain⟨a4,hg',a8,_⟩:=zcy hag;have h1:=za4 hs x;rw[zal (zaw a4),hx]at h1;have a5:Sym.asInt (evA σ' lo)=some (kk,l):=by rw[zal (za7 a4)];exact a9
   obtain⟨q,a0,cur,us,e1,e2,e3,_⟩:=znm hs (a8.trans a7) hn;have hb:=λc=>zlb (P:=P) (w:=w) hs a5 (m:=es.length) (c:=c) h0 (by omega);have hz:=zf8 b0 w;generalize hv:a.eval x=v at h1;cases h1 with
   |osl _ _ _ a2 hgg hh =>
    rw[hh (hg'.trans hg),e1]at hv;refine⟨.slice (if a0=l.toNat then some ⟨q,0,none⟩ else some ⟨q,l.toNat*k,none⟩) (es.length-l.toNat) (a0-l.toNat),?_,.osv _ b g l.toNat k (by rfl) hgg λ_=>⟨q,_,a0,e1,hl,rfl⟩⟩;simp only[execOp,hop,hv,Instr.sliceAt,Instr.slice,Sem.run_bind,Sem.run_pure,Result.andThen_ok,run_underlying hu,ydi,yap,hz];unfold Instr.sliceBounds;simp[hb,addr_add,hz]
  ·exact h.elim
 ·exact h.elim
def aSlice3_ok{t:TypeId}{x:Operand}{lo hi:Option Operand}{mx:Operand}(hop:o.op=.slice t x lo hi (some mx))(hd:zct B.n o=true)(h:aSlice3 P o σ K t x lo hi mx):∃fx,K fx/\Eff P B o fx.rd σ fx.wr:=by
 unfold aSlice3 at h;split at h
 ·rename_i hi et a8;have hu:=zdr a8;split at h
  ·rename_i k es k1 h9 k2 hh hk hx a9 b0;obtain⟨⟨h0,a5,rfl,a2⟩,h⟩:=h.out;have h:=h.out;refine⟨_,h,Eff.pure hd λσ' hag a w ρ hs=>?_⟩;have h1:=za4 hs x;rw[zal (zaw (zaw hag))]at h1;have a7:Sym.asInt (evA σ' hi)=some (k1,hh):=by rw[zal (za7 (zaw hag))];exact a9
   have a4:Sym.asInt (evA σ' mx)=some (k2,hh):=by rw[zal (za7 hag)];exact b0
   have hz:=zf8 hk w
   have run:∀A n cp,a.eval x=.slice A n cp->n=es.length->n<=cp->(execOp a.eval o).run P w=.ok (.value (.slice (if hh.toNat=0 then A else A.map (·.add (0*k))) (hh.toNat-0) (hh.toNat-0))) w:=λA n cp hv hn b4=>by
    have b1:=λc=>zlb (P:=P) (w:=w) hs a4 (m:=cp) (c:=c) h0 (by omega);have b2:=λc=>zlb (P:=P) (w:=w) hs a7 (m:=hh.toNat) (c:=c) h0 (by omega);simp only[execOp,hop,hv,Instr.sliceAt,Instr.slice,Sem.run_bind,Sem.run_pure,Result.andThen_ok,run_underlying hu,ydi,yap,hz];unfold Instr.sliceBounds;simp[b1,b2,hz]
   have emp:∀A,es=[]->RepA w (Imm B σ' ρ w) ρ σ'.gn (.slice (if hh.toNat=0 then A else A.map (·.add (0*k))) (hh.toNat-0) (hh.toNat-0)) (.full (es.take hh.toNat)):=λA e=>by
    have e0:hh.toNat=0:=by rw[e]at a5;simp at a5;omega
    rw[e0,e,if_pos rfl,List.take_nil];exact .full _ _ _ (.emp _ _)
   cases hxx:evA σ x with
   |im y =>
    rw[hxx]at h1 hx;have hx:nz y=.sl es:=hx;have h1:RepI w (Imm B σ' ρ w) (a.eval x) (.sl es):=hx ▸ nz_rep h1.im_inv;generalize hv:a.eval x=v at h1;cases h1 with
    |emp A c =>
     exact⟨_,run _ _ _ hv rfl (yaf _),emp _ rfl⟩
    |sl b q c k' n _ us hn hkk hc hs' hS hl hone hu' hr =>
     refine⟨_,run _ _ _ hv hn.symm hc,?_⟩;rcases ycb hh.toNat with e0|e0
     ·rw[e0,if_pos rfl,yeg];exact .full _ _ _ (.emp _ _)
     ·rw[if_neg (by omega)];simp only[yap,ydc,addr_add,ybz,yea];have a3:(es.take hh.toNat).length=hh.toNat:=by rw[yas];omega
      have a6:(es.take hh.toNat).flatten=es.flatten.take (hh.toNat*k):=zja a2;refine .full _ _ _ (.sl b q _ k _ _ (us.take (hh.toNat*k)) a3 (λe he=>a2 e (ybe he)) (yaq _) (by omega) hS (by rw[a6,yas,yas,hl]) (λu a0=>hone u (ybe a0)) (λi u a0=>?_) λi u y a0 hy=>?_)
      ·rw[ybk]at a0;split at a0
       ·exact hu' i u a0
       ·cases a0
      ·rw[a6,ybk]at hy;rw[ybk]at a0;split at a0
       ·rename_i b3;rw[if_pos b3]at hy;exact hr i u y a0 hy
       ·cases a0
   |_=>rw[hxx]at hx;cases hx
  ·exact h.elim
 ·exact h.elim
def aLenV_ok{c:Call}{t:TypeId}{ts:List TypeId}{x:Operand}{b g k m:Nat}(hop:o.op=.call c)(hc:c.callee=.builtin .len)(ha:c.args.toList=[x])(ht:c.argTypes.toList=t::ts){e:TypeId}(he:zgc P t=some e)(hx:evA σ x=.osv b g k m)(hd:zct B.n o=true)(h:aLenV o σ K x b g k):∃fx,K fx/\Eff P B o fx.rd σ fx.wr:=by
 have a4:c.argTypes[0]?=some t:=by rw[<- ya6,ht];rfl
 have a6:∀a:Act,(c.args.map a.eval)[0]?=some (a.eval x):=λa=>by rw[<- ya6,ycl,ha];rfl
 have hu:=zdr he
 have run:∀(a:Act) w A n cp,a.eval x=.slice A n cp->(execOp a.eval o).run P w=.ok (.value (.int .i64 n)) w:=λa w A n cp hv=>by
  simp only[execOp,hop,resolve,hc,invoke,builtin,Builtin.len_,a4,a6,Sem.run_bind,Sem.run_pure,Result.andThen_ok,run_underlying hu,hv,goInt]
 unfold aLenV at h;split at h
 ·rename_i t' kk es a0;obtain⟨hg,h⟩:=h.out;have h:=h.out;refine⟨_,h,Eff.pure hd λσ' hag a w ρ hs=>?_⟩;obtain⟨a3,hg',a5,_⟩:=zcy hag;have h1:=za4 hs x;rw[zal a3,hx]at h1;obtain⟨A,cp,hρ⟩:=zsp hs (a5.trans a0);generalize hv:a.eval x=v at h1;cases h1 with
  |osv _ _ _ _ _ a2 hgg hh =>
   obtain⟨q,n,c',e1,e2,e3⟩:=hh (hg'.trans hg);rw[hρ]at e1;injection e1 with _ e1 _
   subst e1;rw[e3]at hv;exact⟨_,run a w _ _ _ hv,zc1 _⟩
 ·exact h.elim
def aIndexV_ok{t:TypeId}{x i:Operand}{b g k m:Nat}(hop:o.op=.indexAddr t x i)(hx:evA σ x=.osv b g k m)(hd:zct B.n o=true)(h:aIndexV P o σ K t x i b g k m):∃fx,K fx/\Eff P B o fx.rd σ fx.wr:=by
 unfold aIndexV at h;split at h
 ·rename_i kk n et t' k' es hi a5 a4;have hu:=zdr a5;split at h
  ·rename_i m' hm;obtain⟨a0,h'⟩:=h.ok;clear h;have a0:=yar a0;subst a0;obtain⟨⟨h0,hg,a9⟩,h⟩:=h'.out;have h:=h.out;refine⟨_,h,Eff.pure hd λσ' hag a w ρ hs=>?_⟩;obtain⟨a3,hg',a7,_⟩:=zcy hag;have h1:=za4 hs x;have h2:=za4 hs i;rw[zal (zaw a3),hx]at h1;rw[zal (za7 a3)]at h2;have hn:=zci hi h2;obtain⟨q,a6,cur,us,e1,e2,e3,_⟩:=znm hs (a7.trans a4) (by omega);generalize hv:a.eval x=v at h1;cases h1 with
   |osv _ _ _ _ _ a2 hgg hh =>
    obtain⟨q',n',c',f1,f2,f3⟩:=hh (hg'.trans hg);have a8:=f1;rw[e1]at f1;injection f1 with f1 f4 f5
    injection f1 with f1
    injection f1 with f1
    subst f1 f4 f5;rw[f3,if_neg (by omega)]at hv;have hz:=zf8 hm w;have h3:0<=n/\n<(es.length-k:Nat):=⟨h0,by omega⟩;refine⟨.pointer (some ⟨q,(k+n.toNat)*m,none⟩),?_,.elt _ b g m (k+n.toNat) 0 rfl hgg λ_=>⟨q,0,_,a6,e1,by rw[ybz,yal]⟩⟩;simp only[execOp,hop,hv,hn,Instr.indexAt,asIntOf,Sem.run_bind,Sem.run_pure,Result.andThen_ok,run_underlying hu,if_pos h3,hz,addr_add];rw[Nat.add_mul]
  ·exact h.elim
 ·exact h.elim
def aSliceT_ok{t:TypeId}{x hi:Operand}{b g:Nat}(hop:o.op=.slice t x none (some hi) none)(hx:evA σ x=.osl b g)(hd:zct B.n o=true)(h:aSliceT P o σ K t x b g hi):∃fx,K fx/\Eff P B o fx.rd σ fx.wr:=by
 unfold aSliceT at h;split at h
 ·rename_i et kk l a0 k es d b7 b9 b0 a5;have hu:=zdr b7;split at h
  ·rename_i k' c7;obtain⟨a9,h'⟩:=h.ok;clear h;have a9:=yar a9;subst a9;obtain⟨⟨hg,h0,hl,hn⟩,h⟩:=h'.out;have h:=h.out;refine⟨_,h,λσ' hag a w ⟨ρ,hs⟩ K' Q hK=>?_⟩;obtain⟨b3,hg',b2,c9⟩:=zcy hag;have h1:=za4 hs x;rw[zal (zaw b3),hx]at h1;have b6:Sym.asInt (evA σ' hi)=some (kk,l):=by rw[zal (za7 b3)];exact b9
   obtain⟨q,cap,cur,us,e1,e2,e3,e4,e5,e6,e7,e8,e9,a2,a6,a7⟩:=znm hs (b2.trans b0) hn;have hb:=λc=>zlb (P:=P) (w:=w) hs b6 (m:=cap) (c:=c) h0 (by omega);have hz:=zf8 c7 w
   have hv:a.eval x=.slice (some ⟨q,0,none⟩) es.length cap:=by
    generalize a.eval x=v at h1;cases h1 with
    |osl _ _ _ a8 hgg hh=>rw[hh (hg'.trans hg),e1]
   have run:(execOp a.eval o).run P w=.ok (.value (.slice (some ⟨q,0,none⟩) l.toNat cap)) w:=by
    simp only[execOp,hop,hv,Instr.sliceAt,Instr.slice,Sem.run_bind,Sem.run_pure,Result.andThen_ok,run_underlying hu,ydi,yap,hz];unfold Instr.sliceBounds;have:¬cap=0:=by omega
    simp[hb,addr_add,hz,this]
   unfold Oper.wp;rw[run,Oper.upon_value,a5];refine hK _ _ ⟨setρ ρ b (.slice (some ⟨q,0,none⟩) l.toNat cap),?_⟩;have a3:Owns σ' ρ b q:=.root (zik (b2.trans b0)) (by rw[e1];rfl);have m:zo7 σ' w w ρ (some b) (.slice (some ⟨q,0,none⟩) l.toNat cap) (some q):=⟨World.grownBy.refl _ _,λc hc=>by injection hc with hc;subst hc;exact⟨b,rfl,a3⟩,λc hc=>.inl (by injection hc with hc;rw[<- hc])⟩;have a4:(es.take l.toNat).length=l.toNat:=by rw[yas];omega
   have b4:(es.take l.toNat).flatten=es.flatten.take (l.toNat*k):=zja e8;have c8:=zbx e8;have b5:l.toNat*k<=es.length*k:=ybs _ hl
   have b8:=hs.new (d:=b) (k:=.row a0 k (es.take l.toNat)) (cs:=[]) m rfl λhI _=>by
    refine⟨us.take (l.toNat*k),e7,λy hy=>e8 y (ybe hy),by rw[a4];omega,?_,by rw[b4,yas,yas,a2],λu hu=>a6 u (ybe hu),λi u y hu hy=>?_⟩
    ·rw[a4];refine⟨by rw[yas];omega,.inr ⟨q,cap,cur,by simp[setρ],yaf _,e2,by omega,e4,e5,?_⟩⟩;rw[<- e6,yfm,ycc b5]
    ·rw[b4,ybk]at hy;rw[ybk]at hu;split at hu
     ·rename_i c6;rw[if_pos c6]at hy;exact hI _ _ (a7 i u y hu hy)
     ·cases hu
   have c0:app σ' ((.knd b,.kd .dead)::(zd2 σ b (.row a0 k (es.take l.toNat))++[(.tmp d,.av (.osl b (σ.gn b+1)))]))=app (zeo σ' (some b) b (.row a0 k (es.take l.toNat)) []) [(.tmp d,.av (.osl b (σ'.gn b+1)))]:=by
    rw[zb6,zaz];unfold zeo zd2;rw[hg'];rfl
   show SatR B (app σ' ((.knd b,.kd .dead)::(zd2 σ b (.row a0 k (es.take l.toNat))++[(.tmp d,.av (.osl b (σ.gn b+1)))]))) _ _ _;rw[c0];exact zgx b8 rfl (zc0 hd a5)
  ·exact h.elim
 ·exact h.elim
def aSliceQ_ok{t:TypeId}{x lo:Operand}{b g:Nat}(hop:o.op=.slice t x (some lo) none none)(hx:evA σ x=.osl b g)(hd:zct B.n o=true)(h:aSliceQ P o σ K t x b g lo):∃fx,K fx/\Eff P B o fx.rd σ fx.wr:=by
 unfold aSliceQ at h;split at h
 ·rename_i et kk l a2 k es d c6 c0 a5 a3;have hu:=zdr c6;split at h
  ·rename_i k' d2;obtain⟨a4,h'⟩:=h.ok;clear h;have a4:=yar a4;subst a4;obtain⟨⟨hg,h0,hl⟩,h⟩:=h'.out;have h:=h.out;refine⟨_,h,λσ' hag a w ⟨ρ,hs⟩ K' Q hK=>?_⟩;obtain⟨b5,hg',a9,d6⟩:=zcy hag;have h1:=za4 hs x;rw[zal (zaw b5),hx]at h1;have b0:Sym.asInt (evA σ' lo)=some (kk,l):=by rw[zal (za7 b5)];exact c0
   have ho:=hs.obs b;rw[a9.trans a5]at ho;have hQ:zj3 w (Imm B σ' ρ w) (ρ b) a2 k es:=ho;obtain⟨us,k0,hk,d3,a7,b8,c8,hv⟩:=hQ
   have b4:a.eval x=ρ b:=by
    generalize a.eval x=v at h1;cases h1 with
    |osl _ _ _ _ _ hh=>exact hh (hg'.trans hg)
   have hb:=λc=>zlb (P:=P) (w:=w) hs b0 (m:=es.length) (c:=c) h0 (by omega);have hz:=zf8 d2 w
   have key:∃v',(execOp a.eval o).run P w=.ok (.value v') w/\(∀q,zb3 v'=some q->zb3 (ρ b)=some q)/\v'.oneCell'=true/\∀S',(∀u x,RepI w (Imm B σ' ρ w) u x->RepI w S' u x)->zj3 w S' v' a2 k (es.drop l.toNat):=by
    have b3:(es.drop l.toNat).flatten=es.flatten.drop (l.toNat*k):=znd hk;have d4:l.toNat*k<=es.length*k:=ybs _ hl;have c9:=zbx hk
    have mk:∀v',((v'=.slice none 0 0/\es.drop l.toNat=[])\/∃(q off a0:Nat) (cur:Array Value),v'=.slice (some ⟨q,off,none⟩) (es.drop l.toNat).length a0/\w.heap[q]?=some (.cells cur a2 (0,0))/\(es.drop l.toNat).length<=a0/\a0<=maxLen/\off+a0*k<=cur.size/\∀(j:Nat) u,(us.drop (l.toNat*k))[j]?=some u->cur[off+j]?=some u)->∀S',(∀u x,RepI w (Imm B σ' ρ w) u x->RepI w S' u x)->zj3 w S' v' a2 k (es.drop l.toNat):=λv' d0 S' hI=>by
     refine⟨us.drop (l.toNat*k),k0,λx hx=>hk x (ybp hx),by rw[ybh];omega,by rw[b3,ybh,ybh,a7],λu hu=>b8 u (ybp hu),λi u x hu hx=>?_,d0⟩;rw[b3,ybq]at hx;rw[ybq]at hu;exact hI _ _ (c8 _ u x hu hx)
    rcases hv with⟨e1,e2⟩|⟨q,off,a0,cur,e1,e2,e3,e4,e5,e6⟩
    ·have c7:l.toNat=0:=by rw[e2]at hl;simpa using hl
     refine⟨.slice none 0 0,?_,(λq (hq:none=some q)=>nomatch hq),rfl,mk _ (.inl ⟨rfl,by rw[e2];simp⟩)⟩;have b7:es.length=0:=by rw[e2];rfl
     rw[b7]at hb;simp only[execOp,hop,b4,e1,Instr.sliceAt,Instr.slice,Sem.run_bind,Sem.run_pure,Result.andThen_ok,run_underlying hu,ydi,yap,hz];unfold Instr.sliceBounds;simp[hb,hz,c7]
    ·refine⟨.slice (if a0=l.toNat then some ⟨q,off,none⟩ else some ⟨q,off+l.toNat*k,none⟩) (es.length-l.toNat) (a0-l.toNat),?_,λp hp=>?_,by rfl,mk _ (.inr ?_)⟩
     ·simp only[execOp,hop,b4,e1,Instr.sliceAt,Instr.slice,Sem.run_bind,Sem.run_pure,Result.andThen_ok,run_underlying hu,ydi,yap,hz];unfold Instr.sliceBounds;simp[hb,addr_add,hz]
     ·rw[e1];split at hp<;>exact hp
     ·by_cases hc:a0=l.toNat
      ·rw[if_pos hc];refine⟨q,off,a0-l.toNat,cur,by rw[ybh],e2,by rw[ybh];omega,by omega,by rw[hc,ycn,ydc];omega,λj u hu=>?_⟩
       have:(us.drop (l.toNat*k)).length=0:=by
        have:es.length=l.toNat:=by omega
        rw[ybh,a7,c9,this];omega
       rw[yaz this]at hu;cases hu
      ·rw[if_neg hc];have d5:l.toNat*k+(a0-l.toNat)*k=a0*k:=by rw[<- Nat.add_mul];congr 1;omega
       refine⟨q,off+l.toNat*k,a0-l.toNat,cur,by rw[ybh],e2,by rw[ybh];omega,by omega,by omega,λj u hu=>?_⟩;rw[ybq]at hu;rw[ybt];exact e6 _ u hu
   obtain⟨v',a8,b2,a6,b6⟩:=key;unfold Oper.wp;rw[a8,Oper.upon_value,a3];refine hK _ _ ⟨setρ ρ b v',?_⟩;have b9:=hs.qued (w':=w) (used:=some b) (row:=zb3 (ρ b)) (d:=b) (v':=v') (e:=a2) (k:=k) (es:=es.drop l.toNat) (λq hq=>⟨b,rfl,.root (live_que (a9.trans a5)) hq⟩) (World.grownBy.refl _ _) (λq hq=>.inl (b2 q hq)) b6
   have d1:app σ' ((.knd b,.kd .dead)::(zd2 σ b (.que a2 k (es.drop l.toNat))++[(.tmp d,.av (.osl b (σ.gn b+1)))]))=app (zeo σ' (some b) b (.que a2 k (es.drop l.toNat)) []) [(.tmp d,.av (.osl b (σ'.gn b+1)))]:=by
    rw[zb6,zaz];unfold zeo zd2;rw[hg'];rfl
   show SatR B (app σ' ((.knd b,.kd .dead)::(zd2 σ b (.que a2 k (es.drop l.toNat))++[(.tmp d,.av (.osl b (σ.gn b+1)))]))) _ _ _;rw[d1];exact zgx b9 a6 (zc0 hd a3)
  ·exact h.elim
 ·exact h.elim
def aClear_ok{c:Call}{t:TypeId}{ts:List TypeId}{x:Operand}(hop:o.op=.call c)(hc:c.callee=.builtin .clear)(ha:c.args.toList=[x])(ht:c.argTypes.toList=t::ts)(hd:zct B.n o=true)(h:aClear P o σ K t x):∃fx,K fx/\Eff P B o fx.rd σ fx.wr:=by
 have c8:c.argTypes[0]?=some t:=by rw[<- ya6,ht];rfl
 have b7:∀a:Act,(c.args.map a.eval)[0]?=some (a.eval x):=λa=>by rw[<- ya6,ycl,ha];rfl
 unfold aClear at h;split at h
 ·rename_i et b g k m d0 hx;have hu:=zdr d0;split at h
  ·rename_i b0 k' es m' z c9 d7 hz;obtain⟨b2,h'⟩:=h.ok;clear h;simp only[yax]at b2;obtain⟨⟨⟨⟨c1,c2⟩,c3⟩,c4⟩,c5⟩:=b2;have c1:=yar c1;have c2:=yar c2;have c4:=yar c4;subst c1 c2;have c3:=zd5 c3;obtain⟨⟨hg,d8⟩,h⟩:=h'.out;have h:=h.out;refine⟨_,h,λσ' hag a w ⟨ρ,hs⟩ K' Q hK=>?_⟩;obtain⟨d6,hg',d1,_⟩:=zcy hag;have h1:=za4 hs x;rw[zal d6,hx]at h1;have a3:=d1.trans c9;by_cases hn:k=es.length
   ·-- nothing to clear
    have e0:es.take k++List.replicate (es.length-k) (z.map λv=>nz1 (.val v))=es:=by rw[hn];simp
    obtain⟨A,cp,hρ⟩:=zsp hs a3
    have run:(execOp a.eval o).run P w=.ok (.value (.tuple #[])) w:=by
     generalize hv:a.eval x=v at h1;cases h1 with
     |osv _ _ _ _ _ a6 hgg hh =>
      obtain⟨q,n,c',f1,f2,f3⟩:=hh (hg'.trans hg);rw[hρ]at f1;injection f1 with _ f1 _
      subst f1;have:es.length-k=0:=by omega
      rw[f3,this]at hv;generalize (if c'=k then some (⟨q,0,none⟩:Addr) else some ⟨q,k*k',none⟩)=AA at hv;simp only[execOp,hop,resolve,hc,invoke,builtin,Builtin.clear_,c8,b7,Sem.run_bind,Sem.run_pure,Result.andThen_ok,run_underlying hu,hv];cases AA<;>simp
    unfold Oper.wp;rw[run,Oper.upon_value];refine hK _ _ ⟨ρ,?_⟩;rw[e0]
    have b4:SatR B (upd σ' (.knd b) (.kd (.row b0 k' es))) a w ρ:=(hs.step (λ_=>False) (λt=>zg8 σ' b t _) (λo _=>⟨by
      rw[zei]
      by_cases e:o=b
      ·rw[if_pos e,e,a3]
      ·rw[if_neg e],zfe σ' b o _,λi=>zh1 σ' b o i _,rfl,rfl,rfl⟩) (λ_ h=>h.elim) (λo=>by rw[zh7];exact hs.igs o) (Belo.refl _ _ _) (λ_ _ h=>h.elim) (λ_ _ _ h=>h.elim) (λ_ _ _ h=>h.elim)).1
    rw[zb6];exact b4.put (λt e=>zio hd t e) (.im _ _ (.any _))
   ·obtain⟨q,b8,cur,us,e1,e2,e3,e4,e5,e6,e7,e8,e9,a2,a7,a8⟩:=znm hs a3 (by omega)
    obtain⟨zv,d2,c0⟩:∃zv:Value,(∀w,(zeroValue et).run P w=.ok zv w)/\zv.cells.toList=z:=by
     unfold zeroOf at hz;split at hz
     ·rename_i i hi;cases hz0:i.zero with
      |none=>rw[hz0]at hz;cases hz
      |some zz =>
       rw[hz0]at hz;simp only[yap,zkF]at hz;exact⟨zz,λw=>by simp[zeroValue,typeInfo,hi,hz0],hz⟩
     ·cases hz
    have d9:zv.cells.size=k':=by rw[<- c4,<- c0];simp
    have b5:(Builtin.zeroCells zv.cells (es.length-k)).toList=(List.replicate (es.length-k) z).flatten:=by
     have:=made_take zv.cells (es.length-k) (es.length-k) (yaq _) (by omega);rw[yb7 (by simp[madeCells])]at this;rw[<- c0];exact this
    have a0:((List.replicate (es.length-k) z).flatten).length=(es.length-k)*k':=by
     rw[zbx (k:=k') (λx hx=>by rw[ybv hx];exact c4),yak]
    have a9:∀u∈(List.replicate (es.length-k) z).flatten,u.oneCell'=true:=λu hu=>by
     obtain⟨y,hy,hu⟩:=yd3.1 hu;rw[ybv hy]at hu;exact ybf.1 c5 u hu
    have b6:k*k'+(es.length-k)*k'=es.length*k':=by rw[<- Nat.add_mul];congr 1;omega
    have d5:es.length*k'<=b8*k':=ybs _ e3;have a4:=run_storeCells_at (P:=P) q (k*k') b0 ((List.replicate (es.length-k) z).flatten) 0 cur w e2 (by omega) a9;simp only[ybz]at a4
    have run:(execOp a.eval o).run P w=.ok (.value (.tuple #[])) (w.setRow q (splice cur.toList (k*k') ((List.replicate (es.length-k) z).flatten)).toArray):=by
     generalize hv:a.eval x=v at h1;cases h1 with
     |osv _ _ _ _ _ a6 hgg hh =>
      obtain⟨q',n',c',f1,f2,f3⟩:=hh (hg'.trans hg);rw[e1]at f1;injection f1 with f1 f4 f5
      injection f1 with f1
      injection f1 with f1
      subst f1 f4 f5;obtain⟨p,hp⟩:∃p,es.length-k=p+1:=⟨es.length-k-1,by omega⟩;rw[f3,if_neg (by omega)]at hv;rw[hp]at hv a4 b5 ⊢;simp only[execOp,hop,resolve,hc,invoke,builtin,Builtin.clear_,c8,b7,Sem.run_bind,Sem.run_pure,Result.andThen_ok,run_underlying hu,hv,d2,b5,a4];rfl
    unfold Oper.wp;rw[run,Oper.upon_value];refine hK _ _ ⟨ρ,?_⟩;have b9:us.length=es.length*k':=by rw[a2,zbx e8]
    have c7:(es.take k).length=k:=by rw[yas];omega
    have b3:(es.take k++List.replicate (es.length-k) (z.map λv=>nz1 (.val v))).flatten=es.flatten.take (k*k')++(List.replicate (es.length-k) (z.map λv=>nz1 (.val v))).flatten:=by
     rw[ycq,zja e8]
    have d4:((List.replicate (es.length-k) (z.map λv=>nz1 (.val v))).flatten).length=(es.length-k)*k':=by
     rw[zbx (k:=k') (λx hx=>by rw[ybv hx];simpa using c4),yak]
    have b4:=hs.turn (w':=w.setRow q (splice cur.toList (k*k') ((List.replicate (es.length-k) z).flatten)).toArray) (k':=.row b0 k' (es.take k++List.replicate (es.length-k) (z.map λv=>nz1 (.val v)))) (zik a3) (q:=q) (by rw[e1];rfl)
     ⟨rfl,rfl,rfl,by simp,λk _ hk=>setRow_other w q k _ (λe=>hk (by rw[e]))⟩ (λc hc=>by unfold Owns;rw[a3];exact hc) λhI=>by
      refine⟨us.take (k*k')++(List.replicate (es.length-k) z).flatten,e7,λy hy=>?_,by rw[zkJ,c7,yak];omega,?_,?_,λu hu=>?_,λn u y hu hy=>?_⟩
      ·rcases yam.1 hy with hy|hy
       ·exact e8 y (ybe hy)
       ·rw[ybv hy];simpa using c4
      ·have d3:(es.take k++List.replicate (es.length-k) (z.map λv=>nz1 (.val v))).length=es.length:=by rw[zkJ,c7,yak];omega
       rw[d3];refine⟨by rw[zkJ,yas,a0,b9];omega,.inr ⟨q,b8,_,e1,yaf _,setRow_heap w q cur _ b0 _ e2,e3,e4,?_,?_⟩⟩
       ·rw[ycx,zdc _ _ _ (by rw[a0];simp;omega)];simpa using e5
       ·rw[ydt,zj0 _ _ _ _ (by rw[a0];omega) (by simp;omega),e6];unfold splice;rw[a0,b6,ycp (by omega),yb4]
      ·rw[b3,zkJ,zkJ,yas,yas,a0,d4,a2]
      ·rcases yam.1 hu with hu|hu
       ·exact a7 u (ybe hu)
       ·exact a9 u hu
      ·rw[b3,ya1,yas,<- a2,ycc (by omega)]at hy;rw[ya1,yas,ycc (by omega)]at hu;split at hu
       ·rename_i a5;rw[if_pos a5,ybk,if_pos a5]at hy;rw[ybk,if_pos a5]at hu;exact hI _ _ (a8 n u y hu hy)
       ·rename_i a5;rw[if_neg a5,zfb]at hy;rw[zfb]at hu;split at hu
        ·rename_i c6;rw[zkK,if_pos c6,yae,hu]at hy;simp only[yap,zkF]at hy;rw[<- hy];exact zj1 (.val _)
        ·cases hu
    rw[zb6];exact b4.put (λt e=>zio hd t e) (.im _ _ (.any _))
  ·exact h.elim
 ·exact h.elim
def run_copy_k(w:World)(dT sT ty elem:TypeId)(g o dLen dCap:Nat)(a:Addr)(sLen sCap:Nat)(cur:Array Value)(t:TypeId)(cs:List Value)(k:Nat)
  (hu:P.underlying dT=some (.slice elem)) (hs:(P.info? elem).map (·.size)=some k)
  (hg:w.heap[g]?=some (.cells cur t (0,0))) (hn:cs.length=Nat.min sLen dLen*k)
  (hsrc:∀j v,cs[j]?=some v->w.cell? (a.add j)=some v) (hfit:o+cs.length<=cur.size) (h1:∀v∈cs,v.oneCell'=true) :
  (Builtin.copy_ #[dT,sT] ty #[.slice (some ⟨g,o,none⟩) dLen dCap,.slice (some a) sLen sCap]).run P w =
   .ok (goInt (Nat.min sLen dLen)) (w.setRow g (cur.toList.take o++cs++cur.toList.drop (o+cs.length)).toArray):=by
 have hl:=run_loadCells_list (P:=P) w a cs hsrc;have a0:=run_storeCells_at P g o t cs 0 cur w hg (by simpa using hfit) h1;cases hq:P.info? elem with
 |none=>simp[hq]at hs
 |some i =>
  have hi:i.size=k:=by simpa[hq]using hs
  rw[hn]at hl;simp[Builtin.copy_,run_underlying hu,Builtin.lenOf,Builtin.firstCells,sizeOf,typeInfo,hq,hi,hl,a0]
def aCopy_ok{c:Call}{t t':TypeId}{x y:Operand}(hop:o.op=.call c)(hc:c.callee=.builtin .copy)(ha:c.args.toList=[x,y])(ht:c.argTypes.toList=[t,t'])(hd:zct B.n o=true)(h:aCopy P o σ K t x y):∃fx,K fx/\Eff P B o fx.rd σ fx.wr:=by
 have a3:c.args=#[x,y]:=by rw[<- yb8 (xs:=c.args),ha]
 have d3:c.argTypes=#[t,t']:=by rw[<- yb8 (xs:=c.argTypes),ht]
 unfold aCopy at h;split at h
 ·rename_i et b g c7 hx;have hu:=zdr c7;split at h
  ·rename_i a9 k es m ss c0 hm hy;obtain⟨b3,h'⟩:=h.ok;clear h;have c1:=yar b3;subst c1;obtain⟨⟨hg,hn,d1,b0⟩,h⟩:=h'.out;have h:=h.out;refine⟨_,h,λσ' hag a w ⟨ρ,hs⟩ K' Q hK=>?_⟩;obtain⟨b9,hg',c9,_⟩:=zcy hag;have h1:=za4 hs x;have h2:=za4 hs y;rw[zal (zaw b9),hx]at h1;rw[zal (za7 b9)]at h2;have a0:=c9.trans c0;obtain⟨q,cap,cur,us,e1,e2,e3,e4,e5,e6,e7,e8,e9,a2,a6,a7⟩:=znm hs a0 hn
   have hv:a.eval x=.slice (some ⟨q,0,none⟩) es.length cap:=by
    generalize a.eval x=v at h1;cases h1 with
    |osl _ _ _ a8 hgg hh=>rw[hh (hg'.trans hg),e1]
   obtain⟨sb,so,sc,su,f1,f2,f3,f4,f5⟩:∃(sb so sc:Nat) (su:List Value),a.eval y=.slice (some ⟨sb,so,none⟩) ss.length sc/\su.length=ss.flatten.length/\(∀u∈su,u.oneCell'=true)/\(∀(i:Nat) u,su[i]?=some u->w.cell? ⟨sb,so+i,none⟩=some u)/\∀(i:Nat) u z,su[i]?=some u->ss.flatten[i]?=some z->RepI w (Imm B σ' ρ w) u z:=by
    cases hyy:evA σ y with
    |im z =>
     rw[hyy]at h2 hy;have hy:nz z=.sl ss:=hy;have h2:RepI w (Imm B σ' ρ w) (a.eval y) (.sl ss):=hy ▸ nz_rep h2.im_inv;generalize a.eval y=v at h2;cases h2 with
     |emp A c =>
      cases d1
     |sl b q c k' n' _ us hn hkk hc hs' hS hl hone hu' hr =>
      subst hn;exact⟨_,_,_,us,rfl,hl,hone,hu',hr⟩
    |_=>rw[hyy]at hy;cases hy
   have a4:su.length=ss.length*k:=by rw[f2,zbx b0]
   have d0:us.length=es.length*k:=by rw[a2,zbx e8]
   have d4:Nat.min ss.length es.length=min ss.length es.length:=rfl
   have b2:(su.take (es.length*k)).length=Nat.min ss.length es.length*k:=by
    rw[yas,a4,d4,Nat.min_comm (es.length*k)];rcases yde ss.length es.length with hh|hh
    ·rw[ycc hh,ycc (ybs _ hh)]
    ·rw[ycw hh,ycw (ybs _ hh)]
   have d6:Nat.min ss.length es.length*k<=es.length*k:=ybs _ (Nat.min_le_right _ _);have d5:es.length*k<=cap*k:=ybs _ e3
   have b6:=run_copy_k (P:=P) w t t' o.type et q 0 es.length cap ⟨sb,so,none⟩ ss.length sc cur a9 (su.take (es.length*k)) k hu hm e2 b2 (λj v hj=>by
    rw[ybk]at hj
    split at hj
    ·rw[Addr.add_lit];exact f4 j v hj
    ·cases hj) (by rw[b2];omega) (λv hv=>f3 v (ybe hv))
   have run:(execOp a.eval o).run P w=.ok (.value (goInt (Nat.min ss.length es.length))) (w.setRow q (cur.toList.take 0++su.take (es.length*k)++cur.toList.drop (0+(su.take (es.length*k)).length)).toArray):=by
    simp only[execOp,hop,resolve,hc,invoke,builtin,Sem.run_bind,Sem.run_pure,Result.andThen_ok,a3,d3,yeo,yav,ydd,hv,f1,b6]
   unfold Oper.wp;rw[run,Oper.upon_value];refine hK _ _ ⟨ρ,?_⟩;rw[yeg,ycj,yal];have b7:(su.take (es.length*k)).length<=es.length*k:=by rw[yas];exact Nat.min_le_left _ _
   have b8:(su.take (es.length*k)).length=min (es.length*k) (ss.length*k):=by rw[yas,a4]
   have b4:(ss.take es.length++es.drop ss.length).flatten=(ss.flatten.take (es.length*k))++es.flatten.drop (ss.length*k):=by
    rw[ycq,zja b0,znd e8]
   have c6:=hs.turn (w':=w.setRow q (su.take (es.length*k)++cur.toList.drop (su.take (es.length*k)).length).toArray) (k':=.row a9 k (ss.take es.length++es.drop ss.length)) (zik a0) (q:=q) (by rw[e1];rfl)
    ⟨rfl,rfl,rfl,by simp,λk _ hk=>setRow_other w q k _ (λe=>hk (by rw[e]))⟩ (λc hc=>by unfold Owns;rw[a0];exact hc) λhI=>by
     have b5:(ss.take es.length++es.drop ss.length).length=es.length:=by rw[zkJ,yas,ybh];omega
     refine⟨su.take (es.length*k)++us.drop (ss.length*k),e7,λy hy=>?_,by rw[b5];exact e9,?_,?_,λu hu=>?_,λn u y hu hy=>?_⟩
     ·rcases yam.1 hy with hy|hy
      ·exact b0 y (ybe hy)
      ·exact e8 y (ybp hy)
     ·rw[b5];refine⟨by rw[zkJ,yas,ybh,a4,d0];omega,.inr ⟨q,cap,_,e1,yaf _,setRow_heap w q cur _ a9 _ e2,e3,e4,?_,?_⟩⟩
      ·have d2:cur.toList.length=cap*k:=by rw[yez,e5]
       rw[ycx,zkJ,ybh,d2];omega
      ·rw[ydt,yen,yb7 b7,List.take_drop,show(su.take (es.length*k)).length+(es.length*k-(su.take (es.length*k)).length)=es.length*k by omega,e6];congr 1;rcases yde (ss.length*k) (es.length*k) with hh|hh
       ·rw[b8,ycw hh]
       ·rw[b8,ycc hh,ycp (by omega),ycp (by omega)]
     ·rw[b4,zkJ,zkJ,yas,yas,ybh,ybh,f2,a2]
     ·rcases yam.1 hu with hu|hu
      ·exact f3 u (ybe hu)
      ·exact a6 u (ybp hu)
     ·rw[b4,ya1,yas,<- f2]at hy;rw[ya1,yas]at hu;split at hu
      ·rename_i a5;rw[if_pos a5,ybk]at hy;rw[ybk]at hu;split at hu
       ·rename_i c8;rw[if_pos c8]at hy;exact hI _ _ (f5 n u y hu hy)
       ·cases hu
      ·rename_i a5;rw[if_neg a5,ybq]at hy;rw[ybq]at hu;exact hI _ _ (a7 _ u y hu hy)
   rw[zb6];exact c6.put (λt e=>zio hd t e) (.im _ _ (.any _))
  ·exact h.elim
 ·exact h.elim
end
end
section
open Go.RowKit
section
variable {P:Program}{B:Base}{o:Oper}{σ:St}{K:Fx->Prop}
def zmt{v:Value}{inn:List Value}(h:(fpv v inn).Nodup){i q:Nat}{u:Value}(hu:inn[i]?=some u)(hq:zb3 u=some q):zb3 v≠some q/\∀j u',j≠i->inn[j]?=some u'->zb3 u'≠some q:=by
 unfold fpv List.Nodup at h;rw[yfi]at h;rw[yco]at h;obtain⟨h1,h2⟩:=h;obtain⟨hi,rfl⟩:=zkI.1 hu;refine⟨λe=>h1 _ (ya7 hi) q e q hq rfl,λj u' hj a3 e=>?_⟩;obtain⟨a0,rfl⟩:=zkI.1 a3;have h3:=yb6.1 h2;rcases ya9 j i with a2|a4
 ·exact h3 j i a0 hi a2 q e q hq rfl
 ·exact h3 i j hi a0 (by omega) q hq q e rfl
def zfy{a:Act}{w:World}{ρ:Ly}(hs:SatR B σ a w ρ){b k:Nat}{e e':TypeId}{gs:List (List IV)}(hk:σ.kd b=.grid e e' k gs none) :
  ∃us:List Value,(fpv (ρ b) (ρ.inn b)).Nodup/\(ρ.inn b).length=gs.length/\gs.length<=17592186044416/\w.ownsRow 0 e 1 (ρ b) gs.length us/\(∀u∈us,u.oneCell'=true)/\us.length=gs.length /\
   ∀(i:Nat) u,(ρ.inn b)[i]?=some u->us[i]?=some u/\∃es,gs[i]?=some [.sl es]/\zg7 w (Imm B σ ρ w) u e' k es:=by
 have ho:=hs.obs b;rw[hk]at ho;obtain⟨h0,h1,us,h2,h3,h4,h5⟩:=ho;refine⟨us,h0,h1,h2,h3,h4,by rw[h3.1,ycz],λi u hu=>?_⟩;rcases h5 i u hu with⟨h6,_⟩|h6
 ·cases h6
 ·exact h6
def zs4{a:Act}{w:World}{ρ:Ly}(hs:SatR B σ a w ρ){b k:Nat}{e e':TypeId}{gs:List (List IV)}{hole:Option Nat}(hk:σ.kd b=.grid e e' k gs hole) :
  ∃us:List Value,(fpv (ρ b) (ρ.inn b)).Nodup/\(ρ.inn b).length=gs.length/\gs.length<=17592186044416/\w.ownsRow 0 e 1 (ρ b) gs.length us/\(∀u∈us,u.oneCell'=true)/\us.length=gs.length /\
   ∀(i:Nat) u,(ρ.inn b)[i]?=some u->(hole=some i/\u=undef)\/(us[i]?=some u/\∃es,gs[i]?=some [.sl es]/\zg7 w (Imm B σ ρ w) u e' k es):=by
 have ho:=hs.obs b;rw[hk]at ho;obtain⟨h0,h1,us,h2,h3,h4,h5⟩:=ho;exact⟨us,h0,h1,h2,h3,h4,by rw[h3.1,ycz],h5⟩
def inn_at{ρ:Ly}{b n i:Nat}(h:(ρ.inn b).length=n)(hi:i<n):∃u,(ρ.inn b)[i]?=some u:=⟨_,zkM (by omega)⟩
def zg7.form{w:World}{S:Nat->Prop}{v:Value}{e:TypeId}{k:Nat}{es:List (List IV)}(h:zg7 w S v e k es)(hn:0<es.length) :
  ∃(q cap:Nat) (cur:Array Value) (us:List Value),v=.slice (some ⟨q,0,none⟩) es.length cap/\w.heap[q]?=some (.cells cur e (0,0))/\es.length<=cap/\cap<=maxLen/\cur.size=cap*k/\cur.toList.take (es.length*k)=us/\0<k/\(∀x∈es,x.length=k)/\es.length<=17592186044416/\us.length=es.flatten.length /\
   (∀u∈us,u.oneCell'=true)/\(∀(i:Nat) u x,us[i]?=some u->es.flatten[i]?=some x->RepI w S u x)/\w.ownsRow 0 e k v es.length us:=by
 obtain⟨us,h1,h2,h3,h4,h5,h6,h7⟩:=h;rcases h4.2 with⟨_,h0⟩|⟨q,cap,cur,e1,_,e3,e4,e5,e6,e7⟩
 ·omega
 ·exact⟨q,cap,cur,us,e1,e3,e4,e5,e6,e7,h1,h2,h3,h5,h6,h7,h4⟩
def zpz{w:World}{e:TypeId}{k n q cap:Nat}{v:Value}{us:List Value}(h:w.ownsRow 0 e k v n us)(hv:v=.slice (some ⟨q,0,none⟩) n cap){p:Nat}{u:Value}(hu:us[p]?=some u):w.cell? ⟨q,p,none⟩=some u:=by
 have:=h.cells (g:=q) (by rw[hv];rfl) p u hu
 rwa [addr_add,yal]at this
def aIndexG_ok{t:TypeId}{x i:Operand}{b g:Nat}(hop:o.op=.indexAddr t x i)(hx:evA σ x=.osl b g)(hd:zct B.n o=true)(h:aIndexG P o σ K t x i b g):∃fx,K fx/\Eff P B o fx.rd σ fx.wr:=by
 unfold aIndexG at h;split at h
 ·rename_i kk n et e e' k' gs hole hi a6 a7;have hu:=zdr a6;split at h
  ·rename_i m hm;obtain⟨a3,h'⟩:=h.ok;clear h;have a3:=yar a3;subst a3;obtain⟨⟨h0,hg,b0⟩,h⟩:=h'.out;refine⟨_,h,Eff.pure hd λσ' hag a w ρ hs=>?_⟩;obtain⟨a5,hg',a8,_⟩:=zcy hag;have h1:=za4 hs x;have h2:=za4 hs i;rw[zal (zaw a5),hx]at h1;rw[zal (za7 a5)]at h2;have hn:=zci hi h2;obtain⟨us,_,_,_,a4,_⟩:=zs4 hs (a8.trans a7);obtain⟨q,a9,a0⟩:=World.ownsRow.form a4 (by omega);generalize hv:a.eval x=v at h1;cases h1 with
   |osl _ _ _ a2 hgg hh =>
    rw[hh (hg'.trans hg),a0.1]at hv;have hz:=zf8 hm w;have h3:0<=n/\n<gs.length:=⟨h0,by omega⟩;refine⟨.pointer (some ⟨q,n.toNat*1,none⟩),?_,.elt _ b g 1 n.toNat 0 rfl hgg λ_=>⟨q,0,_,a9,a0.1,by rw[ybz,yal]⟩⟩;simp only[execOp,hop,hv,hn,Instr.indexAt,asIntOf,Sem.run_bind,Sem.run_pure,Result.andThen_ok,run_underlying hu,if_pos h3,hz,addr_add,yal]
  ·exact h.elim
 ·exact h.elim
def zpy{σ':St}{l:List Loc}{b:Nat}(h:∀x∈l++[.ign b,.knd b],σ' x=σ x):(∀x∈l,σ' x=σ x)/\σ'.ig b=σ.ig b/\σ'.kd b=σ.kd b :=
 ⟨zaw h,zhc (za7 h _ (by simp)),zmf (za7 h _ (by simp))⟩
def aIndexS_ok{t:TypeId}{x i:Operand}{b g j:Nat}(hop:o.op=.indexAddr t x i)(hx:evA σ x=.sub b g j)(hd:zct B.n o=true)(h:aIndexS P o σ K t x i b g j):∃fx,K fx/\Eff P B o fx.rd σ fx.wr:=by
 unfold aIndexS at h;split at h
 ·rename_i kk n et e e' k gs hi b0 a8;have hu:=zdr b0;split at h
  ·rename_i m hm;obtain⟨a4,h'⟩:=h.ok;clear h;have a4:=yar a4;subst a4;obtain⟨es,⟨h0,hg,a9,b7⟩,h⟩:=h';refine⟨_,h,Eff.pure hd λσ' hag a w ρ hs=>?_⟩;obtain⟨a6,hg',b4⟩:=zpy hag;have h1:=za4 hs x;have h2:=za4 hs i;rw[zal (zaw a6),hx]at h1;rw[zal (za7 a6)]at h2;have hn:=zci hi h2;obtain⟨us,_,_,_,_,_,_,a7⟩:=zfy hs (b4.trans a8);generalize hv:a.eval x=v at h1;cases h1 with
   |sub _ _ _ _ a2 hgg hh =>
    have b3:ρ.ig b=g:=by rw[hs.igs,hg',hg]
    have a3:=hh b3;obtain⟨_,b5,a0,a5⟩:=a7 j v a3;rw[a9]at a0;injection a0 with a0
    injection a0 with a0
    injection a0 with a0
    subst a0;obtain⟨q,b2,cur,b6,e1,_⟩:=a5.form (by omega);have hz:=zf8 hm w;have h3:0<=n/\n<es.length:=⟨h0,by omega⟩;refine⟨.pointer (some ⟨q,n.toNat*m,none⟩),?_,.elt2 _ b g j m n.toNat 0 rfl hgg λ_=>⟨q,_,b2,by rw[a3,e1],by rw[ybz]⟩⟩;rw[e1]at hv;simp only[execOp,hop,hv,hn,Instr.indexAt,asIntOf,Sem.run_bind,Sem.run_pure,Result.andThen_ok,run_underlying hu,if_pos h3,hz,addr_add,yal]
  ·exact h.elim
 ·exact h.elim
def aLoadG_ok{t:TypeId}{p:Operand}{b g k i j:Nat}(hop:o.op=.load t p)(hp:evA σ p=.elt b g k i j)(hd:zct B.n o=true)(h:aLoadG P o σ K t p b g k i j):∃fx,K fx/\Eff P B o fx.rd σ fx.wr:=by
 have run:∀(a:Act) w v,(Instr.loadAt t (a.eval p)).run P w=.ok v w->(execOp a.eval o).run P w=.ok (.value v) w:=λa w v hv=>by simp[execOp,hop,hv]
 unfold aLoadG at h;split at h
 ·rename_i e e' k' gs a5 b0;obtain⟨a0,h'⟩:=h.ok;clear h;rw[yax]at a0;have b4:=yar a0.1;have b2:=yar a0.2;subst b4 b2;obtain⟨⟨hg,b7⟩,h⟩:=h'.out;refine⟨_,h,Eff.pure hd λσ' hag a w ρ hs=>?_⟩;have a8:∀x∈opd p++(.gen b::.knd b::[.ign b]),σ' x=σ x:=λx hx=>hag x (by simpa using hx);obtain⟨b9,hg',b8,b6⟩:=zcy a8;have b5:σ'.ig b=σ.ig b:=zhc (b6 (.ign b) (by simp));have h1:=za4 hs p;rw[zal b9,hp]at h1;obtain⟨us,_,b3,_,a4,a6,_,a9⟩:=zfy hs (b8.trans b0);obtain⟨u,hu⟩:=inn_at b3 b7;obtain⟨a7,_⟩:=a9 i u hu;generalize hv:a.eval p=v at h1;cases h1 with
  |elt _ _ _ _ _ _ a2 hgg hh =>
   obtain⟨q,z,n,c,e1,e2⟩:=hh (hg'.trans hg);obtain⟨q',c0,a3⟩:=World.ownsRow.form a4 (by omega);rw[a3.1]at e1;injection e1 with e1 _ _
   injection e1 with e1
   injection e1 with e1 e3
   subst e1 e3;rw[e2,ycz,ybz,yal]at hv;refine⟨u,run a w u (by rw[hv];exact zlm a5 (zpz a4 a3.1 a7)),.sub _ b _ i (a6 u (zkH a7)) ?_ λ_=>hu⟩;rw[hs.igs,b5];exact yaq _
 ·exact h.elim
def aLoadS_ok{t:TypeId}{p:Operand}{b g i k j c:Nat}(hop:o.op=.load t p)(hp:evA σ p=.elt2 b g i k j c)(hd:zct B.n o=true)(h:aLoadS P o σ K t p b g i k j c):∃fx,K fx/\Eff P B o fx.rd σ fx.wr:=by
 have run:∀(a:Act) w v,(Instr.loadAt t (a.eval p)).run P w=.ok v w->(execOp a.eval o).run P w=.ok (.value v) w:=λa w v hv=>by simp[execOp,hop,hv]
 unfold aLoadS at h;split at h
 ·rename_i e e' k' gs a5 b3;obtain⟨a7,h'⟩:=h.ok;clear h;have b0:=yar a7;subst b0;obtain⟨es,el,x,⟨hg,b9,he,hx⟩,h⟩:=h';refine⟨_,h,Eff.pure hd λσ' hag a w ρ hs=>?_⟩;obtain⟨b6,hg',c0⟩:=zpy hag;have h1:=za4 hs p;rw[zal b6,hp]at h1;obtain⟨us,_,_,_,_,_,_,a9⟩:=zfy hs (c0.trans b3);generalize hv:a.eval p=v at h1;cases h1 with
  |elt2 _ _ _ _ _ _ _ a2 hgg hh =>
   have b5:ρ.ig b=g:=by rw[hs.igs,hg',hg]
   obtain⟨q,n,cp,a8,e2⟩:=hh b5;obtain⟨_,c9,a0,a6⟩:=a9 i _ a8;rw[b9]at a0;injection a0 with a0
   injection a0 with a0
   injection a0 with a0
   subst a0;have d0:=(zkI.1 he).1;obtain⟨q',c7,cur,b4,e1,_,_,_,_,_,d1,a3,_,c6,c8,b2,a4⟩:=a6.form (by omega);have b7:=e1;injection e1 with e1 _ _
   injection e1 with e1
   injection e1 with e1
   subst e1;have b8:c<k':=by rw[<- a3 el (zkH he)];exact(zkI.1 hx).1
   have hf:=flat_get a3 he b8;rw[hx]at hf;obtain⟨u,hu⟩:∃u,b4[j*k'+c]?=some u:=⟨_,zkM (by rw[c6];exact(zkI.1 hf).1)⟩;exact⟨u,run a w u (by rw[hv,e2];exact zlm a5 (zpz a4 b7 hu)),.im _ _ (b2 _ u x hu hf)⟩
 ·exact h.elim
def aLenG_ok{c:Call}{t:TypeId}{ts:List TypeId}{x:Operand}{b g:Nat}(hop:o.op=.call c)(hc:c.callee=.builtin .len)(ha:c.args.toList=[x])(ht:c.argTypes.toList=t::ts){e:TypeId}(he:zgc P t=some e)(hx:evA σ x=.osl b g)(hd:zct B.n o=true)(h:aLenG o σ K x b g):∃fx,K fx/\Eff P B o fx.rd σ fx.wr:=by
 have a4:c.argTypes[0]?=some t:=by rw[<- ya6,ht];rfl
 have a8:∀a:Act,(c.args.map a.eval)[0]?=some (a.eval x):=λa=>by rw[<- ya6,ycl,ha];rfl
 have hu:=zdr he
 have run:∀(a:Act) w A n cp,a.eval x=.slice A n cp->(execOp a.eval o).run P w=.ok (.value (.int .i64 n)) w:=λa w A n cp hv=>by
  simp only[execOp,hop,resolve,hc,invoke,builtin,Builtin.len_,a4,a8,Sem.run_bind,Sem.run_pure,Result.andThen_ok,run_underlying hu,hv,goInt]
 unfold aLenG at h;split at h
 ·rename_i e1 e2 k gs a6;obtain⟨hg,h⟩:=h.out;have h:=h.out;refine⟨_,h,Eff.pure hd λσ' hag a w ρ hs=>?_⟩;obtain⟨a3,hg',a7,_⟩:=zcy hag;have h1:=za4 hs x;rw[zal a3,hx]at h1;obtain⟨us,_,_,_,a0,_⟩:=zfy hs (a7.trans a6)
  obtain⟨A,cp,hρ⟩:∃A c,ρ b=.slice A gs.length c:=by
   rcases a0.2 with⟨e,h0⟩|⟨g,a5,cur,e,_⟩
   ·exact⟨none,0,by rw[e,h0]⟩
   ·exact⟨_,a5,e⟩
  generalize hv:a.eval x=v at h1;cases h1 with
  |osl _ _ _ a2 hgg hh =>
   rw[hh (hg'.trans hg),hρ]at hv;exact⟨_,run a w _ _ _ hv,zc1 _⟩
 ·exact h.elim
def aLenS_ok{c:Call}{t:TypeId}{ts:List TypeId}{x:Operand}{b g i:Nat}(hop:o.op=.call c)(hc:c.callee=.builtin .len)(ha:c.args.toList=[x])(ht:c.argTypes.toList=t::ts){e:TypeId}(he:zgc P t=some e)(hx:evA σ x=.sub b g i)(hd:zct B.n o=true)(h:aLenS o σ K x b g i):∃fx,K fx/\Eff P B o fx.rd σ fx.wr:=by
 have a9:c.argTypes[0]?=some t:=by rw[<- ya6,ht];rfl
 have b3:∀a:Act,(c.args.map a.eval)[0]?=some (a.eval x):=λa=>by rw[<- ya6,ycl,ha];rfl
 have hu:=zdr he
 have run:∀(a:Act) w A n cp,a.eval x=.slice A n cp->(execOp a.eval o).run P w=.ok (.value (.int .i64 n)) w:=λa w A n cp hv=>by
  simp only[execOp,hop,resolve,hc,invoke,builtin,Builtin.len_,a9,b3,Sem.run_bind,Sem.run_pure,Result.andThen_ok,run_underlying hu,hv,goInt]
 unfold aLenS at h;split at h
 ·rename_i e1 e2 k gs a7;obtain⟨es,⟨hg,b0⟩,h⟩:=h;have h:=h.out;refine⟨_,h,Eff.pure hd λσ' hag a w ρ hs=>?_⟩;obtain⟨b4,hg',b2⟩:=zpy hag;have h1:=za4 hs x;rw[zal b4,hx]at h1;obtain⟨us,_,_,_,_,_,_,a6⟩:=zfy hs (b2.trans a7);generalize hv:a.eval x=v at h1;cases h1 with
  |sub _ _ _ _ a2 hgg hh =>
   have a8:ρ.ig b=g:=by rw[hs.igs,hg',hg]
   obtain⟨_,b5,a0,a4⟩:=a6 i v (hh a8);rw[b0]at a0;injection a0 with a0
   injection a0 with a0
   injection a0 with a0
   subst a0;obtain⟨b6,_,_,_,a3,_⟩:=a4
   obtain⟨A,cp,hρ⟩:∃A c,v=.slice A es.length c:=by
    rcases a3.2 with⟨e,h0⟩|⟨g,a5,cur,e,_⟩
    ·exact⟨none,0,by rw[e,h0]⟩
    ·exact⟨_,a5,e⟩
   rw[hρ]at hv;exact⟨_,run a w _ _ _ hv,zc1 _⟩
 ·exact h.elim
def SatR.turnA{a:Act}{w w':World}{ρ:Ly}(h:SatR B σ a w ρ){b q:Nat}{k':Kd}(hq:Owns σ ρ b q)(hg:w.grownBy w' (some q))(hk':∀c,c∈fpk (ρ b) (ρ.inn b) k'->Owns σ ρ b c)
  (hob:(∀v x,RepI w (Imm B σ ρ w) v x->RepI w' (Imm B (upd σ (.knd b) (.kd k')) ρ w') v x)->zkl B (upd σ (.knd b) (.kd k')) ρ w' b k'):SatR B (upd σ (.knd b) (.kd k')) a w' ρ:=by
 refine(h.step (λo=>o=b) (λt=>zg8 σ b t _) (λo hd=>⟨by rw[zei,if_neg hd],zfe σ b o _,λi=>zh1 σ b o i _,rfl,rfl,rfl⟩) (λo _=>⟨⟨by rw[zfe];exact yaq _,λ_=>rfl⟩,yaq _,λ_=>rfl⟩)
  (λo=>by rw[zh7];exact h.igs o) ⟨hg.os,hg.tape,hg.output,hg.size,λc hc hn=>hg.block c hc λe=>?_⟩ (λo c hd ho=>?_) (λo p c hd hp _ _=>hd.trans hp.symm) λhI hA o hd=>?_).1
 ·injection e with e
  subst e;exact hn ⟨b,rfl,hq⟩
 ·subst hd;unfold Owns at ho;rw[zei,if_pos rfl]at ho;exact .inr ⟨o,rfl,hk' c ho⟩
 ·subst hd;rw[zei,if_pos rfl];exact hob hI
def aStoreS_ok{t:TypeId}{p x:Operand}{b g i k j c:Nat}(hop:o.op=.store t p x)(hp:evA σ p=.elt2 b g i k j c)(hd:zct B.n o=true)(h:aStoreS P o σ K t p x b g i k j c):∃fx,K fx/\Eff P B o fx.rd σ fx.wr:=by
 unfold aStoreS at h;split at h
 ·rename_i m cs e e' k' gs hm e4 b3;split at h
  ·rename_i xs h0;obtain⟨a8,h'⟩:=h.ok;clear h;simp only[yax]at a8;obtain⟨⟨⟨c1,c2⟩,c3⟩,c4⟩:=a8;have c8:cs.length=m:=by simpa using c1
   have h8:=zd5 c2;have i0:=zf0 c3;have g7:k'=k:=by simpa using c4
   subst g7;obtain⟨es,el,⟨hg,f6,a7⟩,h⟩:=h';have h:=h.out;refine⟨_,h,λσ' hag a w ⟨ρ,hs⟩ K' Q hK=>?_⟩;obtain⟨e0,hg',c0⟩:=zpy hag;have h1:=za4 hs p;have h2:=za4 hs x;rw[zal (zaw e0),hp]at h1;rw[zal (za7 e0)]at h2;have hr:=zgo e4 h2;have a9:=zgv e4 h2;have d8:=ztf hs (bs':=[]) (by simp) hr (zlg h0 λl hl=>by simp[frd]at hl) (by simp);obtain⟨us,d6,d4,b5,d0,b4,h7,c6⟩:=zfy hs (c0.trans b3);have g9:ρ.ig b=g:=by rw[hs.igs,hg',hg]
   obtain⟨q,cap,u0,a0,g5,a6⟩:∃q cap u0,(ρ.inn b)[i]?=some u0/\a.eval p=.pointer (some ⟨q,j*k'+c,none⟩)/\∃n,u0=.slice (some ⟨q,0,none⟩) n cap:=by
    generalize a.eval p=v at h1;cases h1 with
    |elt2 _ _ _ _ _ _ _ a2 hgg hh =>
     obtain⟨q,n,cp,a0,e2⟩:=hh g9;exact⟨q,cp,_,a0,e2,n,rfl⟩
   obtain⟨h6,h9,a3,d9⟩:=c6 i u0 a0;rw[f6]at a3;injection a3 with a3
   injection a3 with a3
   injection a3 with a3
   subst a3;have g8:=(zkI.1 a7).1;obtain⟨q',b2,cur,c9,e1,e3,d3,d7,e6,f9,h5,a4,d2,b7,c7,g6,f7⟩:=d9.form (by omega);obtain⟨n,a6⟩:=a6
   have f5:q'=q:=by
    rw[a6]at e1;injection e1 with e1 _ _
    injection e1 with e1
    injection e1 with e1
    exact e1.symm
   subst f5;have b9:(a.eval x).cells.toList.length=m:=by rw[hr.1,c8]
   have f4:xs.length=m:=by rw[<- d8.1,b9]
   have e5:(j+1)*k'<=es.length*k':=ybs _ g8;have g4:es.length*k'<=b2*k':=ybs _ d3;rw[Nat.add_mul,yfl]at e5;have a5:=run_storeCells_at (P:=P) q' (j*k'+c) e' (a.eval x).cells.toList 0 cur w e3 (by omega) a9;simp only[ybz]at a5;have hz:=zf8 hm w;have e9:(a.eval x).cells.size=m:=by rw[<- b9];simp
   have run:(execOp a.eval o).run P w=.ok .skip (w.setRow q' (splice cur.toList (j*k'+c) (a.eval x).cells.toList).toArray):=by
    simp only[execOp,hop,Instr.storeAt,g5,Instr.sureAddr,storeVar,Sem.run_bind,Sem.run_pure,Result.andThen_ok,hz,e9];rw[if_neg (by simp),a5];rfl
   unfold Oper.wp;rw[run,Oper.upon_skip];refine hK _ _ ⟨ρ,?_⟩;have b8:c9.length=es.length*k':=by rw[b7,zbx a4]
   have d1:el.length=k':=a4 el (zkH a7);have b0:zb3 u0=some q':=by rw[a6];rfl
   obtain⟨e7,e8⟩:=zmt d6 a0 b0;have d5:∀r,r≠q'->(w.setRow q' (splice cur.toList (j*k'+c) (a.eval x).cells.toList).toArray).heap[r]?=w.heap[r]?:=λr hr=>setRow_other w q' r _ hr
   have f3:=hs.turnA (w':=w.setRow q' (splice cur.toList (j*k'+c) (a.eval x).cells.toList).toArray) (b:=b) (q:=q') (k':=.grid e e' k' (gs.set i [.sl (es.set j (splice el c xs))]) none)
    (by unfold Owns;rw[c0.trans b3];exact fpk_inn a0 b0)
    ⟨rfl,rfl,rfl,by simp,λk _ hk=>setRow_other w q' k _ (λe=>hk (by rw[e]))⟩ (λr hr=>by unfold Owns;rw[c0.trans b3];exact hr) λhI=>by
     refine⟨d6,by rw[ybb];exact d4,us,by rw[ybb];exact b5,?_,b4,λi' u hu=>.inr ?_⟩
     ·rw[ybb];exact zg6 d0 λr hr=>d5 r λe=>e7 (by rw[<- e];exact hr)
     ·obtain⟨g1,f8,g2,g3⟩:=c6 i' u hu;refine⟨g1,?_⟩;by_cases b6:i'=i
      ·subst b6;rw[a0]at hu;injection hu with hu
       subst hu;refine⟨es.set j (splice el c xs),by rw[ya2 (by rw[<- d4];exact(zkI.1 a0).1)],splice c9 (j*k'+c) (a.eval x).cells.toList,h5,λy hy=>?_,by rw[ybb];exact d2,?_,?_,λu hu=>?_,λn u y hu hy=>?_⟩
       ·rcases ycv hy with hy|hy
        ·exact a4 y hy
        ·rw[hy,zdc _ _ _ (by omega),d1]
       ·rw[ybb];refine⟨by rw[zdc _ _ _ (by omega),b8],.inr ⟨q',b2,_,e1,yaf _,setRow_heap w q' cur _ e' _ e3,d3,d7,?_,?_⟩⟩
        ·rw[ycx,zdc _ _ _ (by simp;omega)];simpa using e6
        ·rw[ydt,zj0 _ _ _ _ (by omega) (by simp;omega),f9]
       ·rw[zni a4 a7 (by omega),zdc _ _ _ (by omega),zdc _ _ _ (by omega),b7]
       ·unfold splice at hu;rcases yam.1 hu with hu|hu
        ·rcases yam.1 hu with hu|hu
         ·exact c7 u (ybe hu)
         ·exact a9 u hu
        ·exact c7 u (ybp hu)
       ·rw[zni a4 a7 (by omega)]at hy;rcases zqc b7 (by rw[b9,f4]) (by omega) hu hy with⟨n',h3,h4⟩|⟨n',h3,h4⟩
        ·exact hI _ _ (g6 n' u y h3 h4)
        ·exact hI _ _ (d8.2 n' u y h3 h4)
      ·exact⟨f8,by rw[ya3 (λe=>b6 e.symm)];exact g2,g3.mono (λr hr=>d5 r λe=>e8 i' u b6 hu (by rw[<- e];exact hr)) hI⟩
   rw[zb6];exact f3.put (zio hd) (zc1 _)
  ·exact h.elim
 ·exact h.elim
def fpv_set{v x:Value}{inn:List Value}{i:Nat}(h:(fpv v inn).Nodup)(hx:∀q,zb3 x=some q->q∉fpv v inn):(fpv v (inn.set i x)).Nodup:=by
 have hm:∀u q,u=v\/u∈inn->zb3 u=some q->q∈fpv v inn:=λu q hu hq=>yb5.2 ⟨u,by rcases hu with rfl|hu<;>simp[*],hq⟩
 unfold fpv List.Nodup at h ⊢;rw[yfi,yco]at h ⊢;obtain⟨h1,h2⟩:=h;refine⟨λa' a3 c hc c' a0 e=>?_,?_⟩
 ·rcases ycv a3 with h3|h3
  ·exact h1 a' h3 c hc c' a0 e
  ·subst h3 e;exact hx c a0 (hm v c (.inl rfl) hc)
 ·rw[yb6]at h2 ⊢;intro j k hj hk a2 c hc c' a0 e;rw[ybb]at hj hk;rw[List.getElem_set]at hc a0;subst e;split at hc
  ·split at a0
   ·omega
   ·exact hx c hc (hm _ c (.inr (ya7 hk)) a0)
  ·split at a0
   ·exact hx c a0 (hm _ c (.inr (ya7 hj)) hc)
   ·exact h2 j k hj hk a2 c hc c a0 rfl
def splice_one{α:Type}{l:List α}{i:Nat}(h:i<l.length)(v:α):splice l i [v]=l.set i v:=by
 rw[List.set_eq_take_append_cons_drop,if_pos h];unfold splice;simp
def aStoreG_ok{t:TypeId}{p x:Operand}{b g k i j:Nat}(hop:o.op=.store t p x)(hp:evA σ p=.elt b g k i j)(hd:zct B.n o=true)(h:aStoreG P o σ K t p x b g k i j):∃fx,K fx/\Eff P B o fx.rd σ fx.wr:=by
 unfold aStoreG at h;split at h
 ·rename_i m r gr e e' k' gs hole hm hx a6;split at h
  ·rename_i e2 k2 es c7;obtain⟨a9,h'⟩:=h.ok;clear h;simp only[yax]at a9;obtain⟨⟨⟨⟨⟨c1,c2⟩,c3⟩,c4⟩,c5⟩,c6⟩:=a9;have c1:=yar c1;have c2:=yar c2;have c3:=yar c3;have c4:=yar c4;have c5:=yar c5;have a3:r≠b:=λe=>by rw[e]at c6;simp at c6
   subst c1 c2 c3 c4 c5;obtain⟨⟨hg,e7,g8,d6⟩,h⟩:=h'.out;have h:=h.out;refine⟨_,h,λσ' hag a w ⟨ρ,hs⟩ K' Q hK=>?_⟩;have d7:∀x_1∈(opd p++opd x)++(.gen b::.knd b::[.ign b,.gen r,.knd r]),σ' x_1=σ x_1:=λy hy=>hag y (by simpa using hy);obtain⟨d9,hg',a7,c0⟩:=zcy d7;have f6:σ'.ig b=σ.ig b:=zhc (c0 (.ign b) (by simp));have c8:σ'.gn r=σ.gn r:=zdj (c0 (.gen r) (by simp));have a8:σ'.kd r=σ.kd r:=zmf (c0 (.knd r) (by simp));have h1:=za4 hs p;have h2:=za4 hs x;rw[zal (zaw d9),hp]at h1;rw[zal (za7 d9),hx]at h2;obtain⟨us,d0,g4,b3,d5,b2,d3,e0⟩:=zs4 hs (a7.trans a6);have b4:=hs.obs r;rw[a8.trans c7]at b4;have d2:zg7 w (Imm B σ' ρ w) (ρ r) e2 k2 es:=b4;obtain⟨g9,_,_,_,r4,_⟩:=b4;have a0:(ρ r).oneCell'=true:=row_one r4;have f8:(ρ r).cells=#[ρ r]:=by revert a0;cases ρ r<;>simp[Value.oneCell',Value.cells]
   rcases d5.2 with⟨_,hn⟩|⟨q,f4,cur,e1,_,e3,f9,d1,b0,c9⟩
   ·omega
   have f5:a.eval p=.pointer (some ⟨q,i,none⟩):=by
    generalize a.eval p=v at h1;cases h1 with
    |elt _ _ _ _ _ _ _ _ hh =>
     obtain⟨b',z,n,c,f1,f2⟩:=hh (hg'.trans hg);rw[e1]at f1;injection f1 with f1
     injection f1 with f1
     injection f1 with f1 f3
     rw[f2,f1,<- f3,ycz,ybz,yal]
   have g7:a.eval x=ρ r:=by
    generalize a.eval x=v at h2;cases h2 with
    |osl _ _ _ _ _ hh=>exact hh (c8.trans e7)
   rw[ycz]at b0 c9;have a5:=run_storeCells_at (P:=P) q i e [ρ r] 0 cur w e3 (by simp;omega) (by simpa using a0);simp only[ybz]at a5;have hz:=zf8 hm w
   have run:(execOp a.eval o).run P w=.ok .skip (w.setRow q (splice cur.toList i [ρ r]).toArray):=by
    simp only[execOp,hop,Instr.storeAt,f5,g7,Instr.sureAddr,storeVar,Sem.run_bind,Sem.run_pure,Result.andThen_ok,hz,f8];rw[if_neg (by simp),a5];rfl
   unfold Oper.wp;rw[run,Oper.upon_skip]
   let ρ2:Ly:=⟨ρ.root,λo=>if o=b then(ρ.inn b).set i (ρ r) else ρ.inn o,λo=>if o=b then ρ.ig b+1 else ρ.ig o⟩
   let τ:St:=app σ' [(.knd r,.kd .dead),(.ign b,.n (σ.ig b+1)),(.knd b,.kd (.grid e e2 k2 (gs.set i [.sl es]) none))]
   have a2:∀o,τ.kd o=if o=b then .grid e e2 k2 (gs.set i [.sl es]) none else if o=r then .dead else σ'.kd o:=λo=>by
    show(app σ' _).kd o=_;simp only[zb6,zeq];rw[zei,kd_ign,zei]
   have d8:∀o,τ.gn o=σ'.gn o:=λo=>by
    show(app σ' _).gn o=_;simp only[zb6,zeq];rw[zfe,gn_ign,zfe]
   have e5:∀o,τ.ig o=if o=b then σ.ig b+1 else σ'.ig o:=λo=>by
    show(app σ' _).ig o=_;simp only[zb6,zeq];rw[zh7,ig_ign,zh7]
   have e9:∀t,τ.av t=σ'.av t:=λt=>by
    show(app σ' _).av t=_;simp only[zb6,zeq];rw[zg8,av_ign,zg8]
   have g6:∀o i,τ.ce o i=σ'.ce o i:=λo i=>by
    show(app σ' _).ce o i=_;simp only[zb6,zeq];rw[zh1,ce_ign,zh1]
   have b5:Owns σ' ρ b q:=.root (by unfold live;rw[a7.trans a6];exact λz=>by cases z) (by rw[e1];rfl);have b6:live σ' r:=zik (a8.trans c7);have g5:∀c,zb3 (ρ r)=some c->c≠q:=λc hc e=>a3 (hs.dis r b c (.root b6 hc) (e ▸ b5));have b9:∀c,c≠q->(w.setRow q (splice cur.toList i [ρ r]).toArray).heap[c]?=w.heap[c]?:=λc hc=>setRow_other w q c _ hc;have d4:∀(j:Nat) u,(ρ.inn b)[j]?=some u->∀c,zb3 u=some c->c≠q:=λj u hu c hc e=>(zmt d0 hu hc).1 (by rw[e1,e];rfl)
   obtain⟨e6,_⟩:=hs.step (σ':=τ) (ρ':=ρ2) (w':=w.setRow q (splice cur.toList i [ρ r]).toArray) (λo=>o=b\/o=r) e9
    (λo ho=>⟨by rw[a2,if_neg (λe=>ho (.inl e)),if_neg (λe=>ho (.inr e))],d8 o,g6 o,rfl,by simp only[ρ2];rw[if_neg (λe=>ho (.inl e))],by simp only[ρ2];rw[if_neg (λe=>ho (.inl e))]⟩)
    (λo ho=>by
     refine⟨⟨by rw[d8];exact yaq _,λ_=>rfl⟩,?_,λe=>?_⟩
     ·show ρ.ig o<=(if o=b then ρ.ig b+1 else ρ.ig o)
      split
      ·rename_i e;rw[e];omega
      ·exact yaq _
     ·have e:(if o=b then ρ.ig b+1 else ρ.ig o)=ρ.ig o:=e
      show(if o=b then(ρ.inn b).set i (ρ r) else ρ.inn o)=_
      split at e
      ·rename_i e2;rw[e2]at e;omega
      ·rename_i e2;rw[if_neg e2])
    (λo=>by
     show(if o=b then ρ.ig b+1 else ρ.ig o)=_
     rw[e5]
     split
     ·rw[hs.igs,f6]
     ·exact hs.igs o)
    ⟨rfl,rfl,rfl,by simp,λc hc hn=>b9 c λe=>hn ⟨b,.inl rfl,e ▸ b5⟩⟩
    (λo c ho hc=>by
     rcases ho with rfl|rfl
     ·unfold Owns at hc
      rw[a2,if_pos rfl]at hc
      have hc:c∈fpv (ρ o) (if o=o then(ρ.inn o).set i (ρ r) else ρ.inn o):=hc
      rw[if_pos rfl]at hc
      obtain⟨u,hu,b8⟩:=yb5.1 hc
      rcases yaw.1 hu with rfl|hu
      ·exact .inr ⟨o,.inl rfl,.root b5.lv b8⟩
      ·rcases ycv hu with hu|rfl
       ·obtain⟨n,hn⟩:=ych hu
        exact .inr ⟨o,.inl rfl,by unfold Owns;rw[a7.trans a6];exact fpk_inn hn b8⟩
       ·exact .inr ⟨r,.inr rfl,.root b6 b8⟩
     ·exact absurd (by rw[a2,if_neg a3,if_pos rfl]) hc.lv)
    (λo p c ho hp e4 f7=>by
     rcases ho with rfl|rfl
     ·rcases hp with rfl|rfl
      ·rfl
      ·exact absurd (by rw[a2,if_neg a3,if_pos rfl]) f7.lv
     ·exact absurd (by rw[a2,if_neg a3,if_pos rfl]) e4.lv)
    λhI _ o ho=>by
     by_cases b7:o=b
     ·subst b7;rw[a2,if_pos rfl];show zig _ _ (ρ o) (if o=o then(ρ.inn o).set i (ρ r) else ρ.inn o) _ _ _ _ _;rw[if_pos rfl];refine⟨fpv_set d0 λc hc hm=>?_,by rw[ybb,ybb];exact g4,us.set i (ρ r),by rw[ybb];exact b3,?_,λu hu=>?_,λi' u hu=>.inr ?_⟩
      ·exact a3 (hs.dis r o c (.root b6 hc) (by unfold Owns;rw[a7.trans a6];exact hm))
      ·rw[ybb];refine⟨by rw[ybb,d3,ycz],.inr ⟨q,f4,_,e1,yaf _,setRow_heap w q cur _ e _ e3,f9,d1,?_,?_⟩⟩
       ·rw[ycx,zdc _ _ _ (by simp;omega),ycz];simpa using b0
       ·rw[ydt,ycz,zj0 _ _ _ _ (by simp;omega) (by simp;omega),c9,splice_one (by omega)]
      ·rcases ycv hu with hu|rfl
       ·exact b2 u hu
       ·exact a0
      ·by_cases a4:i'=i
       ·subst a4;rw[ya2 (by omega)]at hu;injection hu with hu
        subst hu;exact⟨ya2 (by omega),es,ya2 (by omega),d2.mono (λc hc=>b9 c (g5 c hc)) hI⟩
       ·rw[ya3 (λe=>a4 e.symm)]at hu
        obtain⟨g1,e8,g2,g3⟩:=(e0 i' u hu).resolve_left λhh=>by
         rw[hh.1]at d6;exact a4 d6
        exact⟨by rw[ya3 (λe=>a4 e.symm)];exact g1,e8,by rw[ya3 (λe=>a4 e.symm)];exact g2,g3.mono (λc hc=>b9 c (d4 i' u hu c hc)) hI⟩
     ·rw[a2,if_neg b7,if_pos (ho.resolve_left b7)];trivial
   refine hK _ _ ⟨ρ2,?_⟩;show SatR B (app σ' ([(.knd r,.kd .dead),(.ign b,.n (σ.ig b+1)),(.knd b,.kd (.grid e e2 k2 (gs.set i [.sl es]) none))]++wrT o.dst (.im (.val undef)))) _ _ _;rw[zaz];exact e6.put (zio hd) (zc1 _)
  ·exact h.elim
 ·exact h.elim
def SatR.takeout{a:Act}{w:World}{ρ:Ly}(hs:SatR B σ a w ρ){b d i k:Nat}{e e':TypeId}{gs es:List (List IV)}{u:Value}(hkd:σ.kd b=.grid e e' k gs none)(hdb:d≠b)(hu:(ρ.inn b)[i]?=some u)(hes:gs[i]?=some [.sl es]) :
  let ρ2:Ly:=⟨λo=>if o=d then u else ρ o,λo=>if o=b then(ρ.inn b).set i undef else ρ.inn o,λo=>if o=b then ρ.ig b+1 else ρ.ig o⟩
  SatR B (app σ (zgd σ b d i e e' k gs es)) a w ρ2/\∀v x,RepI w (Imm B σ ρ w) v x->RepI w (Imm B (app σ (zgd σ b d i e e' k gs es)) ρ2 w) v x:=by
 intro ρ2;obtain⟨us,b3,d1,b2,b9,a9,d6,b6⟩:=zfy hs hkd;obtain⟨d7,a8,a6,c0⟩:=b6 i u hu;have d3:a8=es:=by rw[hes]at a6;simpa using a6.symm
 subst d3
 let τ:St:=app σ (zgd σ b d i e e' k gs a8)
 have a5:∀o,τ.kd o=if o=d then .row e' k a8 else if o=b then .grid e e' k gs (some i) else σ.kd o:=λo=>by
  show(app σ _).kd o=_;unfold zgd;simp only[zb6,zeq];rw[zei,kd_gen,zei,kd_ign]
 have b4:∀o,τ.gn o=if o=d then σ.gn d+1 else σ.gn o:=λo=>by
  show(app σ _).gn o=_;unfold zgd;simp only[zb6,zeq];rw[zfe,gn_gen,zfe,gn_ign]
 have c6:∀o,τ.ig o=if o=b then σ.ig b+1 else σ.ig o:=λo=>by
  show(app σ _).ig o=_;unfold zgd;simp only[zb6,zeq];rw[zh7,ig_gen,zh7,ig_ign]
 have d0:∀t,τ.av t=σ.av t:=λt=>by
  show(app σ _).av t=_;unfold zgd;simp only[zb6,zeq];rw[zg8,av_gen,zg8,av_ign]
 have d2:∀o j,τ.ce o j=σ.ce o j:=λo j=>by
  show(app σ _).ce o j=_;unfold zgd;simp only[zb6,zeq];rw[zh1,ce_gen,zh1,ce_ign]
 have a7:zb3 undef=none:=rfl
 have b0:∀c,c∈fpv (ρ b) ((ρ.inn b).set i undef)->c∈fpv (ρ b) (ρ.inn b)/\zb3 u≠some c:=λc hc=>by
  obtain⟨x,hx,a2⟩:=yb5.1 hc;rcases yaw.1 hx with rfl|hx
  ·exact⟨yb5.2 ⟨_,ybl ..,a2⟩,λe=>(zmt b3 hu e).1 a2⟩
  ·obtain⟨j,hj⟩:=ych hx;rw[ydk]at hj;split at hj
   ·split at hj
    ·injection hj with hj
     rw[<- hj,a7]at a2;cases a2
    ·cases hj
   ·rename_i d5;exact⟨yb5.2 ⟨x,yau _ (zkH hj),a2⟩,λe=>(zmt b3 hu e).2 j x (λe=>d5 e.symm) hj a2⟩
 have c7:∀c,c∈fpv (ρ b) (ρ.inn b)->Owns σ ρ b c:=λc hc=>by unfold Owns;rw[hkd];exact hc
 have a4:∀c,Owns τ ρ2 b c->c∈fpv (ρ b) ((ρ.inn b).set i undef):=λc hc=>by
  unfold Owns at hc;rw[a5,if_neg hdb.symm,if_pos rfl]at hc;have hc:c∈fpv (if b=d then u else ρ b) (if b=b then(ρ.inn b).set i undef else ρ.inn b):=hc
  rwa [if_neg hdb.symm,if_pos rfl]at hc
 have a3:∀c,Owns τ ρ2 d c->zb3 u=some c:=λc hc=>by
  unfold Owns at hc;rw[a5,if_pos rfl]at hc;have hc:c∈(zb3 (if d=d then u else ρ d)).toList:=hc;rw[if_pos rfl]at hc;simpa using hc
 obtain⟨c8,hI,_⟩:=hs.step (σ':=τ) (ρ':=ρ2) (w':=w) (λo=>o=b\/o=d) d0
  (λo ho=>⟨by rw[a5,if_neg (λe=>ho (.inr e)),if_neg (λe=>ho (.inl e))],by rw[b4,if_neg (λe=>ho (.inr e))],d2 o,by simp only[ρ2];rw[if_neg (λe=>ho (.inr e))],by simp only[ρ2];rw[if_neg (λe=>ho (.inl e))],by simp only[ρ2];rw[if_neg (λe=>ho (.inl e))]⟩)
  (λo ho=>by
   refine⟨⟨?_,λe=>?_⟩,?_,λe=>?_⟩
   ·rw[b4];split
    ·rename_i e;subst e;omega
    ·exact yaq _
   ·rw[b4]at e
    by_cases a0:o=d
    ·subst a0;rw[if_pos rfl]at e;omega
    ·simp only[ρ2];rw[if_neg a0]
   ·show ρ.ig o<=(if o=b then ρ.ig b+1 else ρ.ig o)
    split
    ·rename_i e;rw[e];omega
    ·exact yaq _
   ·have e:(if o=b then ρ.ig b+1 else ρ.ig o)=ρ.ig o:=e
    show(if o=b then(ρ.inn b).set i undef else ρ.inn o)=_
    split at e
    ·rename_i e2;rw[e2]at e;omega
    ·rename_i e2;rw[if_neg e2])
  (λo=>by
   show(if o=b then ρ.ig b+1 else ρ.ig o)=_
   rw[c6]
   split
   ·rw[hs.igs]
   ·exact hs.igs o)
  (Belo.refl _ _ _)
  (λo c ho hc=>by
   rcases ho with rfl|rfl
   ·exact .inr ⟨o,.inl rfl,c7 c (b0 c (a4 c hc)).1⟩
   ·exact .inr ⟨b,.inl rfl,by unfold Owns;rw[hkd];exact fpk_inn hu (a3 c hc)⟩)
  (λo p c ho hp b7 b5=>by
   rcases ho with rfl|rfl
   ·rcases hp with rfl|rfl
    ·rfl
    ·exact absurd (a3 c b5) (b0 c (a4 c b7)).2
   ·rcases hp with rfl|rfl
    ·exact absurd (a3 c b7) (b0 c (a4 c b5)).2
    ·rfl)
  λhI _ o ho=>by
   by_cases a0:o=d
   ·subst a0;rw[a5,if_pos rfl];show zg7 _ _ (if o=o then u else ρ o) _ _ _;rw[if_pos rfl];exact c0.mono (λ_ _=>rfl) hI
   ·have b8:=ho.resolve_right a0;subst b8;rw[a5,if_neg a0,if_pos rfl];show zig _ _ (if o=d then u else ρ o) (if o=o then(ρ.inn o).set i undef else ρ.inn o) _ _ _ _ _;rw[if_neg a0,if_pos rfl];refine⟨fpv_set b3 (λc hc=>by rw[a7]at hc;cases hc),by rw[ybb];exact d1,us,b2,b9,a9,λj x hx=>?_⟩;rw[ydk]at hx;split at hx
    ·rename_i d4;split at hx
     ·injection hx with hx
      exact .inl ⟨by rw[d4],hx.symm⟩
     ·cases hx
    ·obtain⟨g1,c9,g2,g3⟩:=b6 j x hx;exact .inr ⟨g1,c9,g2,g3.mono (λ_ _=>rfl) hI⟩
 exact⟨c8,hI⟩
def aAppendS_ok{c:Call}{t:TypeId}{x y:Operand}{b g i:Nat}(hop:o.op=.call c)(hc:c.callee=.builtin .append)(hargs:c.args=#[x,y])(hts:c.argTypes=#[t,t])(hx:evA σ x=.sub b g i)(hd:zct B.n o=true)(h:aAppendS P o σ K t x y b g i):∃fx,K fx/\Eff P B o fx.rd σ fx.wr:=by
 unfold aAppendS at h;split at h
 ·rename_i d et e e' k' gs a9 d8 d4;have c0:=zdr d8;split at h
  ·rename_i k by_ new hk d6 hy
   have b6:∀(a:Act) w v' w',(Builtin.append_ #[t,t] o.type #[a.eval x,a.eval y]).run P w=.ok v' w'->(execOp a.eval o).run P w=.ok (.value v') w':=λa w v' w' hv=>by
    simp[execOp,hop,resolve,hc,hargs,hts,invoke,builtin,hv]
   obtain⟨a6,h'⟩:=h.ok;clear h;simp only[yax]at a6;obtain⟨⟨⟨⟨c1,c2⟩,c3⟩,c4⟩,c5⟩:=a6;have d0:=zd5 c1;have b5:e'=et:=yar c2;have e7:k'=k:=yar c3;have e5:d≠b:=λe=>by rw[e]at c5;simp at c5
   subst b5 e7;obtain⟨it,z,hi,hz,b2,a4,f5⟩:=zhh c4 hk d6;obtain⟨es,⟨c9,d3,a2,a3⟩,h⟩:=h';have h:=h.out;refine⟨_,h,λσ' hag a w ⟨ρ,hs⟩ K' Q hK=>?_⟩;have ha:∀z∈opd x++opd y,σ' z=σ z:=zaw hag;have b0:σ'.ig b=σ.ig b:=zhc (za7 hag (.ign b) (by simp));have e2:σ'.kd b=σ.kd b:=zmf (za7 hag (.knd b) (by simp));have hg':σ'.gn d=σ.gn d:=zdj (za7 hag (.gen d) (by simp));have h1:=za4 hs x;have h2:=za4 hs y;rw[zal (zaw ha),hx]at h1
   have e0:fz σ' (evA σ' y)=some (.sl new,[]):=by
    rw[zal (za7 ha)];exact zkm hy λl hl=>by simp[frd]at hl
   have h2:=fz_ok hs (bs':=[]) (by simp) h2 e0 (by simp)
   have f3:(ρ.inn b)[i]?=some (a.eval x):=by
    generalize a.eval x=v at h1;cases h1 with
    |sub _ _ _ _ _ _ hh=>exact hh ((hs.igs b).trans (b0.trans c9))
   obtain⟨c7,e1⟩:=hs.takeout (d:=d) (e2.trans d4) e5 f3 d3;have e4:=e1 _ _ h2;obtain⟨A,cp,news,hv,b7,c6,e8,a5,b9⟩:=zp8 e4 a2;have e9:=zbx a2
   have a7:(app σ' (zgd σ' b d i e e' k' gs es)).kd d=.row e' k' es:=by
    unfold zgd;simp only[zb6,zeq];rw[zei,if_pos rfl]
   have ho:=c7.obs d;rw[a7]at ho;obtain⟨us,_,d2,_,a0,e6,e3,d9⟩:=ho;simp only[if_pos]at a0;obtain⟨v',w',c8,a8,b3,d1⟩:=zfj (P:=P) (w:=w) 0 t o.type e' it z k' by_ c0 hi hz b2 a4 f5 d0 (a.eval x) es.length us a0 A new.length cp news (by rw[b7,e9]) a5 c6 (by unfold maxLen;unfold za5 at a3;omega) a3.1 (yaf _);unfold Oper.wp;rw[b6 a w v' w' (by rw[hv];exact c8),Oper.upon_value,a9];have d5:=c7.rowed (used:=some d) (d:=d) (λq hq=>⟨d,rfl,.root (zik a7) (by simp only[if_pos];exact hq)⟩) d0 d2 a2 a3.2 a0 a8 b3 d1 e6 b7 e3 c6 d9 b9
   have b8:(app σ' (zgd σ' b d i e e' k' gs es)).gn d=σ.gn d+1:=by
    unfold zgd;simp only[zb6,zeq];rw[zfe,gn_gen,if_pos rfl,hg']
   have d7:zgd σ' b d i e e' k' gs es=zgd σ b d i e e' k' gs es:=by unfold zgd;rw[b0,hg']
   have f4:app σ' (zgd σ b d i e e' k' gs es++((.knd d,.kd .dead)::([(.gen d,.n (σ.gn d+2)),(.knd d,.kd (.row e' k' (es++new)))]++[(.tmp d,.av (.osl d (σ.gn d+2)))])))=app (zeo (app σ' (zgd σ' b d i e e' k' gs es)) (some d) d (.row e' k' (es++new)) []) [(.tmp d,.av (.osl d ((app σ' (zgd σ' b d i e e' k' gs es)).gn d+1)))]:=by
    rw[zaz,<- d7,zb6,zaz];unfold zeo;rw[b8];rfl
   have b4:=zgx d5 (row_one a8) (zc0 hd a9);rw[<- f4]at b4;exact hK _ _ ⟨_,b4⟩
  ·exact h.elim
 ·exact h.elim
def row_src{w:World}{S:Nat->Prop}{v:Value}{e:TypeId}{es:List (List IV)}{k:Nat}(h:zg7 w S v e k es) :
  ∃(A:Option Addr) (c:Nat) (us:List Value),v=.slice A es.length c/\us.length=es.flatten.length/\(∀u∈us,u.oneCell'=true)/\es.length<=17592186044416 /\
   (0<es.length->∃b q,A=some ⟨b,q,none⟩/\∀(j:Nat) u,us[j]?=some u->w.cell? ⟨b,q+j,none⟩=some u)/\∀(i:Nat) u x,us[i]?=some u->es.flatten[i]?=some x->RepI w S u x:=by
 rcases ycb es.length with h0|h0
 ·obtain⟨us,_,_,h3,h4,h5,h6,h7⟩:=h;have he:es=[]:=yaz h0;subst he;rcases h4.2 with⟨e1,_⟩|⟨q,a0,cur,e1,_⟩
  ·exact⟨none,0,us,e1,h5,h6,h3,λh=>absurd h (by simp),h7⟩
  ·exact⟨_,a0,us,e1,h5,h6,h3,λh=>absurd h (by simp),h7⟩
 ·have h':=h;obtain⟨_,_,_,h3,_⟩:=h';obtain⟨q,a0,cur,us,e1,_,_,_,_,_,_,_,_,e7,e8,e9,a2⟩:=h.form h0;exact⟨_,a0,us,e1,e7,e8,h3,λ_=>⟨q,0,rfl,λj u hu=>by rw[yal];exact zpz a2 e1 hu⟩,e9⟩
def aAppendT_ok{c:Call}{t:TypeId}{x y:Operand}{b g i b2 g2 j:Nat}(hop:o.op=.call c)(hc:c.callee=.builtin .append)(hargs:c.args=#[x,y])(hts:c.argTypes=#[t,t])(hx:evA σ x=.sub b g i)(hy0:evA σ y=.sub b2 g2 j)(hd:zct B.n o=true)(h:aAppendT P o σ K t x y b g i b2 g2 j):∃fx,K fx/\Eff P B o fx.rd σ fx.wr:=by
 unfold aAppendT at h;split at h
 ·rename_i d et e e' k' gs b4 e6 b9;have d2:=zdr e6;split at h
  ·rename_i k by_ hk e4
   have c7:∀(a:Act) w v' w',(Builtin.append_ #[t,t] o.type #[a.eval x,a.eval y]).run P w=.ok v' w'->(execOp a.eval o).run P w=.ok (.value v') w':=λa w v' w' hv=>by
    simp[execOp,hop,resolve,hc,hargs,hts,invoke,builtin,hv]
   obtain⟨a8,h'⟩:=h.ok;clear h;simp only[yax]at a8;obtain⟨⟨⟨⟨⟨c1,c2⟩,c3⟩,c4⟩,c5⟩,c6⟩:=a8;have g1:b=b2:=(yar c6).symm;have d8:=zd5 c1;have c0:e'=et:=yar c2;have f7:k'=k:=yar c3;have f5:d≠b:=λe=>by rw[e]at c5;simp at c5
   subst c0 f7 g1;obtain⟨it,z,hi,hz,b5,a5,g5⟩:=zhh c4 hk e4;obtain⟨es,new,⟨d7,d4,g7,e2,e8,a3⟩,h⟩:=h';have h:=h.out;refine⟨_,h,λσ' hag a w ⟨ρ,hs⟩ K' Q hK=>?_⟩;have ha:∀z∈opd x++opd y,σ' z=σ z:=zaw hag;have a4:σ'.ig b=σ.ig b:=zhc (za7 hag (.ign b) (by simp));have d1:σ'.kd b=σ.kd b:=zmf (za7 hag (.knd b) (by simp));have hg':σ'.gn d=σ.gn d:=zdj (za7 hag (.gen d) (by simp));have h1:=za4 hs x;have h2:=za4 hs y;rw[zal (zaw ha),hx]at h1;rw[zal (za7 ha),hy0]at h2
   have g3:(ρ.inn b)[i]?=some (a.eval x):=by
    generalize a.eval x=v at h1;cases h1 with
    |sub _ _ _ _ _ _ hh=>exact hh ((hs.igs b).trans (a4.trans d7))
   have f3:(ρ.inn b)[j]?=some (a.eval y):=by
    generalize a.eval y=v at h2;cases h2 with
    |sub _ _ _ _ _ _ hh=>exact hh ((hs.igs b).trans (a4.trans d4))
   obtain⟨_,_,_,_,_,_,_,e1⟩:=zfy hs (d1.trans b9);obtain⟨_,g6,a0,a9⟩:=e1 j _ f3;rw[e8]at a0;injection a0 with a0
   injection a0 with a0 _
   injection a0 with a0
   subst a0
   have a7:∀e∈new,e.length=k':=by
    obtain⟨_,_,q,_⟩:=a9;exact q
   obtain⟨d5,e9⟩:=hs.takeout (d:=d) (d1.trans b9) f5 g3 e2;obtain⟨A,cp,news,hv,c8,d3,f8,a6,b6⟩:=row_src a9;have d0:∀(i:Nat) u x,news[i]?=some u->new.flatten[i]?=some x->RepI w _ u x:=λi u x h1 h2=>e9 _ _ (b6 i u x h1 h2);have f9:=zbx a7
   have b0:(app σ' (zgd σ' b d i e e' k' gs es)).kd d=.row e' k' es:=by
    unfold zgd;simp only[zb6,zeq];rw[zei,if_pos rfl]
   have ho:=d5.obs d;rw[b0]at ho;obtain⟨us,_,e0,_,a2,f6,f4,e7⟩:=ho;simp only[if_pos]at a2;obtain⟨v',w',d6,b3,b7,d9⟩:=zfj (P:=P) (w:=w) 0 t o.type e' it z k' by_ d2 hi hz b5 a5 g5 d8 (a.eval x) es.length us a2 A new.length cp news (by rw[c8,f9]) a6 d3 (by unfold maxLen;unfold za5 at a3;omega) a3.1 (yaf _);unfold Oper.wp;rw[c7 a w v' w' (by rw[hv];exact d6),Oper.upon_value,b4];have e3:=d5.rowed (used:=some d) (d:=d) (λq hq=>⟨d,rfl,.root (zik b0) (by simp only[if_pos];exact hq)⟩) d8 e0 a7 a3.2 a2 b3 b7 d9 f6 c8 f4 d3 e7 d0
   have c9:(app σ' (zgd σ' b d i e e' k' gs es)).gn d=σ.gn d+1:=by
    unfold zgd;simp only[zb6,zeq];rw[zfe,gn_gen,if_pos rfl,hg']
   have e5:zgd σ' b d i e e' k' gs es=zgd σ b d i e e' k' gs es:=by unfold zgd;rw[a4,hg']
   have g4:app σ' (zgd σ b d i e e' k' gs es++((.knd d,.kd .dead)::([(.gen d,.n (σ.gn d+2)),(.knd d,.kd (.row e' k' (es++new)))]++[(.tmp d,.av (.osl d (σ.gn d+2)))])))=app (zeo (app σ' (zgd σ' b d i e e' k' gs es)) (some d) d (.row e' k' (es++new)) []) [(.tmp d,.av (.osl d ((app σ' (zgd σ' b d i e e' k' gs es)).gn d+1)))]:=by
    rw[zaz,<- e5,zb6,zaz];unfold zeo;rw[c9];rfl
   have b8:=zgx e3 (row_one b3) (zc0 hd b4);rw[<- g4]at b8;exact hK _ _ ⟨_,b8⟩
  ·exact h.elim
 ·exact h.elim
def aMoves_ok{own:List Nat}{x:Operand}(hop:o.op=.move x\/o.op=.assign x)(hd:zct B.n o=true)(h:aMoves own o σ K x):∃fx,K fx/\Eff P B o fx.rd σ fx.wr:=by
 have a2:=aMove_ok (P:=P) (B:=B) (σ:=σ) hop hd;unfold aMoves at h;split at h
 ·rename_i d a0;split at h
  ·split at h
   ·rename_i y bs a7;obtain⟨a4,h⟩:=h.out;refine⟨_,h,λσ' hag a w ⟨ρ,hs⟩ K' Q hK=>?_⟩;have a3:zc5 σ σ' bs:=za7 hag
    have a6:∀p∈bs,σ'.gn p.1=p.2:=λp hp=>by
     rw[<- a4 p hp];exact zdj (a3 (.gen p.1) (by unfold frd;exact ycf.2 ⟨p,hp,by simp⟩))
    have h1:=za4 hs x;have hf:=fz_ok hs (bs':=bs) a6 h1 (by rw[zal (zaw hag)];exact zkm a7 a3) λ_ h=>h;obtain⟨a5,_⟩:=hs.kills bs;have run:(execOp a.eval o).run P w=.ok (.value (a.eval x)) w:=by rcases hop with e|e<;>simp[execOp,e]
    unfold Oper.wp;rw[run,Oper.upon_value,a0];refine hK _ _ ⟨ρ,?_⟩;show SatR B (app σ' (fwr bs++[(.tmp d,.av (.im y))])) _ _ _;rw[zaz];exact a5.put (d:=some d) (λt e=>by injection e with e;subst e;exact zc0 hd a0) (.im _ _ hf)
   ·exact h.elim
  ·exact⟨_,h,by rw[a0]at a2;exact a2⟩
 ·rename_i a0;exact⟨_,h,by rw[a0]at a2;exact a2⟩
def zpf{a:Act}{w:World}{ρ:Ly}{S:Nat->Prop}{γ:Nat->Nat}{d:Nat}{us vs:List Value}:∀(fs:List Field) (i:Nat) (xs ys:List AV) (r:Bool),fs.length=xs.length->intFs P i fs=true->eqCs xs ys=some r ->
  (∀(j:Nat) x,xs[j]?=some x->∃u,us[i+j]?=some u/\RepA w S ρ γ u x)->(∀(j:Nat) x,ys[j]?=some x->∃u,vs[i+j]?=some u/\RepA w S ρ γ u x)->(Op.eqFields (d+1) us.toArray vs.toArray fs).run P w=.ok r w
 |[],i,xs,ys,r,hl,_,he,_,_=>by
  have hx:xs=[]:=yaz hl.symm;subst hx;cases ys with
  |nil =>
   simp only[eqCs,zkF]at he;subst he;simp[Op.eqFields]
  |cons y ys=>simp[eqCs]at he
 |f::fs,i,[],ys,r,hl,_,_,_,_=>by simp at hl
 |f::fs,i,x::xs,[],r,_,_,he,_,_=>by simp[eqCs]at he
 |f::fs,i,x::xs,y::ys,r,hl,hF,he,hx,hy=>by
  simp only[eqCs]at he;split at he
  ·rename_i k n k' m r' ex ey er;split at he
   ·rename_i hk;have hk:=of_decide_eq_true hk;subst hk;injection he with he
    subst he;simp only[intFs,intF,yax,decide_eq_true_eq]at hF;obtain⟨⟨⟨hname,hoff⟩,hty⟩,hF⟩:=hF;have hoff:=yar hoff
    obtain⟨k0,hu⟩:∃k0,P.underlying f.type=some (.int k0):=by
     split at hty
     ·exact⟨_,by assumption⟩
     ·cases hty
    have hp:P.plainKey f.type=true:=by unfold Program.plainKey;rw[hu]
    obtain⟨u,a2,a3⟩:=hx 0 x rfl;obtain⟨v,a0,a4⟩:=hy 0 y rfl;rw[ybz]at a2 a0;have e1:=zci ex a3;have e2:=zci ey a4;subst e1 e2;have p1:=run_part_plain (P:=P) w hp (xs:=us.toArray) (off:=f.offset) (v:=.int k n) (by rw[hoff];simpa using a2);have p2:=run_part_plain (P:=P) w hp (xs:=vs.toArray) (off:=f.offset) (v:=.int k m) (by rw[hoff];simpa using a0);have p3:=run_equalIn_int (P:=P) w d f.type k k0 n m hu
    have ih:=zpf (a:=a) (d:=d) fs (i+1) xs ys r' (by simpa using hl) hF er (λj z hz=>by
     have:=hx (j+1) z (by simpa using hz)
     rwa [show i+(j+1)=i+1+j by omega]at this) (λj z hz=>by
     have:=hy (j+1) z (by simpa using hz)
     rwa [show i+(j+1)=i+1+j by omega]at this)
    simp only[Op.eqFields,if_pos hname,Sem.run_bind,p1,p2,p3,Result.andThen_ok];by_cases h:n=m
    ·subst h;simp[ih]
    ·have:(n==m)=false:=by simpa using h
     simp[this,h]
   ·cases he
  ·cases he
def aBinS_ok{op:BinOp}{t z:TypeId}{x y:Operand}(hop:o.op=.binOp op t x y z)(hd:zct B.n o=true)(h:aBinS P o σ K op t x y):∃fx,K fx/\Eff P B o fx.rd σ fx.wr:=by
 unfold aBinS at h;split at h
 ·rename_i xs ys hx hy;split at h
  ·rename_i r hr;obtain⟨hT,h⟩:=h.out
   obtain⟨fs,hu,a5,hF,a6,a3⟩:∃fs,P.underlying t=some (.struct fs)/\fs.toList.length=xs.length/\intFs P 0 fs.toList=true/\P.stoodInHeld t=false/\P.eqGuardType P.depth t=false:=by
    unfold eqT at hT;split at hT
    ·rename_i fs hu;simp only[yax,ydy]at hT;exact⟨fs,hu,yar hT.1.1.1,hT.1.1.2,hT.1.2,hT.2⟩
    ·cases hT
   have a4:P.fieldsOf t=fs:=by unfold Program.fieldsOf;rw[hu]
   have a2:∀σ' (a:Act) w ρ,SatR B σ' a w ρ->(∀l∈opd x++opd y,σ' l=σ l)->∃us vs:List Value,a.eval x=.agg us.toArray/\a.eval y=.agg vs.toArray/\(Op.equalIn 10000 t (.agg us.toArray) (.agg vs.toArray)).run P w=.ok r w:=λσ' a w ρ hs hag=>by
    have g1:=za4 hs x;have g2:=za4 hs y;rw[zal (zaw hag)]at g1;rw[zal (za7 hag)]at g2;obtain⟨us,e1,r1,_⟩:=zk3 hx g1;obtain⟨vs,e2,r2,_⟩:=zk3 hy g2;refine⟨us,vs,e1,e2,?_⟩;rw[run_equalIn_agg w 9999 t _ _ (by rw[a4];exact hu) a6,a4]
    have get:∀{us:List Value} {xs:List AV},Reps w (Imm B σ' ρ w) ρ σ'.gn us xs->∀(j:Nat) x,xs[j]?=some x->∃u,us[0+j]?=some u/\RepA w (Imm B σ' ρ w) ρ σ'.gn u x:=λ{us xs} hr j x hx=>by
     have hj:=(zkI.1 hx).1;rw[<- hr.1]at hj;exact⟨us[j],by rw[yal];exact zkM hj,hr.2 j _ x (zkM hj) hx⟩
    exact zpf (a:=a) (d:=9998) fs.toList 0 xs ys r a5 hF hr (get r1) (get r2)
   split at h
   ·have h:=h.out;refine⟨_,h,Eff.pure hd λσ' hag a w ρ hs=>⟨.bool r,?_,zc1 _⟩⟩;obtain⟨us,vs,e1,e2,a0⟩:=a2 σ' a w ρ hs hag;simp only[execOp,hop,e1,e2,Sem.run_bind,run_eqGuard_agg w _ t x y _ _ a3,Result.andThen_ok,run_eql_struct,a0,Sem.run_pure]
   ·have h:=h.out;refine⟨_,h,Eff.pure hd λσ' hag a w ρ hs=>⟨.bool (!r),?_,zc1 _⟩⟩;obtain⟨us,vs,e1,e2,a0⟩:=a2 σ' a w ρ hs hag;simp only[execOp,hop,e1,e2,Sem.run_bind,run_eqGuard_agg w _ t x y _ _ a3,Result.andThen_ok,run_neq_struct,a0,Sem.run_pure]
   ·exact h.elim
  ·exact h.elim
 ·exact h.elim
end
end
section
open Go.RowKit
section
variable {P:Program}{B:Base}{o:Oper}{σ:St}{K:Fx->Prop}
def zo3{σ':St}{a:Act}{w:World}{ρ:Ly}(h:SatR B σ' a w ρ){bs':yad}(hgk:∀p∈bs',σ'.gn p.1=p.2):∀{l:List (Nat×Operand)} {i:Nat} {vs:List IV} {bs:yad},zqk σ i l=some (vs,bs)->(∀y∈opdL (l.map (·.2)),σ' y=σ y)->zc5 σ σ' bs->(∀b∈bs,b∈bs') ->
  (l.map λp=>(p.1,a.eval p.2))=(((l.map λp=>a.eval p.2).zipIdx i).map λx=>(x.2,x.1))/\zic w (Imm B (app σ' (fwr bs')) ρ w) (l.map λp=>a.eval p.2) vs
 |[],i,vs,bs,e,_,_,_=>by
  simp only[zqk,zkF,zkG]at e;rw[<- e.1];exact⟨rfl,rfl,λi u x hu=>by simp at hu⟩
 |(j,x)::l,i,vs,bs,e,hag,hsame,hs=>by
  simp only[zqk]at e;split at e
  ·rename_i hij;subst hij;split at e
   ·rename_i v b1 vs1 bs1 h1 h2;simp only[zkF,zkG]at e;obtain⟨rfl,rfl⟩:=e;have hx:evA σ' x=evA σ x:=zal λy hy=>hag y (by simp only[yav,opdL,ybn];exact yan _ hy);have r1:=fz_ok h hgk (za4 h x) (x:=v) (bs:=b1) (by rw[hx];exact zkm h1 hsame.left) λb hb=>hs b (yan _ hb);obtain⟨r2,r3⟩:=zo3 h hgk h2 (λy hy=>hag y (by simp only[yav,opdL,ybn];exact yai _ hy)) hsame.right λb hb=>hs b (yai _ hb);refine⟨by rw[yav,r2];rfl,by simpa using r3.1,λn u y hu hy=>?_⟩;cases n with
    |zero=>simp at hu hy;rw[<- hu,<- hy];exact r1
    |succ n=>exact r3.2 n u y (by simpa using hu) (by simpa using hy)
   ·cases e
  ·cases e
def cellsI_rep{w:World}{S:Nat->Prop}{v:Value}{x:IV}(h:RepI w S v x)(h0:0<(zfr x).length):zic w S v.cells.toList (zfr x)/\∀u∈v.cells.toList,u.oneCell'=true:=by
 have one:v.oneCell'=true->zfr x=[x]->zic w S v.cells.toList (zfr x)/\∀u∈v.cells.toList,u.oneCell'=true:=λh1 hx=>by
  have:v.cells=#[v]:=by revert h1;cases v<;>simp[Value.oneCell',Value.cells]
  rw[this,hx];refine⟨⟨rfl,λi u y hu hy=>?_⟩,λu hu=>by simp at hu;rw[hu];exact h1⟩;cases i with
  |zero=>simp at hu hy;rw[<- hu,<- hy];exact h
  |succ i=>simp at hu
 have h':=h;cases h' with
 |val _ =>
  simp only[zfr]at h0;split at h0
  ·rename_i h1;exact one h1 (by simp only[zfr];rw[if_pos h1])
  ·simp at h0
 |any _=>simp[zfr]at h0
 |ex _ h1=>exact one h1 rfl
 |emp _ _=>exact one rfl rfl
 |sl _ _ _ _ _ _ _ _ _ _ _ _ _ _ _ _=>exact one rfl rfl
 |agg us cs hl h1 hr=>exact⟨⟨by simpa[Value.cells,zfr]using hl,λi u y hu hy=>hr i u y (by simpa[Value.cells]using hu) hy⟩,λu hu=>h1 u (by simpa[Value.cells]using hu)⟩
 |ref _ _ _ _ _ _ _ _ _=>exact one rfl rfl
 |fn _ _ _ _ _=>exact one rfl rfl
 |nsl _ _ _ _ _=>exact one rfl rfl
def flat_reps{w:World}{S:Nat->Prop}{k:Nat}(hk0:0<k):∀{us:List Value} {vs:List IV},zic w S us vs->(∀v∈vs,(zfr v).length=k) ->
  (∀u∈us,u.cells.size=k)/\zic w S (us.flatMap λu=>u.cells.toList) (vs.map zfr).flatten/\∀u∈us.flatMap λu=>u.cells.toList,u.oneCell'=true
 |[],[],_,_=>⟨by simp,⟨rfl,by simp⟩,by simp⟩
 |u::us,v::vs,h,hk=>by
  obtain⟨r1,r2⟩:=cellsI_rep (h.2 0 u v rfl rfl) (by rw[hk v (by simp)];exact hk0);obtain⟨r3,r4,r5⟩:=flat_reps hk0 (us:=us) (vs:=vs) ⟨by simpa using h.1,λi u x hu hx=>h.2 (i+1) u x (by simpa using hu) (by simpa using hx)⟩ λv hv=>hk v (by simp[hv]);have hl:u.cells.toList.length=k:=by rw[r1.1,hk v (by simp)]
  refine⟨λx hx=>?_,⟨by simp only[ybn,yav,ybu,zkJ,r1.1,r4.1],λi x y hx hy=>?_⟩,λx hx=>?_⟩
  ·rcases yaw.1 hx with rfl|hx
   ·simpa using hl
   ·exact r3 x hx
  ·rw[ybn,ya1]at hx;rw[yav,ybu,ya1]at hy;rw[r1.1]at hx;split at hx
   ·rename_i a0;rw[if_pos a0]at hy;exact r1.2 i x y hx hy
   ·rename_i a0;rw[if_neg a0]at hy;exact r4.2 _ x y hx hy
  ·rw[ybn]at hx;rcases yam.1 hx with hx|hx
   ·exact r2 x hx
   ·exact r5 x hx
 |[],_::_,h,_=>by have:=h.1;simp at this
 |_::_,[],h,_=>by have:=h.1;simp at this
def zl3{t et len k:Nat}{w:World}{parts:Array (Nat×Value)}{us:List Value}(hu:P.underlying t=some (.slice et))(hk:szOf P et=some k)(hz:zOk P et k=true)(hb:∃b,byteOf P et=some b)(hk0:0<k)(hsm:len*k<=65536)(hl:us.length=len)(hp:parts.toList=(us.zipIdx 0).map λx=>(x.2,x.1))(hus:∀u∈us,u.cells.size=k) :
  (Instr.buildSlice t len parts).run P w=.ok (.slice (some ⟨w.heap.size,0,none⟩) len len) (w.alloc (.cells (us.flatMap λu=>u.cells.toList).toArray et)):=by
 obtain⟨b,hb⟩:=hb;obtain⟨i,z,hi,a4,a3,_,a5⟩:=zhh hz hk hb
 have a0:∀cells:Array Value,cells.size=len*k->Instr.fill (λj=>some (j*k,k)) cells parts.toList=some (us.flatMap λu=>u.cells.toList).toArray:=λcells hc=>by
  rw[hp];exact Great.fill_whole hk0 us cells hus (by rw[hl,hc])
 by_cases h0:len*k=0
 ·have hf:=a0 ((Array.range (len*k)).map ((#[]:Array Value)[·%(#[]:Array Value).size]!)) (by simp);have a2:¬len*k > 2^24:=by omega
  simp[Instr.buildSlice,run_underlying hu,zf8 hk,a2,h0,newRow];simp[h0]at hf;rw[hf];simp
 ·have:=run_buildSlice (P:=P) w t et len parts (us.flatMap λu=>u.cells.toList).toArray i z hu hi a4 (by rw[a3];omega) (by rw[a3];exact h0) (by rw[a3];exact a0 _ (by simp));exact this
def zso{own:List Nat}{t:TypeId}{len:Nat}{parts:Array (Nat×Operand)}(hop:o.op=.buildSlice t len parts)(hd:zct B.n o=true)(hbyt:∀et,zgc P t=some et->∃b,byteOf P et=some b)(h:zkb P own o σ K t len parts):∃fx,K fx/\Eff P B o fx.rd σ fx.wr:=by
 unfold zkb at h;split at h
 ·rename_i d et a0 b9;have c0:=zdr b9;split at h
  ·rename_i k vs bs hk a9;obtain⟨b2,h⟩:=h.ok;simp only[yax]at b2;obtain⟨⟨⟨⟨c1,c2⟩,c3⟩,c4⟩,c5⟩:=b2;have a5:vs.length=len:=by simpa using c1
   have b6:=zf0 c2;have b0:=zd5 c3;have b4:∀v∈vs,(zfr v).length=k:=λv hv=>by simpa using ybf.1 c5 v hv
   obtain⟨b7,h⟩:=h.out
   have zbg:∀σ' a w ρ,SatR B σ' a w ρ->(∀y∈opdL (parts.toList.map (·.2)),σ' y=σ y)->zc5 σ σ' bs->∃us:List Value,(execOp a.eval o).run P w=.ok (.value (.slice (some ⟨w.heap.size,0,none⟩) len len)) (w.alloc (.cells us.toArray et)) /\
     us.length=len*k/\zic w (Imm B (app σ' (fwr bs)) ρ w) us (vs.map zfr).flatten/\(∀u∈us,u.oneCell'=true):=λσ' a w ρ hs hag1 hsame=>by
    have c7:∀p∈bs,σ'.gn p.1=p.2:=λp hp=>by
     rw[<- b7 p hp];exact zdj (hsame (.gen p.1) (by unfold frd;exact ycf.2 ⟨p,hp,by simp⟩))
    obtain⟨r1,r2⟩:=zo3 hs c7 a9 hag1 hsame (λ_ h=>h);obtain⟨r3,r4,r5⟩:=flat_reps b0 r2 b4;have b8:=zl3 (P:=P) (w:=w) (parts:=parts.map λp=>(p.1,a.eval p.2)) c0 hk c4 (hbyt et b9) b0 b6 (by rw[r2.1,a5]) (by rw[ycl];exact r1) r3;refine⟨_,?_,?_,r4,r5⟩
    ·simp only[execOp,hop,Sem.run_bind,b8,Result.andThen_ok,Sem.run_pure]
    ·rw[r4.1,zbx (k:=k) (λx hx=>by obtain⟨v,hv,rfl⟩:=yao.1 hx;exact b4 v hv),zkK,a5]
   have a4:∀x∈vs.map zfr,x.length=k:=λx hx=>by obtain⟨v,hv,rfl⟩:=yao.1 hx;exact b4 v hv
   have c8:len<=65536:=ycg (Nat.le_mul_of_pos_right len b0) b6;split at h
   ·refine⟨_,h,λσ' hag a w ⟨ρ,hs⟩ K' Q hK=>?_⟩;obtain⟨us,run,a7,a3,a6⟩:=zbg σ' a w ρ hs (zaw (zaw hag)) (za7 (zaw hag));obtain⟨a2,_⟩:=hs.kills bs;unfold Oper.wp;rw[run,Oper.upon_value,a0];refine hK _ _ ⟨setρ ρ d (.slice (some ⟨w.heap.size,0,none⟩) len len),?_⟩
    have hg:(app σ' (fwr bs)).gn d=σ.gn d:=by
     rw[zl4];exact zdj (za7 hag (.gen d) (by simp))
    have m:zo7 (app σ' (fwr bs)) w (w.alloc (.cells us.toArray et)) ρ none (.slice (some ⟨w.heap.size,0,none⟩) len len) none :=
     ⟨World.grownBy_alloc w _ none,(λb e=>by cases e),λb e=>.inr (by simp only[zb3,zkF]at e;omega)⟩
    have c6:=a2.new (d:=d) (k:=.row et k (vs.map zfr)) (cs:=[]) m rfl λhI _=>by
     refine⟨us,b0,a4,by rw[zkK,a5];omega,?_,a3.1,a6,λi u x hu hx=>hI _ _ (a3.2 i u x hu hx)⟩;simp only[setρ,if_pos,zkK,a5];exact⟨a7,.inr ⟨w.heap.size,len,us.toArray,rfl,yaf _,heap_alloc_new w _,yaq _,by unfold maxLen;omega,by simpa using a7,by rw[<- a7];simp⟩⟩
    show SatR B (app σ' (fwr bs++(zd2 σ d (.row et k (vs.map zfr))++[(.tmp d,.av (.osl d (σ.gn d+1)))]))) _ _ _;rw[zaz];have:=zkr (σ:=σ) (σ':=app σ' (fwr bs)) (k:=.row et k (vs.map zfr)) (cs:=[]) (v:=.osl d (σ.gn d+1)) hg;simp only[zfg,yb4]at this;rw[this,<- hg];exact zjs c6 rfl (zc0 hd a0)
   ·split at h
    ·refine⟨_,h,λσ' hag a w ⟨ρ,hs⟩ K' Q hK=>?_⟩;obtain⟨us,run,a7,a3,a6⟩:=zbg σ' a w ρ hs (zaw hag) (za7 hag);obtain⟨a2,_⟩:=hs.kills bs;unfold Oper.wp;rw[run,Oper.upon_value,a0];have a8:Below w.heap.size w (w.alloc (.cells us.toArray et)):=(Below.refl _ _).alloc (yaq _) _;obtain⟨b3,hI⟩:=a2.world a8;refine hK _ _ ⟨ρ,?_⟩;show SatR B (app σ' (fwr bs++[(.tmp d,.av (.im (.nsl (vs.map zfr))))])) _ _ _;rw[zaz];refine b3.put (d:=some d) (λt e=>by injection e with e;subst e;exact zc0 hd a0) (.im _ _ ?_);refine .nsl _ _ _ _ (.sl w.heap.size 0 len k len _ us (by rw[zkK,a5]) a4 (yaq _) (by omega) ⟨.inr (.inl hs.bel.size),by simp,λp b5=>?_,λhz=>?_⟩ a3.1 a6 (λi u hu=>?_) λi u x hu hx=>hI _ _ (a3.2 i u x hu hx))
     ·have:=(a2.own p _ b5).2;omega
     ·have:=(a2.res _ hz).1.2;omega
     ·rw[yal];unfold World.cell?;simp only[heap_alloc_new];simpa using hu
    ·refine⟨_,h,λσ' hag a w ⟨ρ,hs⟩ K' Q hK=>?_⟩;obtain⟨us,run,a7,a3,a6⟩:=zbg σ' a w ρ hs (zaw hag) (za7 hag);obtain⟨a2,_⟩:=hs.kills bs;unfold Oper.wp;rw[run,Oper.upon_value,a0];have a8:Below w.heap.size w (w.alloc (.cells us.toArray et)):=(Below.refl _ _).alloc (yaq _) _;obtain⟨b3,hI⟩:=a2.world a8;refine hK _ _ ⟨ρ,?_⟩;show SatR B (app σ' (fwr bs++[(.tmp d,.av (.im (.sl (vs.map zfr))))])) _ _ _;rw[zaz];refine b3.put (d:=some d) (λt e=>by injection e with e;subst e;exact zc0 hd a0) (.im _ _ ?_);refine .sl w.heap.size 0 len k len _ us (by rw[zkK,a5]) a4 (yaq _) (by omega) ⟨.inr (.inl hs.bel.size),by simp,λp b5=>?_,λhz=>?_⟩ a3.1 a6 (λi u hu=>?_) λi u x hu hx=>hI _ _ (a3.2 i u x hu hx)
     ·have:=(a2.own p _ b5).2;omega
     ·have:=(a2.res _ hz).1.2;omega
     ·rw[yal];unfold World.cell?;simp only[heap_alloc_new];simpa using hu
  ·exact h.elim
 ·exact h.elim
end
end
section
open Go.RowKit
section
variable {P:Program}{B:Base}{o:Oper}{σ:St}{K:Fx->Prop}
def one_cells{v:Value}(h1:v.oneCell'=true):v.cells=#[v]:=by revert h1;cases v<;>simp[Value.oneCell',Value.cells]
def imm_block{a:Act}{w w':World}{ρ:Ly}(hs:SatR B σ a w ρ){q:Option Nat}(hg:w.grownBy w' q)(hq:∀b,q=some b->∃o,Owns σ ρ o b):∀u x,RepI w (Imm B σ ρ w) u x->RepI w' (Imm B σ ρ w) u x:=λu x h =>
 h.mono (λ_ hb=>hb) λp v hb hc=>by
  rw[World.cell?_of_block (hg.block p.block hb.2.1 λe=>by
   obtain⟨o,ho⟩:=hq p.block e.symm
   exact hb.2.2.1 o ho)]
  exact hc
def aBuildG_ok{t:TypeId}{len:Nat}{parts:Array (Nat×Operand)}(hop:o.op=.buildSlice t len parts)(hd:zct B.n o=true)(hbyt:∀et,zgc P t=some et->∃b,byteOf P et=some b)(h:aBuildG P o σ K t len parts):∃fx,K fx/\Eff P B o fx.rd σ fx.wr:=by
 unfold aBuildG at h;split at h
 ·rename_i d et x a8 b7 a4;have b8:=zdr b7;split at h
  ·rename_i k r gr hk hx;split at h
   ·rename_i e' k' es c0;obtain⟨a5,h'⟩:=h.ok;clear h;simp only[yax]at a5;obtain⟨⟨c1,c2⟩,c3⟩:=a5;have c1:=yar c1;have c2:=yar c2;subst c1 c2;obtain⟨b5,h⟩:=h'.out;have h:=h.out;refine⟨_,h,λσ' hag a w ⟨ρ,hs⟩ K' Q hK=>?_⟩;have b9:=zaw (zaw hag);have b0:zc5 σ σ' [(r,gr)]:=za7 (zaw hag);have a7:=za7 hag;obtain⟨b2,a3,_⟩:=b0.mem (p:=(r,gr)) (by simp);have b2:σ'.gn r=gr:=b2.trans (b5 (r,gr) (by simp));have a3:=a3.trans c0;have h1:=za4 hs x;rw[zal b9,hx]at h1
    have hv:a.eval x=ρ r:=by
     generalize a.eval x=v at h1;cases h1 with
     |osl _ _ _ _ _ hh=>exact hh b2
    have ho:=hs.obs r;rw[a3]at ho;have a2:(ρ r).oneCell'=true:=zdq.one (inn:=ρ.inn r) (k:=.row e' k' es) ho
    have a6:=zl3 (P:=P) (w:=w) (len:=1) (k:=1) (parts:=parts.map λp=>(p.1,a.eval p.2)) (us:=[ρ r]) b8 hk c3 (hbyt et b7) (by omega) (by omega) rfl (by rw[ycl,a4];simp[hv]) (λu hu=>by
     rw[yag]at hu
     rw[hu,one_cells a2]
     rfl)
    have c8:([ρ r].flatMap λu=>u.cells.toList)=[ρ r]:=by simp[one_cells a2]
    rw[c8]at a6
    have run:(execOp a.eval o).run P w=.ok (.value (.slice (some ⟨w.heap.size,0,none⟩) 1 1)) (w.alloc (.cells [ρ r].toArray et)):=by
     simp only[execOp,hop,Sem.run_bind,a6,Result.andThen_ok,Sem.run_pure]
    unfold Oper.wp;rw[run,Oper.upon_value,a8];refine hK _ _ ?_;have b6:Below w.heap.size w (w.alloc (.cells [ρ r].toArray et)):=(Below.refl _ _).alloc (yaq _) _;have hI:∀u y,RepI w (Imm B σ' ρ w) u y->RepI (w.alloc (.cells [ρ r].toArray et)) (Imm B σ' ρ w) u y:=imm_block hs (World.grownBy_alloc w _ none) λb e=>by cases e
    have b4:zdh σ' ρ [(r,gr)]=fpk (ρ r) (ρ.inn r) (.row e' k' es):=by
     unfold zdh;rw[ybn,ydr,yb4,a3]
    have c7:fpk (ρ r) (ρ.inn r) (.row e' k' es)=(zb3 (ρ r)).toList:=by
     unfold fpk;rfl
    have a0:∀b∈zdh σ' ρ [(r,gr)],b<w.heap.size:=λb hb=>by
     obtain⟨p,_,ho⟩:=zds.1 hb;exact(hs.own p.1 b ho).2
    have hF:fpv (.slice (some ⟨w.heap.size,0,none⟩) 1 1) [ρ r]=w.heap.size::zdh σ' ρ [(r,gr)]:=by
     rw[b4,c7];unfold fpv;rw[yce];show w.heap.size::List.filterMap zb3 [ρ r]=_;congr 1
    have c6:∀t,some d=some t->t<B.n:=λt e=>by injection e with e;subst e;exact zc0 hd a8
    have a9:∀b∈zdh σ' ρ [(r,gr)],¬Imm B σ' ρ w b:=λb hb hi=>by
     obtain⟨p,_,ho⟩:=zds.1 hb;exact hi.2.2.1 p.1 ho
    have b3:=zdq.mono (inn:=ρ.inn r) (k:=.row e' k' es) (w':=w.alloc (.cells [ρ r].toArray et)) ho (λb hb=>heap_alloc_old _ _ (a0 b (by rw[b4];exact hb))) hI
    obtain⟨ρ',g1,g2,_⟩:=zh4 hs [(r,gr)] (by simp) (S':=Imm B σ' ρ w) (v:=.slice (some ⟨w.heap.size,0,none⟩) 1 1) (ps:=[]) (τ:=σ) (tp:=false) (d:=d) (l:=[.ow (.grid et e' k' [[IV.sl es]] none)]) (ys:=[]) (F':=w.heap.size::zdh σ' ρ [(r,gr)]) (bx:=[]) (bl:=[]) (ss':=[]) (va:=.osl d (σ.gn d+1))
     (.of b6) (λb hb=>⟨.inl hb,by have:=hb.2.1;simp;omega,λhm=>by
      rcases yaw.1 hm with e|hm
      ·have:=hb.2.1;omega
      ·exact a9 b hm hb⟩)
     ⟨_,_,[],rfl,⟨_,[],⟨rfl,[ρ r],⟨by rw[hF];exact yb0.2 ⟨λhm=>by have:=a0 _ hm;omega,zen hs (by simp)⟩,rfl,[ρ r],by simp,⟨rfl,.inr ⟨w.heap.size,1,[ρ r].toArray,rfl,yaf _,heap_alloc_new w _,yaq _,by unfold maxLen;omega,rfl,rfl⟩⟩,λu hu=>by rw[yag]at hu;rw[hu];exact a2,λi u hu=>.inr ⟨hu,es,by
      cases i with
      |zero=>rfl
      |succ i=>simp at hu,by
      cases i with
      |zero =>
       simp at hu
       subst hu
       exact b3
      |succ i=>simp at hu⟩⟩,rfl⟩,rfl,rfl⟩,rfl,by
      show w.heap.size::zdh σ' ρ [(r,gr)]=(fpv (.slice (some ⟨w.heap.size,0,none⟩) 1 1) [ρ r]++[])++[]
      rw[hF]
      simp⟩
     (yb0.2 ⟨λhm=>by have:=a0 _ hm;omega,zen hs (by simp)⟩)
     (λb hb=>by
      rcases yaw.1 hb with e|hb
      ·exact⟨.inl (by omega),by rw[e];simp⟩
      ·exact⟨.inr hb,by have:=a0 b hb;simp;omega⟩)
     rfl rfl (by simp) rfl (by simp[zcc,ocPl]) (λx _=>by simp) (λp hp=>by
      obtain⟨h5,h6⟩:=zib hp
      exact⟨zdj (a7 _ h5),zhc (a7 _ h6)⟩)
    refine⟨ρ',?_⟩;show SatR B (app σ' (fwr [(r,gr)]++(zc7 σ [(d,.grid et e' k' [[IV.sl es]] none)]++[(.tmp d,.av (.osl d (σ.gn d+1)))]))) _ _ _;rw[zaz,zaz];exact g1.put (d:=some d) c6 g2
   ·exact h.elim
  ·exact h.elim
 ·exact h.elim
def aAppendG_ok{c:Call}{t:TypeId}{x y:Operand}{b2 gc:Nat}(hop:o.op=.call c)(hc:c.callee=.builtin .append)(hargs:c.args=#[x,y])(hts:c.argTypes=#[t,t])(hy:evA σ y=.osl b2 gc)(hd:zct B.n o=true)(h:aAppendG P o σ K t x y b2 gc):∃fx,K fx/\Eff P B o fx.rd σ fx.wr:=by
 unfold aAppendG at h;split at h
 ·rename_i d et e e' k a8 d3 g9 b5;have g5:=zdr g9;split at h
  ·rename_i m by_ b gb hm g8 hx;split at h
   ·rename_i e1 d8 k1 gs b8;obtain⟨c8,h'⟩:=h.ok;clear h;simp only[yax,ydy]at c8;obtain⟨⟨⟨⟨⟨⟨c1,c2⟩,c3⟩,c4⟩,c5⟩,c6⟩,c7⟩:=c8;have c1:=yar c1;have c2:=yar c2;have c3:=yar c3;have c4:=yar c4;have c5:=yar c5;have e7:b≠b2:=λe=>by rw[e]at c7;simp at c7
    subst c1 c2 c4 c5;subst c3;obtain⟨c9,h⟩:=h'.out;obtain⟨b3,h⟩:=h.out;have h:=h.out;obtain⟨i,z,hi,hz,d6,b6,i4⟩:=zhh c6 hm g8;refine⟨_,h,λσ' hag a w ⟨ρ,hs⟩ K' Q hK=>?_⟩;have f9:=zaw (zaw (zaw hag));have f6:=za7 (zaw (zaw hag));have a9:zc5 σ σ' [(b,gb),(b2,gc)]:=za7 (zaw hag);have d1:=za7 hag;obtain⟨d5,f7,_⟩:=a9.mem (p:=(b,gb)) (by simp);obtain⟨e6,f5,_⟩:=a9.mem (p:=(b2,gc)) (by simp);have d5:σ'.gn b=gb:=d5.trans (c9 (b,gb) (by simp));have e6:σ'.gn b2=gc:=e6.trans (c9 (b2,gc) (by simp));have b8:=f7.trans b8;have b5:=f5.trans b5;have h1:=za4 hs x;rw[zal f9,hx]at h1;have h2:=za4 hs y;rw[zal f6,hy]at h2
    have i0:a.eval x=ρ b:=by
     generalize a.eval x=v at h1;cases h1 with
     |osl _ _ _ _ _ hh=>exact hh d5
    have i3:a.eval y=ρ b2:=by
     generalize a.eval y=v at h2;cases h2 with
     |osl _ _ _ _ _ hh=>exact hh e6
    obtain⟨ub,nb,lb,i6,a5,e9,h8,f4⟩:=zfy hs b8;obtain⟨uc,nc,lc,i5,d2,b9,g6,e8⟩:=zfy hs b5
    obtain⟨A,cp,h9,b7⟩:∃(A:Option Addr) (cp:Nat),ρ b2=.slice A a8.length cp/\(0<a8.length->∃bb q,A=some ⟨bb,q,none⟩/\∀(j:Nat) u,uc[j]?=some u->w.cell? ⟨bb,q+j,none⟩=some u):=by
     rcases d2.2 with⟨e0,h0⟩|⟨q,h7,cur,e0,_⟩
     ·exact⟨none,0,by rw[e0,h0],λh=>by omega⟩
     ·exact⟨_,h7,e0,λ_=>⟨q,0,rfl,λj u hu=>by rw[yal];exact zpz d2 e0 hu⟩⟩
    obtain⟨v',w',f3,a6,a0,g4⟩:=zfj (P:=P) (w:=w) 0 t o.type e1 i z 1 by_ g5 hi hz d6 b6 i4 (by omega) (ρ b) gs.length ub a5 A a8.length cp uc (by rw[g6,ycz]) b7 b9 (by unfold maxLen;have:=b3.2;omega) (by exact b3.1) (yaf _)
    have run:(execOp a.eval o).run P w=.ok (.value v') w':=by
     have e0:(Builtin.append_ #[t,t] o.type #[a.eval x,a.eval y]).run P w=.ok v' w':=by rw[i0,i3,h9];exact f3
     simp[execOp,hop,resolve,hc,hargs,hts,invoke,builtin,e0]
    unfold Oper.wp;rw[run,Oper.upon_value,d3];refine hK _ _ ?_
    have b4:zdh σ' ρ [(b,gb),(b2,gc)]=fpv (ρ b) (ρ.inn b)++fpv (ρ b2) (ρ.inn b2):=by
     unfold zdh;rw[ybn,ybn,ydr,yb4,b8,b5];rfl
    have a4:(zdh σ' ρ [(b,gb),(b2,gc)]).Nodup:=zen hs (by simp[e7])
    have a2:∀q∈zdh σ' ρ [(b,gb),(b2,gc)],q<w.heap.size:=λq hq=>by
     obtain⟨p,_,ho⟩:=zds.1 hq;exact(hs.own p.1 q ho).2
    have d4:∀q∈zdh σ' ρ [(b,gb),(b2,gc)],¬Imm B σ' ρ w q:=λq hq hi=>by
     obtain⟨p,_,ho⟩:=zds.1 hq;exact hi.2.2.1 p.1 ho
    have e2:∀q,(ρ b).ownBlock=some q->q∈zdh σ' ρ [(b,gb),(b2,gc)]:=λq hq=>by
     rw[zg1 a5]at hq;rw[b4];refine yan _ ?_;unfold fpv;rw[yce,hq];exact ybl ..
    have hI:∀u y,RepI w (Imm B σ' ρ w) u y->RepI w' (Imm B σ' ρ w) u y:=imm_block hs a0 λq hq=>by
     obtain⟨p,_,ho⟩:=zds.1 (e2 q hq);exact⟨p.1,ho⟩
    -- where the new row of rows lies
    have a3:((ρ.inn b++ρ.inn b2).filterMap zb3).Sublist (zdh σ' ρ [(b,gb),(b2,gc)]):=by
     rw[b4,yer];refine List.Sublist.append ?_ ?_
     ·unfold fpv;rw[yce];split
      ·exact List.Sublist.refl _
      ·exact ydx _ _
     ·unfold fpv;rw[yce];split
      ·exact List.Sublist.refl _
      ·exact ydx _ _
    have c0:fpv v' (ρ.inn b++ρ.inn b2)=(zb3 v').toList++(ρ.inn b++ρ.inn b2).filterMap zb3:=by
     unfold fpv;rw[yce];cases zb3 v'<;>rfl
    have a7:∀q,zb3 v'=some q->(q=w.heap.size\/zb3 (ρ b)=some q)/\q<w'.heap.size:=λq hq=>by
     refine⟨?_,(a6.lt q (show v'.ownBlock=some q by rw[zg1 a6];exact hq)).2⟩;rw[<- zg1 a6]at hq;rcases g4 with e|e
     ·right;rw[<- zg1 a5,<- e];exact hq
     ·left;rw[e]at hq;exact(Option.some.inj hq).symm
    have f8:(fpv v' (ρ.inn b++ρ.inn b2)).Nodup:=by
     rw[c0];have h3:=a3.nodup a4;cases hq:zb3 v' with
     |none=>exact h3
     |some q =>
      refine yb0.2 ⟨λhm=>?_,h3⟩;rcases (a7 q hq).1 with e|e
      ·have:=a2 q (a3.subset hm);omega
      ·have hm:q∈(ρ.inn b++ρ.inn b2).filterMap zb3:=hm
       have hm:q∈(ρ.inn b).filterMap zb3\/q∈(ρ.inn b2).filterMap zb3:=by
        rw[<- yam,<- yer];exact hm
       rw[b4,ybm]at a4
       have e3:fpv (ρ b) (ρ.inn b)=q::(ρ.inn b).filterMap zb3:=by
        unfold fpv;rw[yce,e]
       rw[e3]at a4;rcases hm with hm|hm
       ·exact(yb0.1 a4.1).1 hm
       ·refine a4.2.2 q (ybl ..) q ?_ rfl;unfold fpv;rw[yce];split
        ·exact hm
        ·exact yau _ hm
    have b0:∀u∈ρ.inn b++ρ.inn b2,∀q,zb3 u=some q->w'.heap[q]?=w.heap[q]?:=λu hu q hq=>by
     have hm:q∈(ρ.inn b++ρ.inn b2).filterMap zb3:=yb5.2 ⟨u,hu,hq⟩;refine a0.block q (a2 q (a3.subset hm)) λe=>?_;rw[zg1 a5]at e
     have hm:q∈(ρ.inn b).filterMap zb3\/q∈(ρ.inn b2).filterMap zb3:=by
      rw[<- yam,<- yer];exact hm
     rw[b4,ybm]at a4
     have e3:fpv (ρ b) (ρ.inn b)=q::(ρ.inn b).filterMap zb3:=by
      unfold fpv;rw[yce,<- e]
     rw[e3]at a4;rcases hm with hm|hm
     ·exact(yb0.1 a4.1).1 hm
     ·refine a4.2.2 q (ybl ..) q ?_ rfl;unfold fpv;rw[yce];split
      ·exact hm
      ·exact yau _ hm
    have e4:zig w' (Imm B σ' ρ w) v' (ρ.inn b++ρ.inn b2) e1 d8 k1 (gs++a8) none:=by
     refine⟨f8,by rw[zkJ,zkJ,lb,lc],ub++uc,by rw[zkJ];have:=b3.2;omega,by rw[zkJ];exact a6,λu hu=>?_,λj u hu=>.inr ?_⟩
     ·rcases yam.1 hu with hu|hu
      ·exact e9 u hu
      ·exact b9 u hu
     ·have d0:=zkH hu;have el:ub.length=(ρ.inn b).length:=h8.trans lb.symm;have d9:gs.length=(ρ.inn b).length:=lb.symm;by_cases hj:j<(ρ.inn b).length
      ·rw[ya5 hj]at hu;obtain⟨g1,es,g2,g3⟩:=f4 j u hu;refine⟨by rw[ya5 (by rw[el];exact hj)];exact g1,es,by rw[ya5 (by rw[d9];exact hj)];exact g2,g3.mono (b0 u d0) hI⟩
      ·have d7:(ρ.inn b).length<=j:=yd4 hj;rw[ybo d7]at hu;obtain⟨g1,es,g2,g3⟩:=e8 _ u hu;refine⟨by rw[ybo (by rw[el];exact d7),el];exact g1,es,by rw[ybo (by rw[d9];exact d7),d9];exact g2,g3.mono (b0 u d0) hI⟩
    have hF:∀q∈fpv v' (ρ.inn b++ρ.inn b2),(w.heap.size<=q\/q∈zdh σ' ρ [(b,gb),(b2,gc)])/\q<w'.heap.size:=λq hq=>by
     rw[c0]at hq;rcases yam.1 hq with hq|hq
     ·have hq:zb3 v'=some q:=by simpa using hq
      obtain⟨h3,h4⟩:=a7 q hq;refine⟨?_,h4⟩;rcases h3 with e|e
      ·exact .inl (by omega)
      ·exact .inr (e2 q (by rw[zg1 a5];exact e))
     ·have h3:=a3.subset hq;have:=a2 q h3;have:=a0.size;exact⟨.inr h3,by omega⟩
    have g7:∀t,some d=some t->t<B.n:=λt e=>by injection e with e;subst e;exact zc0 hd d3
    have e5:v'.oneCell'=true:=row_one a6
    obtain⟨ρ',g1,g2,_⟩:=zh4 hs [(b,gb),(b2,gc)] (by simp[e7]) (S':=Imm B σ' ρ w) (v:=v') (ps:=[]) (τ:=σ) (tp:=false) (d:=d) (l:=[.ow (.grid e1 d8 k1 (gs++a8) none)]) (ys:=[]) (F':=fpv v' (ρ.inn b++ρ.inn b2)) (bx:=[]) (bl:=[]) (ss':=[]) (va:=.osl d (σ.gn d+1))
     ⟨a0.os,a0.tape,a0.output,a0.size,λq hq hn=>a0.block q hq λe=>hn (e2 q e.symm)⟩ (λq hq=>⟨.inl hq,by have:=hq.2.1;have:=a0.size;omega,λhm=>by
      rcases (hF q hm).1 with e|e
      ·have:=hq.2.1;omega
      ·exact d4 q e hq⟩)
     ⟨_,_,[],rfl,⟨_,[],⟨e5,ρ.inn b++ρ.inn b2,e4,rfl⟩,rfl,rfl⟩,rfl,by
      show fpv v' (ρ.inn b++ρ.inn b2)=(fpv v' (ρ.inn b++ρ.inn b2)++[])++[]
      simp⟩
     f8 hF rfl rfl (by simp) rfl (by simp[zcc,ocPl]) (λx _=>by simp) (λp hp=>by
      obtain⟨h5,h6⟩:=zib hp
      exact⟨zdj (d1 _ h5),zhc (d1 _ h6)⟩)
    refine⟨ρ',?_⟩;show SatR B (app σ' (fwr [(b,gb),(b2,gc)]++(zc7 σ [(d,.grid e1 d8 k1 (gs++a8) none)]++[(.tmp d,.av (.osl d (σ.gn d+1)))]))) _ _ _;rw[zaz,zaz];exact g1.put (d:=some d) g7 g2
   ·exact h.elim
  ·exact h.elim
 ·exact h.elim
end
end
section
open Go.RowKit Go.ChangeMaps
section
variable {P:Program}{B:Base}{o:Oper}{σ:St}{K:Fx->Prop}
def zpt{t e:TypeId}{n:Nat}(h:arrOf P t=some (n,e)):P.underlying t=some (.array n e):=by
 unfold arrOf at h;split at h
 ·rename_i n' e' hu;simp only[zkF,zkG]at h;rw[hu,h.1,h.2]
 ·cases h
def zr1{t:TypeId}{n:Nat}(h:intArr P t=some n):∃e,P.underlying t=some (.array n e)/\P.underlying e=some (.int .i64)/\szOf P e=some 1:=by
 unfold intArr at h;split at h
 ·rename_i n' e he;split at h
  ·rename_i h1 h2;injection h with h
   subst h;exact⟨e,zpt he,h1,h2⟩
  ·cases h
 ·cases h
def flat_sing{α β:Type}(f:α->β):∀cs:List α,(cs.map λv=>[f v]).flatten=cs.map f
 |[]=>rfl
 |c::cs=>by rw[yav,ybu,flat_sing f cs];rfl
def aAllocA_ok{t:TypeId}(hop:o.op=.alloc t)(hd:zct B.n o=true)(h:aAllocA P o σ K t):∃fx,K fx/\Eff P B o fx.rd σ fx.wr:=by
 unfold aAllocA at h;split at h
 ·rename_i d cs a3 hz;obtain⟨a0,h⟩:=h.ok;simp only[yax]at a0;have a4:=a0.1.1;have a8:=zd5 a0.1.2;have a9:=zf0 a0.2;have h:=h.out;refine⟨_,h,λσ' hag a w ⟨ρ,hs⟩ K' Q hK=>?_⟩;have hg:σ'.gn d=σ.gn d:=zdj (hag (.gen d) (by simp))
  obtain⟨z,a6,a5⟩:∃z:Value,(∀w,(zeroValue t).run P w=.ok z w)/\z.cells.toList=cs:=by
   unfold zeroOf at hz;split at hz
   ·rename_i i hi;cases hz0:i.zero with
    |none=>rw[hz0]at hz;cases hz
    |some z =>
     rw[hz0]at hz;simp only[yap,zkF]at hz;exact⟨z,λw=>by simp[zeroValue,typeInfo,hi,hz0],hz⟩
   ·cases hz
  have run:(execOp a.eval o).run P w=.ok (.value (.pointer (some ⟨w.heap.size,0,none⟩))) (w.alloc (.cells cs.toArray t)):=by
   rw[<- a5];simp[execOp,hop,Instr.alloc,a6,newVar,newRow]
  unfold Oper.wp;rw[run,Oper.upon_value,a3]
  let hv:Value:=.slice (some ⟨w.heap.size,0,none⟩) cs.length cs.length
  refine hK _ _ ⟨setρ ρ d hv,?_⟩
  have m:zo7 σ' w (w.alloc (.cells cs.toArray t)) ρ none hv none :=
   ⟨World.grownBy_alloc w _ none,(λb e=>by cases e),λb e=>.inr (by simp only[hv,zb3,zkF]at e;omega)⟩
  have a2:(cs.map λv=>[nz1 (IV.val v)]).flatten=cs.map λv=>nz1 (.val v):=flat_sing (λv=>nz1 (IV.val v)) cs
  have a7:=hs.new (d:=d) (k:=.row t 1 (cs.map λv=>[nz1 (.val v)])) (cs:=[]) m rfl λhI _=>by
   refine⟨cs,by omega,λx hx=>by obtain⟨u,_,rfl⟩:=yao.1 hx;rfl,by rw[zkK];omega,?_,by rw[a2];simp,λu hu=>ybf.1 a4 u hu,λi u x hu hx=>?_⟩
   ·simp only[setρ,if_pos,zkK];refine⟨by simp,.inr ⟨w.heap.size,cs.length,cs.toArray,rfl,yaf _,heap_alloc_new w _,yaq _,by unfold maxLen;omega,by simp,by simp⟩⟩
   ·rw[a2,yae,hu]at hx;injection hx with hx
    subst hx;exact zj1 (.val u)
  have:=zkr (σ:=σ) (σ':=σ') (k:=.row t 1 (cs.map λv=>[nz1 (.val v)])) (cs:=[]) (v:=.elt d (σ.gn d+1) 1 0 0) hg;simp only[zfg,yb4]at this;show SatR B (app σ' (zd2 σ d (.row t 1 (cs.map λv=>[nz1 (.val v)]))++[(.tmp d,.av (.elt d (σ.gn d+1) 1 0 0))])) _ _ _;rw[this,<- hg];exact a7.put (d:=some d) (λt e=>by injection e with e;subst e;exact zc0 hd a3) (.elt _ _ _ _ _ _ rfl (by rw[zjz,if_pos rfl];omega) λ_=>⟨w.heap.size,0,cs.length,cs.length,by simp[setρ,hv],by simp⟩)
 ·exact h.elim
def aAllocs_ok{t:TypeId}(hop:o.op=.alloc t)(hd:zct B.n o=true)(h:aAllocs P o σ K t):∃fx,K fx/\Eff P B o fx.rd σ fx.wr:=by
 unfold aAllocs at h;split at h
 ·split at h
  ·exact aAlloc_ok hop hd h
  ·exact aAllocA_ok hop hd h
 ·exact aAlloc_ok hop hd h
def aIndexA_ok{t et:TypeId}{n:Nat}{x i:Operand}(hop:o.op=.indexAddr t x i)(ht:arrOf P t=some (n,et))(hd:zct B.n o=true)(h:aIndexA P o σ K n et x i):∃fx,K fx/\Eff P B o fx.rd σ fx.wr:=by
 have hu:=zpt ht;unfold aIndexA at h;split at h
 ·rename_i kk j m hi hm
  have run:∀(a:Act) w q p,a.eval x=.pointer (some ⟨q,p,none⟩)->a.eval i=.int kk j->0<=j->j<n->(execOp a.eval o).run P w=.ok (.value (.pointer (some ⟨q,p+j.toNat*m,none⟩))) w:=λa w q p hv hn h0 a0=>by
   have hz:=zf8 hm w;have h3:0<=j/\j<(n:Int):=⟨h0,a0⟩;simp only[execOp,hop,hv,hn,Instr.indexAt,asIntOf,Instr.sureAddr,Sem.run_bind,Sem.run_pure,Result.andThen_ok,run_underlying hu,if_pos h3,hz,addr_add]
  split at h
  ·rename_i b g k p q hx
   have a4:∀(σ':St),(∀y∈opd x++opd i++[Loc.gen b],σ' y=σ y)->∀a w ρ,SatR B σ' a w ρ->σ.gn b=g->∃v,a.eval x=v/\RepA w (Imm B σ' ρ w) ρ σ'.gn v (.elt b g k p q)/\a.eval i=.int kk j/\σ'.gn b=g:=λσ' hag a w ρ hs hg=>by
    have h1:=za4 hs x;have h2:=za4 hs i;rw[zal (zaw (zaw hag)),hx]at h1;rw[zal (za7 (zaw hag))]at h2;exact⟨_,rfl,h1,zci hi h2,(zdj (za7 hag (.gen b) (by simp))).trans hg⟩
   split at h
   ·rename_i hc;simp only[yax,Nat.beq_eq]at hc;obtain⟨⟨⟨rfl,rfl⟩,rfl⟩,rfl⟩:=hc;obtain⟨⟨h0,a0,hg⟩,h⟩:=h.out;refine⟨_,h,Eff.pure hd λσ' hag a w ρ hs=>?_⟩;obtain⟨v,hv,h1,h2,hg'⟩:=a4 σ' hag a w ρ hs hg;cases h1 with
    |elt _ _ _ _ _ _ a2 hgg hh =>
     obtain⟨q0,z0,n0,c0,e1,e2⟩:=hh hg';subst e2;have a3:=run a w q0 (z0+(0*1+0)) hv h2 h0 a0;exact⟨_,a3,.elt _ b g 1 j.toNat 0 rfl hgg λ_=>⟨q0,z0,n0,c0,e1,by simp⟩⟩
   ·obtain⟨⟨h0,a0,hg⟩,h⟩:=h.out;refine⟨_,h,Eff.pure hd λσ' hag a w ρ hs=>?_⟩;obtain⟨v,hv,h1,h2,hg'⟩:=a4 σ' hag a w ρ hs hg;cases h1 with
    |elt _ _ _ _ _ _ a2 hgg hh =>
     obtain⟨q0,z0,n0,c0,e1,e2⟩:=hh hg';subst e2;have a3:=run a w q0 _ hv h2 h0 a0;exact⟨_,a3,.elt _ b g k p (q+j.toNat*m) rfl hgg λ_=>⟨q0,z0,n0,c0,e1,by rw[ybt,ybt]⟩⟩
  ·rename_i cs hx;obtain⟨⟨h0,a0⟩,h⟩:=h.out;refine⟨_,h,Eff.pure hd λσ' hag a w ρ hs=>?_⟩;have h1:=za4 hs x;have h2:=za4 hs i;rw[zal (zaw hag),hx]at h1;rw[zal (za7 hag)]at h2;have hn:=zci hi h2;have h1:=h1.im_inv;generalize hv:a.eval x=v at h1;cases h1 with
   |ref b q us _ hS hl a2 hu' hr =>
    refine⟨_,run a w b q hv hn h0 a0,.im _ _ (.ref b (q+j.toNat*m) (us.drop (j.toNat*m)) (cs.drop (j.toNat*m)) hS (by simp[hl]) (λu a5=>a2 u (ybp a5)) (λp u hj=>?_) λp u y hj hy=>?_)⟩
    ·rw[ybq]at hj;have:=hu' _ u hj
     rwa [<- ybt]at this
    ·rw[ybq]at hj hy;exact hr _ u y hj hy
  ·rename_i b g p hx;obtain⟨⟨h0,a0,hg⟩,h⟩:=h.out;refine⟨_,h,Eff.pure hd λσ' hag a w ρ hs=>?_⟩;have h1:=za4 hs x;have h2:=za4 hs i;rw[zal (zaw (zaw hag)),hx]at h1;rw[zal (za7 (zaw hag))]at h2;have hn:=zci hi h2;have hg':=(zdj (za7 hag (.gen b) (by simp))).trans hg;generalize hv:a.eval x=v at h1;cases h1 with
   |own _ _ _ _ a2 hgg hh =>
    obtain⟨q,e1,e2⟩:=hh hg';exact⟨_,run a w q p (hv.trans e2) hn h0 a0,.own _ b g (p+j.toNat*m) rfl hgg λ_=>⟨q,e1,rfl⟩⟩
  ·exact h.elim
 ·exact h.elim
def flat_ones{α:Type}:∀{es:List (List α)},(∀x∈es,x.length=1)->es.flatten.length=es.length
 |[],_=>rfl
 |x::es,h=>by
  rw[ybu,zkJ,flat_ones λy hy=>h y (by simp[hy]),h x (by simp),zkL];omega
def aLoadA_ok{t:TypeId}{p:Operand}{b g k i j:Nat}(hop:o.op=.load t p)(hp:evA σ p=.elt b g k i j)(hw:wholeA P t k=true)(hd:zct B.n o=true)(h:aLoadA P o σ K t p b g k i j):∃fx,K fx/\Eff P B o fx.rd σ fx.wr:=by
 have a3:zma P t=some true:=by
  unfold wholeA at hw;split at hw
  ·rename_i n hn;obtain⟨e,hu,_⟩:=zr1 hn;unfold zma;rw[hu];rfl
  ·cases hw
 unfold aLoadA at h;split at h
 ·rename_i t' k' es m a4 hm;obtain⟨hc,h⟩:=h.ok;simp only[yax,Nat.beq_eq]at hc;obtain⟨⟨⟨rfl,rfl⟩,rfl⟩,rfl⟩:=hc;obtain⟨⟨hg,a0⟩,h⟩:=h.out;have h:=h.out;refine⟨_,h,Eff.pure hd λσ' hag a w ρ hs=>?_⟩;obtain⟨a8,hg',a7,_⟩:=zcy hag;have h1:=za4 hs p;rw[zal a8,hp]at h1;have ho:=hs.obs b;rw[a7.trans a4]at ho;obtain⟨us,h2,h3,h4,h5,h6,h7,h8⟩:=ho;generalize hv:a.eval p=v at h1;cases h1 with
  |elt _ _ _ _ _ _ a2 hgg hh =>
   obtain⟨q,z,n,c,e1,e2⟩:=hh (hg'.trans hg)
   have a6:z=0:=by
    rcases h5.2 with⟨f,_⟩|⟨_,_,_,f,_⟩
    ·rw[f]at e1;cases e1
    ·rw[f]at e1;injection e1 with e1 _ _
     injection e1 with e1
     injection e1 with _ e1
     exact e1.symm
   subst a6;rw[yal]at e2;subst e2;have a5:us.length=m:=by rw[h6,flat_ones h3,a0]
   refine⟨.agg us.toArray,?_,.im _ _ (.agg us _ h6 h7 h8)⟩
   have:=zkz (P:=P) (t:=t) (us:=us) a3 (by rw[a5];exact hm) (b:=q) (q:=0*1+0) (w:=w) (λp u hu=>by
    have:=h5.cells (g:=q) (by rw[e1];rfl) p u hu
    rw[addr_add,yal]at this
    simpa using this)
   have hr:(Instr.loadAt t (a.eval p)).run P w=.ok (.agg us.toArray) w:=by rw[hv];exact this
   simp[execOp,hop,hr]
 ·exact h.elim
def aLenM_ok{c:Call}{t kt et:TypeId}{ts:List TypeId}{x:Operand}{b g:Nat}{l:List (Value×Value)}(hop:o.op=.call c)(hc:c.callee=.builtin .len)(ha:c.args.toList=[x])(ht:c.argTypes.toList=t::ts)(hm:zsc P t=some (kt,et))(hx:evA σ x=.osl b g)(hkd:σ.kd b=.map l)(hd:zct B.n o=true)(h:aLenM o σ K x b g l):∃fx,K fx/\Eff P B o fx.rd σ fx.wr:=by
 have a4:c.argTypes[0]?=some t:=by rw[<- ya6,ht];rfl
 have a7:∀a:Act,(c.args.map a.eval)[0]?=some (a.eval x):=λa=>by rw[<- ya6,ycl,ha];rfl
 have hu:=zi9 hm;unfold aLenM at h;obtain⟨hg,h⟩:=h.out;have h:=h.out;refine⟨_,h,Eff.pure hd λσ' hag a w ρ hs=>?_⟩;obtain⟨a3,hg',a6,_⟩:=zcy hag;have h1:=za4 hs x;rw[zal a3,hx]at h1;have ho:=hs.obs b;rw[a6.trans hkd]at ho;obtain⟨q,a0,es,e1,e2,e3,a8⟩:=ho;have a5:=MapKept.run_getObj_map (P:=P) e2;generalize hv:a.eval x=v at h1;cases h1 with
 |osl _ _ _ a2 hgg hh =>
  rw[hh (hg'.trans hg),e1]at hv;have hl:l.length=es.size:=by rw[<- e3];simp
  refine⟨.int .i64 es.size,?_,by rw[hl];exact zc1 _⟩;simp only[execOp,hop,resolve,hc,invoke,builtin,Builtin.len_,a4,a7,Sem.run_bind,Sem.run_pure,Result.andThen_ok,run_underlying hu,hv,goInt,a5]
def part_int{e:TypeId}{w:World}(hu:P.underlying e=some (.int .i64)){ks:yab}{i:Nat}{c:Int}(h:ks[i]?=some c):(part e (ks.map (Value.int .i64)).toArray i).run P w=.ok (.int .i64 c) w:=by
 have a0:zma P e=some false:=by unfold zma;rw[hu];rfl
 have hi:(ks.map (Value.int .i64)).toArray[i]?=some (.int .i64 c):=by simp[h]
 unfold part;rw[Sem.run_bind,zos a0];simp only[Result.andThen_ok,yec,if_false,hi,Sem.run_pure]
def zq7{kt e:TypeId}{n:Nat}(hu:P.underlying kt=some (.array n e))(he:P.underlying e=some (.int .i64))(hs:szOf P e=some 1)(em:Bool){ks:yab}(hl:ks.length=n)(w:World):(Instr.checkKey em 10000 kt (wA ks)).run P w=.ok () w:=by
 unfold wA;rw[Instr.checkKey];simp only[Sem.run_bind,run_underlying hu,Result.andThen_ok];simp only[Std.Legacy.Range.forIn_eq_forIn_range',Std.Legacy.Range.size,yea,Nat.add_one_sub_one,Nat.div_one];have a0:∀i∈List.range' 0 n,i<ks.length:=λi hi=>by rw[hl];simpa using List.mem_range'_1.1 hi
 generalize List.range' 0 n=is at a0
 induction is with
 |nil=>simp
 |cons j is ih =>
  have hj:=a0 j (by simp);have hp:=part_int (w:=w) he (zkM hj)
  have a2:(Instr.checkKey em 9999 e (.int .i64 ks[j])).run P w=.ok () w:=by
   rw[Instr.checkKey,Sem.run_bind,run_underlying he];rfl
  simp only[List.forIn_cons,Sem.run_bind,zf8 hs,Result.andThen_ok,ycz,hp,a2,Sem.run_pure];exact ih λy hy=>a0 y (by simp[hy])
def eq_items{e:TypeId}(he:P.underlying e=some (.int .i64)){ks ls:yab}(hl:ks.length=ls.length)(w:World):∀is:List Nat,(∀i∈is,i<ks.length) ->
  (Op.eqItems 9999 e 1 (ks.map (Value.int .i64)).toArray (ls.map (Value.int .i64)).toArray is).run P w=.ok (is.all λi=>decide (ks[i]?=ls[i]?)) w
 |[],_=>by simp[Op.eqItems]
 |i::is,h=>by
  have hi:=h i (by simp);have hi':i<ls.length:=by omega
  have p1:=part_int (w:=w) he (zkM hi);have p2:=part_int (w:=w) he (zkM hi')
  have a0:(Op.equalIn 9999 e (.int .i64 ks[i]) (.int .i64 ls[i])).run P w=.ok (ks[i]==ls[i]) w:=by
   rw[Op.equalIn,Sem.run_bind,run_underlying he];simp
  rw[yfn,zkM hi,zkM hi'];simp only[Op.eqItems,ycz,Sem.run_bind,p1,p2,a0,Result.andThen_ok];by_cases hc:ks[i]=ls[i]
  ·simp[hc,eq_items he hl w is λj hj=>h j (by simp[hj])]
  ·simp[hc]
def all_get{ks ls:yab}{n:Nat}(h1:ks.length=n)(h2:ls.length=n):((List.range n).all λi=>decide (ks[i]?=ls[i]?))=decide (ks=ls):=by
 rw[yfk];simp only[ybf,yay,decide_eq_true_eq];constructor
 ·intro h;apply yca;intro i;by_cases hi:i<n
  ·exact h i hi
  ·rw[yat (by omega),yat (by omega)]
 ·rintro rfl i _;rfl
def equal_arr{kt e:TypeId}{n:Nat}(hu:P.underlying kt=some (.array n e))(he:P.underlying e=some (.int .i64))(hs:szOf P e=some 1){ks ls:yab}(h1:ks.length=n)(h2:ls.length=n)(w:World):(Op.equal kt (wA ks) (wA ls)).run P w=.ok (decide (ks=ls)) w:=by
 obtain⟨i,hi,a2⟩:∃i,P.info? e=some i/\i.size=1:=by
  unfold szOf at hs;cases hi:P.info? e with
  |none=>rw[hi]at hs;cases hs
  |some i=>rw[hi]at hs;exact⟨i,rfl,by simpa using hs⟩
 have a0:P.cellsOf e=1:=by simp[Program.cellsOf,hi,a2]
 unfold Op.equal wA;rw[show Op.maxDepth=9999+1 from rfl,run_equalIn_array w 9999 _ _ hu hi,a0,eq_items he (by omega) w _ (λi hi=>by rw[h1];simpa using hi),all_get h1 h2]
def zmh{kt e:TypeId}{n:Nat}(hu:P.underlying kt=some (.array n e))(he:P.underlying e=some (.int .i64))(hs:szOf P e=some 1){ks:yab}(h1:ks.length=n)(w:World):∀(es:List MapEntry) (i:Nat) (m:List (yab×Value)),es.map (λe=>(e.key,e.val))=m.map (λp=>(wA p.1,p.2))->(∀p∈m,p.1.length=n) ->
  ((Instr.findAsking kt (wA ks) es i).run P w=.ok none w/\getA ks m=none/\∀v,setA ks v m=m++[(ks,v)]) \/
  ∃j e,(Instr.findAsking kt (wA ks) es i).run P w=.ok (some (i+j,e.val)) w/\getA ks m=some e.val/\es[j]?=some e/\e.key=wA ks/\∀v,(setA ks v m).map (λp=>(wA p.1,p.2))=(es.set j { e with key:=wA ks,val:=v }).map (λe=>(e.key,e.val))
 |[],i,[],_,_=>.inl ⟨by simp[Instr.findAsking],rfl,λ_=>rfl⟩
 |[],_,_::_,h,_=>by simp at h
 |_::_,_,[],h,_=>by simp at h
 |x::es,i,p::m,h,hm=>by
  simp only[yav,List.cons.injEq,zkG]at h;obtain⟨⟨hk,hv⟩,ht⟩:=h;have heq:=equal_arr hu he hs h1 (hm p (by simp)) w;by_cases hc:ks=p.1
  ·refine .inr ⟨0,x,?_,?_,rfl,by rw[hk,hc],λv=>?_⟩
   ·rw[Instr.findAsking,Sem.run_bind,hk,heq];simp[hc]
   ·simp[getA,hc,hv]
   ·simp[setA,hc,ht]
  ·have hdc:decide (ks=p.1)=false:=by simp[hc]
   rcases zmh hu he hs h1 w es (i+1) m ht λq hq=>hm q (by simp[hq]) with⟨f1,f2,f3⟩|⟨j,y,f1,f2,f3,f4,f5⟩
   ·refine .inl ⟨?_,?_,λv=>?_⟩
    ·rw[Instr.findAsking,Sem.run_bind,hk,heq];simp[hc,f1]
    ·simp[getA,hc,f2]
    ·simp[setA,hc,f3]
   ·refine .inr ⟨j+1,y,?_,?_,by simpa using f3,f4,λv=>?_⟩
    ·rw[Instr.findAsking,Sem.run_bind,hk,heq];simp[hc,f1,ybt,ycm 1 j]
    ·simp[getA,hc,f2]
    ·simp[setA,hc,f5,hk,hv]
def find_arr{kt e:TypeId}{n:Nat}(hu:P.underlying kt=some (.array n e)){k:Value}{es:List MapEntry}(w:World):∀{ks:yab},k=wA ks->(Instr.findKey kt k es).run P w=(Instr.findAsking kt k es 0).run P w\/(es=[]/\(Instr.findKey kt k es).run P w=.ok none w):=by
 rintro ks rfl;unfold Instr.findKey;rw[Sem.run_bind,run_underlying hu];simp only[Result.andThen_ok];cases es with
 |nil=>exact .inr ⟨rfl,rfl⟩
 |cons x es=>exact .inl (by simp[Instr.findNow,Instr.sameNow,wA])
def zri{kt e:TypeId}{n:Nat}(hu:P.underlying kt=some (.array n e)){es:List MapEntry}(w:World)(ks:yab):(Instr.findKey kt (wA ks) es).run P w=(Instr.findAsking kt (wA ks) es 0).run P w:=by
 rcases find_arr hu (es:=es) w (ks:=ks) rfl with h|⟨rfl,h⟩
 ·exact h
 ·rw[h];simp[Instr.findAsking]
def agg_wA{w:World}{S:Nat->Prop}{v:Value}{ks:yab}(h:RepI w S v (.agg (ks.map λc=>.val (.int .i64 c)))):v=wA ks:=by
 cases h with
 |agg us cs hl h1 hr =>
  unfold wA;congr 2;apply yca;intro i;by_cases hi:i<us.length
  ·have hk:i<ks.length:=by simpa[hl]using hi
   obtain⟨u,hu⟩:∃u,us[i]?=some u:=⟨_,zkM hi⟩;have:=hr i u (.val (.int .i64 ks[i])) hu (by simp[zkM hk]);cases this;rw[hu];simp[zkM hk]
  ·have hk:¬i<ks.length:=by simpa[hl]using hi
   rw[yat (by omega),yat (by simp;omega)]
def same_zip:∀ks:yab,(((ks.map (Value.int .i64)).zip (ks.map (Value.int .i64))).all λ(x,y)=>Instr.sameBits 9999 x y)=true
 |[]=>rfl
 |k::ks=>by
  rw[yav,List.zip_cons_cons,yfn,same_zip ks];simp[Instr.sameBits]
def sameBits_wA(ks:yab):Instr.sameBits 10000 (wA ks) (wA ks)=true:=by
 unfold wA;rw[Instr.sameBits];simp only[beq_self_eq_true,Bool.true_and];exact same_zip ks
def zqm{t:TypeId}{n:Nat}(h:zsz P t=some n):∃kt et e,P.underlying t=some (.map kt et)/\zsc P t=some (kt,et)/\P.underlying kt=some (.array n e)/\P.underlying e=some (.int .i64)/\szOf P e=some 1:=by
 unfold zsz at h;split at h
 ·rename_i k et hm;obtain⟨e,h1,h2,h3⟩:=zr1 h;exact⟨k,et,e,zi9 hm,hm,h1,h2,h3⟩
 ·cases h
def aLookupA_ok{n:Nat}{t:TypeId}{x i:Operand}{ok:Bool}(hop:o.op=.lookup t x i ok)(hka:zsz P t=some n)(hd:zct B.n o=true)(h:aLookupA P o σ K n t x i ok):∃fx,K fx/\Eff P B o fx.rd σ fx.wr:=by
 obtain⟨kt,et,e,a4,b2,hu,he,a3⟩:=zqm hka;unfold aLookupA at h;split at h
 ·rename_i b8 b7 b g cs a0 hx hi;rw[b2]at a0;simp only[zkF,zkG]at a0;obtain⟨rfl,rfl⟩:=a0;split at h
  ·rename_i l z a7 hz;obtain⟨hg,ks,m,⟨k1,k2,k3,k4⟩,h⟩:=h.out;have h:=h.out
   have a2:∀σ',(∀y∈opd x++opd i++[.gen b,.knd b],σ' y=σ y)->∀a w,Sat B σ' a w->(execOp a.eval o).run P w=.ok (.value (if ok=true then .tuple #[(getA ks m).getD z,.bool (getA ks m).isSome] else(getA ks m).getD z)) w:=λσ' hag a w ⟨ρ,hs⟩=>by
    obtain⟨ha,hg',b5,_⟩:=zcy hag;have h1:=za4 hs x;have h2:=za4 hs i;rw[zal (zaw ha),hx]at h1;rw[zal (za7 ha),hi,k1]at h2;have a6:=agg_wA h2.im_inv;have ho:=hs.obs b;rw[b5.trans a7]at ho;obtain⟨q,a5,es,e1,e2,e3,b6⟩:=ho
    have b3:a.eval x=.map (some q):=by
     generalize a.eval x=v at h1;cases h1 with
     |osl _ _ _ _ _ hh=>rw[hh (hg'.trans hg),e1]
    have a8:∀w,(zeroValue et).run P w=.ok z w:=λw=>by
     unfold zeroV at hz;split at hz
     ·rename_i it b0;simp[zeroValue,typeInfo,b0,hz]
     ·cases hz
    have a9:=MapKept.run_getObj_map (P:=P) e2;have b4:=zmh hu he a3 k2 w es.toList 0 m (e3.trans k3) k4;simp only[execOp,hop,b3,a6,Instr.lookup,Sem.run_bind,run_underlying a4,Result.andThen_ok,a9,Sem.run_pure,zq7 hu he a3 _ k2,zri hu];rcases b4 with⟨f1,f2,_⟩|⟨j,y,f1,f2,_⟩
    ·rw[f1,f2];cases ok<;>simp[a8]
    ·rw[f1,f2];cases ok<;>simp
   split at h
   ·have h:=h.out;refine⟨_,h,Eff.pure hd λσ' hag a w ρ hs=>⟨_,a2 σ' hag a w ⟨ρ,hs⟩,?_⟩⟩;simp only[if_true]
    exact .tup [(getA ks m).getD z,.bool (getA ks m).isSome] _ rfl λj u y hu hy=>by
     match j with
     |0=>simp at hu hy;rw[<- hu,<- hy];exact zc1 _
     |1=>simp at hu hy;rw[<- hu,<- hy];exact vB_rep _
     |j+2=>simp at hu
   ·refine⟨_,h,Eff.pure hd λσ' hag a w ρ hs=>⟨_,a2 σ' hag a w ⟨ρ,hs⟩,?_⟩⟩;simp only[yec,if_false];exact zc1 _
  ·exact h.elim
 ·exact h.elim
def zsg{n:Nat}{t:TypeId}{x i y:Operand}(hop:o.op=.mapUpdate t x i y)(hka:zsz P t=some n)(hd:zct B.n o=true)(h:zmk P o σ K n t x i y):∃fx,K fx/\Eff P B o fx.rd σ fx.wr:=by
 obtain⟨kt,et,e,a4,c7,hu,he,a6⟩:=zqm hka;unfold zmk at h;split at h
 ·rename_i b g cs v c6 hx hi hy;split at h
  ·rename_i l a5;obtain⟨hg,ks,m,⟨k1,k2,k3,k4⟩,h⟩:=h.out;have h:=h.out;refine⟨_,h,λσ' hag a w ⟨ρ,hs⟩ K' Q hK=>?_⟩;obtain⟨ha,hg',a8,_⟩:=zcy hag;have h1:=za4 hs x;have h2:=za4 hs i;have h3:=za4 hs y;rw[zal (zaw (zaw ha)),hx]at h1;rw[zal (za7 (zaw ha)),hi,k1]at h2;rw[zal (za7 ha)]at h3;have b0:=agg_wA h2.im_inv;have hv:=zkx hy h3;have ho:=hs.obs b;rw[a8.trans a5]at ho;obtain⟨q,a2,es,e1,e2,e3,b2⟩:=ho
   have b6:a.eval x=.map (some q):=by
    generalize a.eval x=u at h1;cases h1 with
    |osl _ _ _ _ _ hh=>rw[hh (hg'.trans hg),e1]
   have b4:=MapKept.run_getObj_map (P:=P) e2;have a7:live σ' b:=by unfold live;rw[a8.trans a5];exact λz=>by cases z
   have c0:zb3 (ρ b)=some q:=by rw[e1];rfl
   have a9:∀(a3:Array MapEntry) (a0:Nat),(a3.toList.map λe=>(e.key,e.val))=(setA ks v m).map (λp=>(wA p.1,p.2))->zoo a3 a0->(execOp a.eval o).run P w=.ok .skip (setBlock w q (.map a3 a0))->o.wp P a w K' Q:=λa3 a0 b8 b3 b7=>by
    unfold Oper.wp;rw[b7,Oper.upon_skip];refine hK _ _ ⟨ρ,?_⟩
    have b9:=hs.turn (b:=b) (q:=q) (w':=setBlock w q (.map a3 a0)) (k':=.map ((setA ks v m).map λp=>(wA p.1,p.2))) a7 c0 ⟨rfl,rfl,rfl,by simp[setBlock],λi _ hi=>heap_setBlock_other e2 _ (λe=>hi (by rw[e]))⟩ (λc hc=>by unfold Owns;rw[a8.trans a5];exact hc) λhI =>
     ⟨q,a0,a3,e1,heap_setBlock_same e2 _,b8,b3⟩
    rw[zb6];exact b9.put (zio hd) (zc1 _)
   rcases zmh hu he a6 k2 w es.toList 0 m (e3.trans k3) k4 with⟨f1,f2,f3⟩|⟨j,y',f1,f2,f3,f4,f5⟩
   ·refine a9 (es.push { key:=wA ks,val:=v,born:=a2 }) (a2+1) (by rw[f3];simp[<- k3,e3]) (b2.push _ _) ?_;simp only[execOp,hop,b6,b0,hv,Instr.mapUpdate,Sem.run_bind,run_underlying a4,Result.andThen_ok,b4,Sem.run_pure,zq7 hu he a6 _ k2,zri hu,f1,MapKept.run_setObj_map _ e2];rfl
   ·have hj:es[j]?=some y':=by rw[<- ya6];exact f3
    have b5:j<es.size:=(yb2.1 hj).1;refine a9 (es.modify j λe=>{ e with key:=wA ks,val:=v }) a2 ?_ (b2.modify _ _ λ_=>rfl) ?_
    ·rw[f5];congr 1;apply yca;intro n;rw[ya6,ydh,ydk];by_cases hn:j=n
     ·subst hn;rw[if_pos rfl,if_pos rfl,if_pos (by simpa using b5),hj];rfl
     ·rw[if_neg hn,if_neg hn,ya6]
    ·simp only[execOp,hop,b6,b0,hv,Instr.mapUpdate,Sem.run_bind,run_underlying a4,Result.andThen_ok,b4,Sem.run_pure,zq7 hu he a6 _ k2,zri hu,f1,yal];rw[hj];simp only[yap,yaj,f4];unfold Instr.keyThatStays;rw[sameBits_wA];simp only[if_true,Sem.run_pure,Result.andThen_ok,MapKept.run_setObj_map _ e2];rfl
  ·exact h.elim
 ·exact h.elim
end
end
section
open Go.RowKit
section
variable {P:Program}{B:Base}{o:Oper}{σ:St}{K:Fx->Prop}
def zmp{α:Type}{p:α->Prop}:∀(ds cs:List α) (i:Nat),(∀x∈cs,p x)->(∀x∈ds,p x)->∀x∈zgq cs i ds,p x
 |[],cs,i,h,_=>h
 |d::ds,cs,i,h,k=>by
  rw[zgq];refine zmp ds _ _ (λx hx=>?_) λx hx=>k x (by simp[hx]);rcases ycv hx with h1|h1
  ·exact h x h1
  ·rw[h1];exact k d (by simp)
def zk7(off:Nat):∀(vs:List Value) (j:Nat) (cells:Array Value),((vs.zipIdx j).foldl (λcs (p:Value×Nat)=>cs.setIfInBounds (off+p.2) p.1) cells).toList=zgq cells.toList (off+j) vs
 |[],j,cells=>rfl
 |v::vs,j,cells=>by
  rw[List.zipIdx_cons,yc6,zk7 off vs,zgq,Array.toList_setIfInBounds,ybt]
def zk9{w:World}{S:Nat->Prop}{ρ:Ly}{γ:Nat->Nat}:∀{vs:List Value} {ds:List AV} {us:List Value} {cs:List AV} (i:Nat),Reps w S ρ γ us cs->Reps w S ρ γ vs ds->Reps w S ρ γ (zgq us i vs) (zgq cs i ds)
 |[],[],us,cs,i,h,_=>h
 |v::vs,d::ds,us,cs,i,h,k=>by
  rw[zgq,zgq];refine zk9 (i+1) ⟨by simpa using h.1,λj u x hu hx=>?_⟩ ⟨by simpa using k.1,λj u x hu hx=>k.2 (j+1) u x (by simpa using hu) (by simpa using hx)⟩;rw[ydk]at hu hx;by_cases e:i=j
  ·rw[if_pos e]at hu hx;split at hu
   ·rename_i h1;rw[if_pos (by rw[<- h.1];exact h1)]at hx;injection hu with hu
    injection hx with hx
    rw[<- hu,<- hx];exact k.2 0 v d rfl rfl
   ·cases hu
  ·rw[if_neg e]at hu hx;exact h.2 j u x hu hx
 |[],_::_,_,_,_,_,h=>by have:=h.1;simp at this
 |_::_,[],_,_,_,_,h=>by have:=h.1;simp at this
def plc_get{t:TypeId}{ps:yad}(h:plcOf P t=some ps){i off ft m:Nat}(hf:fldOf P t i=some (off,ft))(hm:szOf P ft=some m):ps.toArray[i]?=some (off,m):=by
 obtain⟨fs,x,hu,hx,ho,ht⟩:=fld_spec hf;unfold plcOf at h;rw[hu]at h;simp only at h
 have key:∀(l:List Field) (ps:yad),l.mapM (λf=>(P.info? f.type).map λi=>(f.offset,i.size))=some ps->∀(i:Nat) x,l[i]?=some x->∀m,szOf P x.type=some m->ps[i]?=some (x.offset,m):=by
  intro l
  induction l with
  |nil=>intro ps _ i x hx;simp at hx
  |cons f l ih =>
   intro ps hp i x hx m hm;simp only[List.mapM_cons,Option.bind_eq_bind,Option.pure_def]at hp;cases hi:P.info? f.type with
   |none=>simp[hi]at hp
   |some ii =>
    cases hr:l.mapM (λf=>(P.info? f.type).map λi=>(f.offset,i.size)) with
    |none=>simp[hi,hr]at hp
    |some rest =>
     simp[hi,hr]at hp;subst hp;cases i with
     |zero =>
      simp at hx;subst hx;unfold szOf at hm;rw[hi]at hm;simp at hm;simp[hm]
     |succ i=>simpa using ih rest hr i x (by simpa using hx) m hm
 have:=key fs.toList ps h i x (by rw[ya6];exact hx) m (by rw[ht];exact hm);rw[<- ho];simpa using this
def zru{t:TypeId}{ps:yad}(hps:plcOf P t=some ps){σ':St}{a:Act}{w:World}{ρ:Ly}(h:SatR B σ' a w ρ):∀{l:List (Nat×Operand)} {cs cs':List AV} {cells:Array Value},buildA P t σ l cs=some cs'->(∀y∈opdL (l.map (·.2)),σ' y=σ y) ->
  Reps w (Imm B σ' ρ w) ρ σ'.gn cells.toList cs->(∀u∈cells.toList,u.oneCell'=true)->∃cells',Instr.fill (ps.toArray[·]?) cells (l.map λp=>(p.1,a.eval p.2))=some cells'/\Reps w (Imm B σ' ρ w) ρ σ'.gn cells'.toList cs'/\∀u∈cells'.toList,u.oneCell'=true
 |[],cs,cs',cells,e,_,hr,h1=>by
  simp only[buildA,zkF]at e;subst e;exact⟨cells,rfl,hr,h1⟩
 |(i,x)::l,cs,cs',cells,e,hag,hr,h1=>by
  simp only[buildA]at e;split at e
  ·rename_i off ft vs hf hc;split at e
   ·rename_i m hm;split at e
    ·rename_i hchk;rw[yax]at hchk;have hml:m=vs.length:=by simpa using hchk.1
     have a4:=zf0 hchk.2;have hx:=za4 h x;rw[zal λy hy=>hag y (by simp only[yav,opdL,ybn];exact yan _ hy)]at hx;have r1:=zgo hc hx;have r2:=zgv hc hx;have a5:(a.eval x).cells.size=m:=by rw[hml,<- r1.1];simp
     have a0:=zk7 off (a.eval x).cells.toList 0 cells;rw[ybz]at a0;generalize a2:((a.eval x).cells.zipIdx.foldl (λcs (p:Value×Nat)=>cs.setIfInBounds (off+p.2) p.1) cells)=cells1
     have a3:cells1.toList=zgq cells.toList off (a.eval x).cells.toList:=by
      rw[<- a0,<- a2,<- Array.foldl_toList,Array.toList_zipIdx]
     obtain⟨cells',q1,q2,q3⟩:=zru hps h (l:=l) (cells:=cells1) e (λy hy=>hag y (by simp only[yav,opdL,ybn];exact yai _ hy)) (by rw[a3];exact zk9 off hr r1) (by rw[a3];exact zmp _ _ _ h1 r2);refine⟨cells',?_,q2,q3⟩;rw[<- q1,<- a2]
     have hg:¬((a.eval x).cells.size≠m\/off+(a.eval x).cells.size > cells.size):=by
      have:=hr.1;simp at this;omega
     simp only[yav,Instr.fill,plc_get hps hf hm];rw[if_neg (by simpa using hg)]
    ·cases e
   ·cases e
  ·cases e
def aBuild_ok{t:TypeId}{parts:Array (Nat×Operand)}(hop:o.op=.build t parts)(hd:zct B.n o=true)(h:aBuild P o σ K t parts):∃fx,K fx/\Eff P B o fx.rd σ fx.wr:=by
 unfold aBuild at h;split at h
 ·rename_i z hz;split at h
  ·rename_i cs a5;obtain⟨a0,h⟩:=h.ok;rw[yax]at a0;refine⟨_,h,Eff.pure hd λσ' hag a w ρ hs=>?_⟩;obtain⟨ps,a3⟩:=yfb.1 a0.1
   obtain⟨it,zv,a6,a2,a4⟩:∃it zv,P.info? t=some it/\it.zero=some zv/\zv.cells.toList=z:=by
    unfold zeroOf at hz;split at hz
    ·rename_i i hi;cases a2:i.zero with
     |none=>rw[a2]at hz;cases hz
     |some zv =>
      rw[a2]at hz;simp only[yap,zkF]at hz;exact⟨i,zv,hi,a2,hz⟩
    ·cases hz
   obtain⟨fs,hu,a7⟩:∃fs,P.underlying t=some (.struct fs)/\fs.toList.mapM (λf=>(P.info? f.type).map λi=>(f.offset,i.size))=some ps:=by
    unfold plcOf at a3;split at a3
    ·rename_i fs hu;exact⟨fs,hu,a3⟩
    ·cases a3
   obtain⟨cells',q1,q2,q3⟩:=zru a3 hs (cells:=zv.cells) a5 hag (by rw[a4];exact⟨by simp,λi u y hu hy=>by
    simp only[yae,hu,yap,zkF]at hy
    rw[<- hy]
    exact .im _ _ (.val _)⟩) (by rw[a4];exact λu hu=>ybf.1 a0.2 u hu)
   refine⟨.agg cells',?_,by simpa using zlw q2 q3⟩
   have hb:P.built t (parts.map λ(i,x)=>(i,a.eval x)).toList=some cells':=by
    unfold Program.built;simp only[a6,hu,a2,a7,ycl];exact q1
   simp only[execOp,hop,Sem.run_bind,run_build w t _ cells' hb,Result.andThen_ok,Sem.run_pure]
  ·exact h.elim
 ·exact h.elim
def zrf{pl:Nat->Option (Nat×Nat)}{σ':St}{a:Act}{w:World}{ρ:Ly}(h:SatR B σ' a w ρ):∀{l:List (Nat×Operand)} {cs cs':List AV} {cells:Array Value},buildG pl σ l cs=some cs'->(∀y∈opdL (l.map (·.2)),σ' y=σ y) ->
  Reps w (Imm B σ' ρ w) ρ σ'.gn cells.toList cs->(∀u∈cells.toList,u.oneCell'=true)->∃cells',Instr.fill pl cells (l.map λp=>(p.1,a.eval p.2))=some cells'/\Reps w (Imm B σ' ρ w) ρ σ'.gn cells'.toList cs'/\∀u∈cells'.toList,u.oneCell'=true
 |[],cs,cs',cells,e,_,hr,h1=>by
  simp only[buildG,zkF]at e;subst e;exact⟨cells,rfl,hr,h1⟩
 |(i,x)::l,cs,cs',cells,e,hag,hr,h1=>by
  simp only[buildG]at e;split at e
  ·rename_i off m vs hf hc;split at e
   ·rename_i hchk;rw[yax]at hchk;have hml:m=vs.length:=by simpa using hchk.1
    have a4:=zf0 hchk.2;have hx:=za4 h x;rw[zal λy hy=>hag y (by simp only[yav,opdL,ybn];exact yan _ hy)]at hx;have r1:=zgo hc hx;have r2:=zgv hc hx;have a5:(a.eval x).cells.size=m:=by rw[hml,<- r1.1];simp
    have a0:=zk7 off (a.eval x).cells.toList 0 cells;rw[ybz]at a0;generalize a2:((a.eval x).cells.zipIdx.foldl (λcs (p:Value×Nat)=>cs.setIfInBounds (off+p.2) p.1) cells)=cells1
    have a3:cells1.toList=zgq cells.toList off (a.eval x).cells.toList:=by
     rw[<- a0,<- a2,<- Array.foldl_toList,Array.toList_zipIdx]
    obtain⟨cells',q1,q2,q3⟩:=zrf h (l:=l) (cells:=cells1) e (λy hy=>hag y (by simp only[yav,opdL,ybn];exact yai _ hy)) (by rw[a3];exact zk9 off hr r1) (by rw[a3];exact zmp _ _ _ h1 r2);refine⟨cells',?_,q2,q3⟩;rw[<- q1,<- a2]
    have hg:¬((a.eval x).cells.size≠m\/off+(a.eval x).cells.size > cells.size):=by
     have:=hr.1;simp at this;omega
    simp only[yav,Instr.fill,hf];rw[if_neg (by simpa using hg)]
   ·cases e
  ·cases e
def aBuildR_ok{t et:TypeId}{n:Nat}{parts:Array (Nat×Operand)}(hop:o.op=.build t parts)(ht:arrOf P t=some (n,et))(hd:zct B.n o=true)(h:aBuildR P o σ K t et parts):∃fx,K fx/\Eff P B o fx.rd σ fx.wr:=by
 unfold aBuildR at h;split at h
 ·rename_i z m hz hm;split at h
  ·rename_i cs a4;obtain⟨a2,h⟩:=h.ok;refine⟨_,h,Eff.pure hd λσ' hag a w ρ hs=>?_⟩
   obtain⟨it,zv,a5,a0,a3⟩:∃it zv,P.info? t=some it/\it.zero=some zv/\zv.cells.toList=z:=by
    unfold zeroOf at hz;split at hz
    ·rename_i i hi;cases a0:i.zero with
     |none=>rw[a0]at hz;cases hz
     |some zv =>
      rw[a0]at hz;simp only[yap,zkF]at hz;exact⟨i,zv,hi,a0,hz⟩
    ·cases hz
   obtain⟨ie,a6,a7⟩:∃ie,P.info? et=some ie/\ie.size=m:=by
    unfold szOf at hm;cases hi:P.info? et with
    |none=>rw[hi]at hm;cases hm
    |some i =>
     rw[hi]at hm;simp only[yap,zkF]at hm;exact⟨i,rfl,hm⟩
   obtain⟨cells',q1,q2,q3⟩:=zrf hs (cells:=zv.cells) a4 hag (by rw[a3];exact⟨by simp,λi u y hu hy=>by
    simp only[yae,hu,yap,zkF]at hy
    rw[<- hy]
    exact .im _ _ (.val _)⟩) (by rw[a3];exact λu hu=>ybf.1 a2 u hu)
   refine⟨.agg cells',?_,by simpa using zlw q2 q3⟩
   have hb:P.built t (parts.map λ(i,x)=>(i,a.eval x)).toList=some cells':=by
    unfold Program.built;simp only[a5,zpt ht,a0,a6,a7,ycl];exact q1
   simp only[execOp,hop,Sem.run_bind,run_build w t _ cells' hb,Result.andThen_ok,Sem.run_pure]
  ·exact h.elim
 ·exact h.elim
def aIndexX_ok{t:TypeId}{x i:Operand}(hop:o.op=.index t x i)(hd:zct B.n o=true)(h:aIndexX P o σ K t x i):∃fx,K fx/\Eff P B o fx.rd σ fx.wr:=by
 unfold aIndexX at h;split at h
 ·rename_i n et cs k j ht a7 hj;split at h
  ·rename_i m a3 hm;obtain⟨hi,h'⟩:=h.ok;clear h;rw[yax]at hi;have hn:n=2:=by simpa using hi.1
   have a8:=zf0 hi.2;subst hn;have hu:=zpt ht
   have a0:∀(q:Nat),j=(q:Int)->q<2->∀σ',(∀l∈opd x++opd i,σ' l=σ l)->∀a w ρ,SatR B σ' a w ρ->∃u,(execOp a.eval o).run P w=.ok (.value u) w/\RepA w (Imm B σ' ρ w) ρ σ'.gn u (aggA ((cs.drop (q*m)).take m)):=λq hq hq2 σ' hag a w ρ hs=>by
    have h1:=za4 hs x;rw[zal (zaw hag)]at h1;have h2:=za4 hs i;rw[zal (za7 hag)]at h2;obtain⟨us,hv,hr,a2⟩:=zk3 a7 h1;have a6:=zci hj h2;have ha:=zos a3 w;have hz:=zf8 hm w;refine⟨.agg ((us.drop (q*m)).take m).toArray,?_,zlw ⟨by simp[hr.1],λj u y hj a4=>?_⟩ λu a5=>a2 u (ybp (ybe a5))⟩
    ·have e1:(0:Int)<=j/\j<2:=by omega
     have e2:j.toNat=q:=by omega
     simp[execOp,hop,hv,a6,Instr.index,asIntOf,run_underlying hu,part,ha,hz,e1,e2]
    ·exact hr.2 _ u y (zcw hj).1 (zcw a4).1
   have h:=h'.out;by_cases e:j=0
   ·refine⟨_,h.1 (zkB e),Eff.pure hd λσ' hag a w ρ hs=>?_⟩;have:=a0 0 (by omega) (by omega) σ' hag a w ρ hs;simpa using this
   ·obtain⟨h1,h⟩:=(h.2 (zkA e)).out;refine⟨_,h,Eff.pure hd λσ' hag a w ρ hs=>?_⟩;have:=a0 1 (by omega) (by omega) σ' hag a w ρ hs;simpa using this
  ·exact h.elim
 ·exact h.elim
def znr{t:TypeId}{k:Nat}(h:szOf P t=some k):∃b,byteOf P t=some b:=by
 unfold szOf at h;unfold byteOf;cases hi:P.info? t with
 |none=>rw[hi]at h;cases h
 |some i=>exact⟨i.bytes,rfl⟩
def aOp_ok{C:FuncId->List Arg->Rs->Prop}(hC:∀g xs r,C g xs r->SpX P g xs r){own:List Nat}(hd:zct B.n o=true)(h:aOp P own o σ K C):∃fx,K fx/\Eff P B o fx.rd σ fx.wr:=by
 unfold aOp at h;split at h
 ·rename_i x a0;exact aMoves_ok (.inl a0) hd h
 ·rename_i x a0;exact aMoves_ok (.inr a0) hd h
 ·rename_i c x y a0;exact aPick_ok a0 hd h
 ·rename_i t p a0;unfold aLoads at h;split at h
  ·rename_i hp;exact aLoadS_ok a0 hp hd h
  ·rename_i hp;split at h
   ·exact aLoadG_ok a0 hp hd h
   ·split at h
    ·rename_i hw;exact aLoadA_ok a0 hp hw hd h
    ·exact aLoad_ok a0 hd h
  ·exact aLoad_ok a0 hd h
 ·rename_i t p x a0;split at h
  ·rename_i hp;split at h
   ·exact aStoreG_ok a0 hp hd h
   ·exact aStoreE_ok a0 hd hp h
  ·rename_i hp;exact aStoreS_ok a0 hp hd h
  ·exact aStore_ok a0 hd h
 ·rename_i t x a0;exact aBox_ok a0 hd h
 ·rename_i t a0;exact aAllocs_ok a0 hd h
 ·rename_i t p f a0;exact aFieldAddr_ok a0 hd h
 ·rename_i t x f a0;exact aField_ok a0 hd h
 ·rename_i t x i a0;unfold aIndexes at h;split at h
  ·rename_i hx;exact aIndexV_ok a0 hx hd h
  ·rename_i hx;exact aIndexS_ok a0 hx hd h
  ·rename_i hx;split at h
   ·exact aIndexG_ok a0 hx hd h
   ·exact zm5 a0 hd h
  ·split at h
   ·rename_i ht;exact aIndexA_ok a0 ht hd h
   ·exact zm5 a0 hd h
 ·rename_i t x lo hi mx a0;cases mx with
  |some m=>exact aSlice3_ok a0 hd h
  |none =>
  replace h:aSlices P o σ K t x lo hi:=h;unfold aSlices at h;split at h
  ·rename_i hx;split at h
   ·split at h
    ·exact aSliceQ_ok a0 hx hd h
    ·exact aSliceV_ok a0 hx hd h
   ·exact aSliceT_ok a0 hx hd h
   ·exact h.elim
  ·exact aSlice_ok a0 hd h
 ·rename_i t parts a0;unfold aBuilds at h;split at h
  ·rename_i ht;exact aBuildR_ok a0 ht hd h
  ·exact aBuild_ok a0 hd h
 ·rename_i t x i a0;exact aIndexX_ok a0 hd h
 ·rename_i t len parts a0;split at h
  ·rename_i d0 b3;split at h
   ·refine aBuildG_ok a0 hd (λet a6=>?_) h;unfold aBuildG at h;split at h
    ·rename_i d b2 x b0 a5 hp;rw[a6]at a5;injection a5 with a5
     subst a5;split at h
     ·rename_i k r gr hk hx;exact znr hk
     ·exact h.elim
    ·exact h.elim
   ·refine zso a0 hd (λet a6=>?_) h;unfold zkb at h;split at h
    ·rename_i d b2 b0 a5;rw[a6]at a5;injection a5 with a5
     subst a5;split at h
     ·rename_i k vs bs hk _;exact znr hk
     ·exact h.elim
    ·exact h.elim
  ·exact h.elim
 ·rename_i x i a0;exact aExtract_ok a0 hd h
 ·rename_i op t x y t' a0;unfold aBins at h;split at h
  ·exact aBinS_ok a0 hd h
  ·split at h
   ·rename_i hp;exact aBinN_ok a0 hp hd h
   ·split at h
    ·rename_i hp;exact aBinZ_ok a0 hp hd h
    ·exact aBin_ok a0 hd h
 ·rename_i op t x a0;exact aUn_ok a0 hd h
 ·rename_i src dst x a0;obtain⟨hm,h⟩:=h.ok;exact aConvert_ok a0 hd (yfb.1 hm) h
 ·rename_i fn first a9 a0;exact aMakeFunc_ok a0 hd h
 ·rename_i x a0;exact aNilCheck_ok a0 hd h
 ·rename_i t len b4 a0;exact aMakeSlice_ok a0 hd h
 ·rename_i t r a0;exact aMakeMap_ok a0 hd h
 ·rename_i t x i ok a0;split at h
  ·rename_i a7;exact aLookupA_ok a0 a7 hd h
  ·exact aLookup_ok a0 hd h
 ·rename_i t x i y a0;split at h
  ·rename_i a7;exact zsg a0 a7 hd h
  ·exact aMapUpdate_ok a0 hd h
 ·rename_i c a0;unfold aCalls at h;split at h
  ·rename_i b a3;unfold aBuiltin at h;split at h
   ·split at h
    ·rename_i x a2;split at h
     ·rename_i t ts a4;unfold aLens at h;split at h
      ·rename_i hx;split at h
       ·rename_i he;exact aLenV_ok a0 a3 a2 a4 he hx hd h
       ·exact h.elim
      ·rename_i hx;split at h
       ·rename_i he;exact aLenS_ok a0 a3 a2 a4 he hx hd h
       ·exact h.elim
      ·rename_i hx;split at h
       ·split at h
        ·rename_i he;exact aLenG_ok a0 a3 a2 a4 he hx hd h
        ·exact h.elim
       ·split at h
        ·rename_i hm hk;exact aLenM_ok a0 a3 a2 a4 hm hx hk hd h
        ·exact aLen_ok a0 a3 a2 a4 hd h
      ·exact aLen_ok a0 a3 a2 a4 hd h
     ·exact h.elim
    ·exact h.elim
   ·split at h
    ·rename_i x y a2;split at h
     ·rename_i t t' a4;obtain⟨a8,h⟩:=h.ok;have a8:t'=t:=by simpa using a8
      subst a8;split at h
      ·rename_i hx;split at h
       ·rename_i hy;exact aAppendT_ok a0 a3 (by rw[<- yb8 (xs:=c.args),a2]) (by rw[<- yb8 (xs:=c.argTypes),a4]) hx hy hd h
       ·exact aAppendS_ok a0 a3 (by rw[<- yb8 (xs:=c.args),a2]) (by rw[<- yb8 (xs:=c.argTypes),a4]) hx hd h
      ·split at h
       ·rename_i hy;exact aAppendG_ok a0 a3 (by rw[<- yb8 (xs:=c.args),a2]) (by rw[<- yb8 (xs:=c.argTypes),a4]) hy hd h
       ·exact aAppend_ok a0 a3 (by rw[<- yb8 (xs:=c.args),a2]) (by rw[<- yb8 (xs:=c.argTypes),a4]) hd h
     ·exact h.elim
    ·exact h.elim
   ·split at h
    ·rename_i x y a2;exact aMax_ok a0 a3 a2 hd h
    ·exact h.elim
   ·split at h
    ·rename_i x y a2;exact aMin_ok a0 a3 a2 hd h
    ·rename_i x y z a2;exact aMin3_ok a0 a3 a2 hd h
    ·exact h.elim
   ·split at h
    ·rename_i x t ts a2 a4;exact aClear_ok a0 a3 a2 a4 hd h
    ·exact h.elim
   ·split at h
    ·rename_i x y t t' a2 a4;exact aCopy_ok a0 a3 a2 a4 hd h
    ·exact h.elim
   ·split at h
    ·rename_i x y t t' a2 a4;exact aDelete_ok a0 a3 a2 a4 hd h
    ·exact h.elim
   ·exact h.elim
  ·rename_i f a3;split at h
   ·split at h
    ·exact aCallH_ok hC a0 a3 hd h
    ·split at h
     ·split at h
      ·exact aCallR_ok hC a0 a3 hd h
      ·exact aCallA_ok hC a0 a3 hd h
     ·exact aCall_ok hC a0 a3 hd h
   ·exact h.elim
  ·exact h.elim
 ·exact h.elim
def EffG(P:Program)(B:Base)(ops:Array Oper)(o:Oper)(rd:List Loc)(σ:St)(wr:List (Loc×Ct)):Prop :=
 ∀σ',(∀l∈rd,σ' l=σ l)->∀a w,Sat B σ' a w->∀(K:Act->World->Prop) (Q:Exit->Act->World->Prop),(∀a' w',Sat B (app σ' wr) a' w'->K a' w') ->
  if Region.wanted o (yielded ops a.tmps)=true then o.wp P a w K Q else K (a.put o.dst undef) w
def aGuard_ok{C:FuncId->List Arg->Rs->Prop}(hC:∀g xs r,C g xs r->SpX P g xs r){own:List Nat}{ops:Array Oper}(h:aGuard P C B.n own ops.toList o σ K):∃fx,K fx/\EffG P B ops o fx.rd σ fx.wr:=by
 unfold aGuard at h;obtain⟨hd,h⟩:=h.ok;split at h
 ·rename_i hg;obtain⟨fx,hk,he⟩:=aOp_ok (B:=B) hC hd h;refine⟨fx,hk,λσ' hag a w hs K' Q hK=>?_⟩;have:Region.wanted o (yielded ops a.tmps)=true:=by simp[Region.wanted,hg]
  rw[if_pos this];exact he σ' hag a w hs K' Q hK
 ·rename_i j a0 hg;split at h
  ·rename_i t ht;split at h
   ·rename_i b hb
    have hy:∀σ' a w,σ' (.tmp t)=σ (.tmp t)->Sat B σ' a w->yielded ops a.tmps j=some b:=λσ' a w hag ⟨ρ,hs⟩=>by
     have h1:=hs.tms t;have e:σ'.av t=σ.av t:=by unfold St.av;rw[hag]
     rw[e]at h1;have h2:=zhu hb h1;have hj:(ops[j]?).bind (·.dst)=some t:=by rw[<- ya6];exact ht
     have a2:a.tmps[t]?=some (.bool b):=by
      rw[ycy]at h2;cases hc:a.tmps[t]? with
      |none=>rw[hc]at h2;cases h2
      |some v=>rw[hc]at h2;simp only[yaj]at h2;rw[h2]
     unfold yielded;rw[hj];simp only[ybr,a2]
    have hw:∀σ' a w,σ' (.tmp t)=σ (.tmp t)->Sat B σ' a w->Region.wanted o (yielded ops a.tmps)=(b==a0):=λσ' a w hag hs=>by
     simp only[Region.wanted,hg,hy σ' a w hag hs];cases b<;>cases a0<;>rfl
    have h:=h.out;cases hbw:(b==a0) with
    |true =>
     obtain⟨fx,hk,he⟩:=aOp_ok (B:=B) hC hd (h.1 hbw);refine⟨_,hk,λσ' hag a w hs K' Q hK=>?_⟩;rw[if_pos (by rw[hw σ' a w (hag _ (by simp)) hs];exact hbw)];exact he σ' (λl hl=>hag l (by simp[hl])) a w hs K' Q hK
    |false =>
     refine⟨_,h.2 hbw,λσ' hag a w hs K' Q hK=>?_⟩;rw[if_neg (by rw[hw σ' a w (hag _ (by simp)) hs,hbw];simp)];obtain⟨ρ,hs⟩:=hs;exact hK _ _ ⟨ρ,hs.put (zio hd) (zc1 _)⟩
   ·split at h
    ·rename_i v hv;obtain⟨a3,h⟩:=h.ok
     have hw:∀σ' a w,σ' (.tmp t)=σ (.tmp t)->Sat B σ' a w->Region.wanted o (yielded ops a.tmps)=false:=λσ' a w hag ⟨ρ,hs⟩=>by
      have h1:=hs.tms t;have e:σ'.av t=σ.av t:=by unfold St.av;rw[hag]
      rw[e,hv]at h1;have h2:=h1.im_inv;have hj:(ops[j]?).bind (·.dst)=some t:=by rw[<- ya6];exact ht
      have hy:yielded ops a.tmps j=none:=by
       unfold yielded;rw[hj];simp only[ybr];cases hc:a.tmps[t]? with
       |none=>rfl
       |some u =>
        have e2:a.tmps.getD t undef=u:=by rw[ycy,hc];rfl
        rw[e2]at h2;obtain rfl:u=v:=by cases h2;rfl
        cases u<;>first|rfl|(cases a3)
      simp only[Region.wanted,hg,hy];rfl
     refine⟨_,h,λσ' hag a w hs K' Q hK=>?_⟩;rw[if_neg (by rw[hw σ' a w (hag _ (by simp)) hs];simp)];obtain⟨ρ,hs⟩:=hs;exact hK _ _ ⟨ρ,hs.put (zio hd) (zc1 _)⟩
    ·exact h.elim
  ·exact h.elim
end
inductive Runs(P:Program)(B:Base)(ops:Array Oper):List Nat->St->List (Nat×Fx)->St->Prop
 |nil (σ:St):Runs P B ops [] σ [] σ
 |cons (i:Nat) (o:Oper) (l:List Nat) (σ σ':St) (fx:Fx) (fs:List (Nat×Fx)) (ho:ops[i]?=some o) (he:EffG P B ops o fx.rd σ fx.wr) (h:Runs P B ops l (app σ fx.wr) fs σ'):Runs P B ops (i::l) σ ((i,fx)::fs) σ'
section
variable {P:Program}{B:Base}{ops:Array Oper}
def aOps_runs{C:FuncId->List Arg->Rs->Prop}(hC:∀g xs r,C g xs r->SpX P g xs r){own:List Nat}:∀(l:List Oper) (k:Nat) (fs0:List Mk) (σ:St) (K:List Mk->St->Prop),(∀j,l[j]?=ops[k+j]?) ->
  aOps P C B.n own ops.toList l fs0 σ K->∃fs σ',Runs P B ops (List.range' k l.length) σ fs σ'/\K (fs0++fs.map λp=>fxm p.2) σ'
 |[],k,fs0,σ,K,_,h=>⟨[],σ,.nil σ,by simpa[aOps]using h⟩
 |o::l,k,fs0,σ,K,hl,h=>by
  simp only[aOps]at h;obtain⟨fx,h2,he⟩:=aGuard_ok (B:=B) hC h;rw[frcF_eq]at h2;obtain⟨fs,σ',hr,hk⟩:=aOps_runs hC l (k+1) (fs0++[fxm fx]) (app σ fx.wr) K (λj=>by have:=hl (j+1);simpa[ybt,ycm 1 j]using this) h2;have ho:ops[k]?=some o:=by have:=hl 0;simpa using this.symm
  refine⟨(k,fx)::fs,σ',?_,by simpa using hk⟩;rw[zkL,List.range'_succ];exact .cons k o _ σ σ' fx fs ho he hr
def wanted_wp{o:Oper}{i:Nat}(ho:ops[i]?=some o){a:Act}{w:World}{K:Act->World->Prop}{Q:Exit->Act->World->Prop}(h:if Region.wanted o (yielded ops a.tmps)=true then o.wp P a w K Q else K (a.put o.dst undef) w):wpOp P ops Q i K a w:=by
 unfold wpOp;simp only[ho];split
 ·rename_i hw;rw[if_pos hw]at h;exact .inl h
 ·rename_i hw;rw[if_neg hw]at h;exact h
def runs_wp{l:List Nat}{σ σ':St}{fs:List (Nat×Fx)}(h:Runs P B ops l σ fs σ'):∀{a:Act} {w:World} {Q:Exit->Act->World->Prop},Sat B σ a w->(∀a' w',Sat B σ' a' w'->Q .normal a' w')->wpOps P ops Q l a w:=by
 induction h with
 |nil σ=>intro a w Q hs hQ;exact hQ a w hs
 |cons i o l σ σ' fx fs ho he hr ih =>
  intro a w Q hs hQ;rw[wpOps_cons];exact wanted_wp ho (he σ (λ_ _=>rfl) a w hs _ Q λa' w' a0=>ih a0 hQ)
def zka{σ:St}{l:Loc}:∀{wr:List (Loc×Ct)},(∀p∈wr,p.1≠l)->(app σ wr) l=σ l:=by
 intro wr
 induction wr generalizing σ with
 |nil=>intro _;rfl
 |cons p wr ih =>
  intro h;show(app (upd σ p.1 p.2) wr) l=σ l;rw[ih λq hq=>h q (yau _ hq)];rw[zd8,if_neg (λe=>h p ybl e.symm)]
def app_in{l:Loc}:∀{wr:List (Loc×Ct)} {σ τ:St},(∃p∈wr,p.1=l)->(app σ wr) l=(app τ wr) l:=by
 intro wr
 induction wr with
 |nil=>intro σ τ h;obtain⟨p,hp,_⟩:=h;cases hp
 |cons p wr ih =>
  intro σ τ h;show(app (upd σ p.1 p.2) wr) l=(app (upd τ p.1 p.2) wr) l;by_cases hw:∃q∈wr,q.1=l
  ·exact ih hw
  ·have hn:∀q∈wr,q.1≠l:=λq hq e=>hw ⟨q,hq,e⟩;rw[zka hn,zka hn];obtain⟨q,hq,e⟩:=h;rcases yaw.1 hq with rfl|hq
   ·rw[zd8,zd8,if_pos e.symm,if_pos e.symm]
   ·exact absurd e (hn q hq)
def app_comm{u v:List (Loc×Ct)}(h:∀p∈u,∀q∈v,p.1≠q.1)(σ:St):app (app σ u) v=app (app σ v) u:=by
 funext l;by_cases hu:∃p∈u,p.1=l
 ·have hv:∀q∈v,q.1≠l:=λq hq e=>by
   obtain⟨p,hp,e'⟩:=hu;exact h p hp q hq (e'.trans e.symm)
  rw[zka hv];exact app_in hu
 ·have hn:∀p∈u,p.1≠l:=λp hp e=>hu ⟨p,hp,e⟩;rw[zka (σ:=app σ v) hn];by_cases hv:∃q∈v,q.1=l
  ·exact app_in hv
  ·have hm:∀q∈v,q.1≠l:=λq hq e=>hv ⟨q,hq,e⟩;rw[zka hm,zka hm,zka hn]
def bit1_eq(m:Nat)(l:Loc):bit1 m l=Nat.lor m (Nat.pow 2 l.code):=by unfold bit1;rw[p2_eq];rfl
def bit1_old(m:Nat)(l:Loc)(i:Nat)(h:m.testBit i=true):(bit1 m l).testBit i=true:=by
 rw[bit1_eq];show(m ||| 2^l.code).testBit i=true
 rw[ye0,h,Bool.true_or]
def bit1_new(m:Nat)(l:Loc):(bit1 m l).testBit l.code=true:=by
 rw[bit1_eq];show(m ||| 2^l.code).testBit l.code=true
 rw[ye0,Nat.testBit_two_pow_self,Bool.or_true]
def mskR_old(ls:List Loc):∀(m i:Nat),m.testBit i=true->(mskR ls m).testBit i=true:=by
 induction ls with
 |nil=>intro m i h;exact h
 |cons l r ih=>intro m i h;exact ih _ i (bit1_old m l i h)
def mskR_mem{l:Loc}(ls:List Loc):∀(m:Nat),l∈ls->(mskR ls m).testBit l.code=true:=by
 induction ls with
 |nil=>intro m h;cases h
 |cons l' r ih =>
  intro m h;rcases yaw.1 h with rfl|h
  ·exact mskR_old r _ _ (bit1_new m l)
  ·exact ih _ h
def mskW_eq(ps:List (Loc×Ct)):∀m:Nat,mskW ps m=mskR (ps.map (·.1)) m:=by
 induction ps with
 |nil=>intro m;rfl
 |cons p r ih=>intro m;exact ih _
def zog{a b i:Nat}(h:Nat.land a b=0)(ha:a.testBit i=true)(hb:b.testBit i=true):False:=by
 have:(a &&& b).testBit i=true:=by rw[Nat.testBit_and,ha,hb];rfl
 rw[show a &&& b=0 from h,Nat.zero_testBit]at this;cases this
def indep_spec{f g:Fx}(h:indep f g=true):(∀p∈f.wr,p.1∉g.rd)/\(∀p∈f.wr,∀q∈g.wr,p.1≠q.1)/\∀p∈g.wr,p.1∉f.rd:=by
 unfold indep indepM at h;have h:=yar h;obtain⟨a2,h3⟩:=Nat.or_eq_zero_iff.1 (show(Nat.lor (Nat.land (fxm f).2 (fxm g).1) (Nat.land (fxm f).2 (fxm g).2)) ||| Nat.land (fxm g).2 (fxm f).1=0 from h);obtain⟨h1,h2⟩:=Nat.or_eq_zero_iff.1 (show Nat.land (fxm f).2 (fxm g).1 ||| Nat.land (fxm f).2 (fxm g).2=0 from a2)
 have wm:∀(f:Fx) p,p∈f.wr->(fxm f).2.testBit p.1.code=true:=λf p hp=>by
  show(mskW f.wr 0).testBit _=true;rw[mskW_eq];exact mskR_mem _ 0 (yao.2 ⟨p,hp,rfl⟩)
 have rm:∀(f:Fx) l,l∈f.rd->(fxm f).1.testBit l.code=true:=λf l hl=>mskR_mem _ 0 hl;exact⟨λp hp hc=>zog h1 (wm f p hp) (rm g _ hc),λp hp q hq e=>zog h2 (wm f p hp) (e ▸ wm g q hq),λp hp hc=>zog h3 (wm g p hp) (rm f _ hc)⟩
def EffG.agree{o:Oper}{σ σ1:St}{fx:Fx}(h:EffG P B ops o fx.rd σ fx.wr)(hag:∀l∈fx.rd,σ1 l=σ l):EffG P B ops o fx.rd σ1 fx.wr :=
 λσ' hag' a w hs K Q hK=>h σ' (λl hl=>(hag' l hl).trans (hag l hl)) a w hs K Q hK
def runs_front{l:List Nat}{σ σ':St}{fs:List (Nat×Fx)}(h:Runs P B ops l σ fs σ'){i:Nat}:∀{pre post:List (Nat×Fx)} {fx:Fx},fs=pre++(i,fx)::post->(∀p∈pre,indep p.2 fx=true) ->
  ∃l',Runs P B ops (i::l') σ ((i,fx)::(pre++post)) σ':=by
 induction h with
 |nil σ=>intro pre post fx e _;simp at e
 |cons j o l σ σ' fj fs ho he hr ih =>
  intro pre post fx e hp;cases pre with
  |nil =>
   simp only[ycj,List.cons.injEq,zkG]at e;obtain⟨⟨rfl,rfl⟩,rfl⟩:=e;exact⟨l,.cons j o l σ σ' fj fs ho he hr⟩
  |cons p pre =>
   simp only[yc2,List.cons.injEq]at e;obtain⟨rfl,e⟩:=e;obtain⟨l',a3⟩:=ih e λq hq=>hp q (yau _ hq);obtain⟨h1,h2,h3⟩:=indep_spec (hp (j,fj) ybl);cases a3 with
   |cons _ oi _ _ _ _ _ hoi hei hr2 =>
    have a2:EffG P B ops oi fx.rd σ fx.wr:=hei.agree λl hl=>(zka λp hp e=>h1 p hp (e ▸ hl)).symm;have a0:EffG P B ops o fj.rd (app σ fx.wr) fj.wr:=he.agree λl hl=>zka λp hp e=>h3 p hp (e ▸ hl);refine⟨j::l',.cons i oi _ σ σ' fx _ hoi a2 (.cons j o _ _ σ' fj _ ho a0 ?_)⟩;rw[<- app_comm h2];exact hr2
end
end
section
open Go.RowKit
def befStep_spec{acc:List Nat}{o:Oper}{j:Nat}(h:(zmo acc o).testBit j=true):∃e∈o.after.toList,Region.binds .any e=true/\(j=e.on\/(acc.getD e.on 0).testBit j=true):=by
 unfold zmo at h
 have key:∀(l:List Edge) (s:Nat),(l.foldl (λs e=>if Region.binds .any e=true then s ||| 2^e.on ||| acc.getD e.on 0 else s) s).testBit j=true ->
   s.testBit j=true\/∃e∈l,Region.binds .any e=true/\(j=e.on\/(acc.getD e.on 0).testBit j=true):=by
  intro l
  induction l with
  |nil=>intro s h;exact .inl h
  |cons e l ih =>
   intro s h;rw[yc6]at h;rcases ih _ h with h1|⟨e',he',h2⟩
   ·by_cases hb:Region.binds .any e=true
    ·rw[if_pos hb,ye0,ye0,yex,yex]at h1;rcases h1 with (h1|h1)|h1
     ·exact .inl h1
     ·rw[Nat.testBit_two_pow]at h1;exact .inr ⟨e,by simp,hb,.inl (of_decide_eq_true h1).symm⟩
     ·exact .inr ⟨e,by simp,hb,.inr h1⟩
    ·rw[if_neg hb]at h1;exact .inl h1
   ·exact .inr ⟨e',by simp[he'],h2⟩
 rcases key _ 0 h with h1|h1
 ·simp at h1
 ·exact h1
def befs_spec(ops:List Oper):∀(i:Nat) (o:Oper),ops[i]?=some o->∀j,((befs ops).getD i 0).testBit j=true->∃e∈o.after.toList,Region.binds .any e=true/\(j=e.on\/((befs ops).getD e.on 0).testBit j=true):=by
 have key:∀(rest pre:List Oper) (acc:List Nat),acc.length=pre.length->(∀(i:Nat) (o:Oper),pre[i]?=some o->∀j,(acc.getD i 0).testBit j=true->∃e∈o.after.toList,Region.binds .any e=true/\(j=e.on\/(acc.getD e.on 0).testBit j=true)) ->
   (∀(i:Nat) (o:Oper),(pre++rest)[i]?=some o->∀j,((rest.foldl (λacc o=>acc++[zmo acc o]) acc).getD i 0).testBit j=true->∃e∈o.after.toList,Region.binds .any e=true/\(j=e.on\/((rest.foldl (λacc o=>acc++[zmo acc o]) acc).getD e.on 0).testBit j=true)):=by
  intro rest
  induction rest with
  |nil=>intro pre acc _ h;simpa using h
  |cons o rest ih =>
   intro pre acc hl h;have e:pre++o::rest=(pre++[o])++rest:=by simp
   rw[e]
   have grow:∀p j,(acc.getD p 0).testBit j=true->((acc++[zmo acc o]).getD p 0).testBit j=true:=λp j hj=>by
    by_cases hp:p<acc.length
    ·rw[ybj,ya1,if_pos hp,<- ybj];exact hj
    ·rw[ybj,yat (by omega)]at hj;simp at hj
   refine ih (pre++[o]) (acc++[zmo acc o]) (by simp[hl]) λi o' a0 j hj=>?_;rw[ya1]at a0;split at a0
   ·rename_i hi;rw[ybj,ya1,if_pos (by omega),<- ybj]at hj;obtain⟨e1,h1,h2,h3⟩:=h i o' a0 j hj;exact⟨e1,h1,h2,h3.imp id (grow _ _)⟩
   ·rename_i hi
    have a2:i=acc.length:=by
     have:=(zkI.1 a0).1;simp at this;omega
    subst a2;have:o'=o:=by simpa[hl]using a0.symm
    subst this;rw[ybj,ya1,if_neg (by omega)]at hj;simp at hj;obtain⟨e1,h1,h2,h3⟩:=befStep_spec hj;exact⟨e1,h1,h2,h3.imp id (grow _ _)⟩
 intro i o ho j hj;exact key ops [] [] rfl (by simp) i o (by simpa using ho) j hj
def zoy{bs:List Nat}{f:Mk}{i:Nat}:∀{fs:List Mk} {j:Nat},drawRow bs f i j fs=true->∀(k:Nat) g,fs[k]?=some g->indepM f g=true\/(bs.getD (j+k) 0).testBit i=true
 |[],j,_,k,g,h=>by simp at h
 |g0::fs,j,h,k,g,hg=>by
  simp only[drawRow,yax,yex]at h;cases k with
  |zero=>simp at hg;subst hg;exact h.1
  |succ k =>
   have:=zoy h.2 k g (by simpa using hg);rw[show j+1+k=j+(k+1) from by omega]at this;exact this
def zo9{bs:List Nat}:∀{fs:List Mk} {i:Nat},zqj bs i fs=true->∀(p q:Nat) f g,p<q->fs[p]?=some f->fs[q]?=some g->indepM f g=true\/(bs.getD (i+q) 0).testBit (i+p)=true
 |[],i,_,p,q,f,g,_,hf,_=>by simp at hf
 |f0::fs,i,h,p,q,f,g,hpq,hf,hg=>by
  simp only[zqj,yax]at h;cases q with
  |zero=>omega
  |succ q =>
   cases p with
   |zero =>
    simp at hf;subst hf;have:=zoy h.1 q g (by simpa using hg);rw[show i+1+q=i+(q+1) from by omega]at this;exact this
   |succ p =>
    have:=zo9 h.2 p q f g (by omega) (by simpa using hf) (by simpa using hg);rw[show i+1+q=i+(q+1) from by omega,show i+1+p=i+(p+1) from by omega]at this;exact this
def zqa:∀{l:List Oper} {i:Nat},edgeOk i l=true->∀(k:Nat) o,l[k]?=some o->∀e∈o.after.toList,Region.binds .any e=true->e.on<i+k
 |[],i,_,k,o,h=>by simp at h
 |o0::l,i,h,k,o,ho=>by
  simp only[edgeOk,yax,ybf,yex,ydy]at h;cases k with
  |zero =>
   simp at ho;subst ho;intro e he hb;rcases h.1 e he with h1|h1
   ·rw[hb]at h1;cases h1
   ·exact zd5 h1
  |succ k =>
   intro e he hb;have:=zqa h.2 k o (by simpa using ho) e he hb;omega
section
variable {P:Program}{B:Base}{ops:Array Oper}
def runs_idx{l:List Nat}{σ σ':St}{fs:List (Nat×Fx)}(h:Runs P B ops l σ fs σ'):fs.map (·.1)=l/\∀i∈l,i<ops.size:=by
 induction h with
 |nil σ=>exact⟨rfl,by simp⟩
 |cons i o l σ σ' fx fs ho he hr ih =>
  refine⟨by simp[ih.1],λj hj=>?_⟩;rcases yaw.1 hj with rfl|hj
  ·exact(yb2.1 ho).1
  ·exact ih.2 j hj
def Apart(ops:Array Oper)(fs:List (Nat×Fx)):Prop :=
 fs.Pairwise λp q=>indep p.2 q.2=true\/((befs ops.toList).getD q.1 0).testBit p.1=true
def getD_two{l:Array Bool}{i:Nat}(h:i<l.size)(d d':Bool):l.getD i d=l.getD i d':=by simp[h]
def runs_any{Q:Exit->Act->World->Prop}(hed:edgeOk 0 ops.toList=true):∀(fuel:Nat) (listed:Array Bool) (l:List Nat) (σ σ':St) (fs:List (Nat×Fx)) (a:Act) (w:World),listed.size=ops.size->l.length=fuel->(∀i,i∈l↔listed.getD i true=false) ->
  (∀k o,ops[k]?=some o->listed.getD k false=true->∀j,((befs ops.toList).getD k 0).testBit j=true->listed.getD j false=true)->Apart ops fs->l.Pairwise (·<·)->Runs P B ops l σ fs σ'->Sat B σ a w->(∀a' w',Sat B σ' a' w'->Q .normal a' w') ->
  wpAny P .any ops Q fuel listed a w
 |0,listed,l,σ,σ',fs,a,w,hsz,hlen,hmem,hdn,hap,hnd,hr,hs,hQ=>by
  have hl:l=[]:=yaz hlen;subst hl;cases hr with
  |nil _ =>
   refine⟨?_,hQ a w hs⟩;rw[List.eq_nil_iff_forall_not_mem];intro i hi;exact absurd ((hmem i).2 (mem_ready.1 hi).1) (by simp)
 |fuel+1,listed,l,σ,σ',fs,a,w,hsz,hlen,hmem,hdn,hap,hnd,hr,hs,hQ=>by
  obtain⟨hidx,hlt⟩:=runs_idx hr
  have hon:∀i o,ops[i]?=some o->∀e∈o.after.toList,Region.binds .any e=true->e.on<i:=λi o ho e he hb=>by
   have:=zqa hed i o (by rw[ya6];exact ho) e he hb;omega
  refine⟨λhnil=>?_,λi hi=>?_⟩
  ·exfalso;cases l with
   |nil=>simp at hlen
   |cons i l =>
    have hi:=hlt i (by simp)
    have hrd:i∈Region.ready .any ops listed:=by
     rw[mem_ready];refine⟨(hmem i).1 (by simp),ops[i],yc5 hi,λe he hb=>?_⟩;have h1:=hon i ops[i] (yc5 hi) e (by simpa using he) hb
     have h2:e.on∉i::l:=λhm=>by
      rcases yaw.1 hm with h|h
      ·omega
      ·have:=(yco.1 hnd).1 _ h;omega
     rw[getD_two (by omega) false true];cases hc:listed.getD e.on true with
     |true=>rfl
     |false=>exact absurd ((hmem _).2 hc) h2
    rw[hnil]at hrd;cases hrd
  ·obtain⟨b6,o,ho,a8⟩:=mem_ready.1 hi;have a6:i∈l:=(hmem i).2 b6;have a5:=hlt i a6
   have b4:∀j,((befs ops.toList).getD i 0).testBit j=true->listed.getD j false=true:=λj hj=>by
    obtain⟨e,he,hb,h1⟩:=befs_spec ops.toList i o (by rw[ya6];exact ho) j hj;have hl:=a8 e (by simpa using he) hb;have b9:=hon i o ho e he hb;rcases h1 with rfl|h1
    ·exact hl
    ·exact hdn e.on ops[e.on] (yc5 (by omega)) hl j h1
   obtain⟨pre,fx,post,a0⟩:∃pre fx post,fs=pre++(i,fx)::post:=by
    rw[<- hidx]at a6;obtain⟨p,hp,e⟩:=yao.1 a6;obtain⟨pre,post,b8⟩:=List.append_of_mem hp;exact⟨pre,p.2,post,by rw[b8,<- e]⟩
   have a7:∀p∈pre,indep p.2 fx=true:=λp hp=>by
    unfold Apart at hap;rw[a0,ydp]at hap;rcases hap.2.2 p hp (i,fx) ybl with h1|h1
    ·exact h1
    ·have h2:=b4 p.1 h1;have a9:p.1∈l:=by rw[<- hidx,a0];exact yao.2 ⟨p,yan _ hp,rfl⟩
     have h3:=(hmem p.1).1 a9;rw[getD_two (by rw[hsz];exact hlt _ a9) true false,h2]at h3;cases h3
   obtain⟨l',b2⟩:=runs_front hr a0 a7;have a2:=(runs_idx b2).1;simp only[yav,List.cons.injEq,true_and]at a2;have a3:l=pre.map (·.1)++i::post.map (·.1):=by rw[<- hidx,a0];simp
   have a4:l'=pre.map (·.1)++post.map (·.1):=by rw[<- a2];simp
   have b3:List.Sublist l' l:=by
    rw[a3,a4];exact List.Sublist.append (List.Sublist.refl _) (ydx _ _)
   have b0:i∉l':=by
    rw[a3,ydp]at hnd;obtain⟨_,h2,h3⟩:=hnd;rw[a4,yam];rintro (h|h)
    ·have:=h3 i h i (by simp);omega
    ·have:=(yco.1 h2).1 i h;omega
   cases b2 with
   |cons _ oi _ _ _ _ _ hoi hei hr2 =>
    refine wanted_wp hoi (hei σ (λ_ _=>rfl) a w hs _ Q λa' w' b7=>?_);refine runs_any hed fuel (listed.setIfInBounds i true) l' _ σ' (pre++post) a' w' (by simp[hsz]) ?_ (λj=>?_) (λk ok b5 hk j hj=>?_) ?_ (hnd.sublist b3) hr2 b7 hQ
    ·rw[a3]at hlen;rw[a4];simp at hlen ⊢;omega
    ·by_cases e:j=i
     ·subst e;constructor
      ·intro h;exact absurd h b0
      ·intro h;rw[getD_two (by simp[hsz];exact a5) true false,show(listed.setIfInBounds j true).getD j false=true by simp[hsz,a5]]at h;cases h
     ·rw[getD_set_ne true (Ne.symm e),<- hmem j,a3,a4];simp[e]
    ·by_cases e:k=i
     ·subst e;exact getD_set_true (b4 j hj)
     ·rw[getD_set_ne false (Ne.symm e)]at hk;exact getD_set_true (hdn k ok b5 hk j hj)
    ·unfold Apart at hap ⊢;rw[a0]at hap;exact hap.sublist (List.Sublist.append (List.Sublist.refl _) (ydx _ _))
def apart_of{fs:List (Nat×Fx)}{n:Nat}(hidx:fs.map (·.1)=List.range n)(h:zqj (befs ops.toList) 0 (fs.map λp=>fxm p.2)=true):Apart ops fs:=by
 unfold Apart;rw[yb6];intro p q hp hq a0;have h1:=zo9 h p q (fxm fs[p].2) (fxm fs[q].2) a0 (by simp[hp]) (by simp[hq])
 have idx:∀r (hr:r<fs.length),fs[r].1=r:=λr hr=>by
  have:(fs.map (·.1))[r]?=some fs[r].1:=by simp[hr]
  rw[hidx]at this;have a2:fs.length=n:=by have:=congrArg List.length hidx;simpa using this
  rw[yba (by omega)]at this;injection this with this
  exact this.symm
 rw[idx p hp,idx q hq];unfold indep;simpa only[yal]using h1
def aRegion_ok(hm:P.follows .mixedOrders=true){C:FuncId->List Arg->Rs->Prop}(hC:∀g xs r,C g xs r->SpX P g xs r){own:List Nat}{id:Nat}{draw:Bool}{σ:St}{K:Exit->St->Prop}
  (h:aOps P C B.n own ops.toList ops.toList [] σ λfs σ'=>Chk (!draw||drawOk ops.toList fs) (K .normal σ')) {a:Act} {w:World} (hs:Sat B σ a w) {Q:Exit->Act->World->Prop} (hQ:∀e σ' a' w',K e σ'->Sat B σ' a' w'->Q e a' w'):(Code.region id ops draw).wp P Q a w:=by
 obtain⟨fs,σ',hr,hk⟩:=aOps_runs (B:=B) (ops:=ops) hC ops.toList 0 [] σ _ (λj=>by simp) h;rw[<- List.range_eq_range']at hr;rw[ycj]at hk;obtain⟨a0,a5⟩:=hk.ok;have a4:ops.toList.length=ops.size:=by simp
 rw[a4]at hr;cases draw with
 |false=>exact wp_region (runs_wp hr hs λa' w' a2=>hQ .normal σ' a' w' a5 a2)
 |true =>
  simp only[yck,yfo]at a0;unfold drawOk at a0;rw[yax]at a0;refine wp_region_any hm ?_;have a3:=(runs_idx hr).1;refine runs_any a0.1 ops.size (Array.replicate ops.size false) (List.range ops.size) σ σ' fs a _ (by simp) (by simp) (λi=>?_) (λk o ho hk=>?_) (apart_of a3 a0.2) List.pairwise_lt_range hr ?_ λa' w' a2=>hQ .normal σ' a' w' a5 a2
  ·by_cases h:i<ops.size
   ·simp[h]
   ·simp[h]
  ·have:k<ops.size:=(yb2.1 ho).1;simp[this]at hk
  ·obtain⟨ρ,hs⟩:=hs;exact⟨ρ,(hs.world (w':={ w with drawn:=w.drawn+1 }) ⟨rfl,rfl,rfl,yaq _,λ_ _=>rfl⟩).1⟩
end
end
end Go.Proofs.YtkeplokjplkcmaaGreat.Sym

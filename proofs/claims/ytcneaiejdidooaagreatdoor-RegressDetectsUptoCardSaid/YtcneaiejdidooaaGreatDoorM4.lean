/-
  Parts of the proof, behind each other.
-/
import Derived.Test.YtcneaiejdidooaaGreatDoorM3
set_option linter.all false
namespace Go.Proofs.YtcneaiejdidooaaGreatDoor.Sym
section
set_option maxRecDepth 100000
structure zdx (m:zaa):Prop where
 i1:1≤m.Inputs
 i2:m.Inputs≤64
 n1:0<m.Next.length
 n2:m.Next.length≤128
 st:0≤m.Start∧m.Start<(↑m.Next.length:Int)
 ol:m.Out.length=m.Next.length
 row:∀ s,s<m.Next.length→∃ x y,m.Next[s]?=some x∧m.Out[s]?=some y∧(↑x.length:Int)=m.Inputs∧(↑y.length:Int)=m.Inputs∧(∀ u∈x,0≤u∧u<(↑m.Next.length:Int))∧∀ v∈y,0≤v∧v≤1048576
def nx (m:zaa) (s a:Nat):Nat:=((((m.Next[s]?).getD [])[a]?).getD 0).toNat
def ot (m:zaa) (s a:Nat):Int:=(((m.Out[s]?).getD [])[a]?).getD 0
section
variable {m:zaa}
theorem zdx.at (H:zdx m) {s a:Nat} (hs:s<m.Next.length) (ha:a<m.Inputs.toNat):nx m s a<m.Next.length∧0≤ot m s a∧ot m s a≤1048576∧∃ x y,m.Next[s]?=some x∧m.Out[s]?=some y∧x[a]?=some (↑(nx m s a):Int)∧y[a]?=some (ot m s a):=by
 obtain ⟨x,y,h1,h2,h3,h4,h5,h6⟩:=H.row s hs;have hx:=get_at (l:=x) (i:=a) (by omega);have hy:=get_at (l:=y) (i:=a) (by omega)
 have e1:nx m s a=(x[a]'(by omega)).toNat:=by
  unfold nx;rw [h1,Option.getD_some,hx,Option.getD_some]
 have e2:ot m s a=y[a]'(by omega):=by
  unfold ot;rw [h2,Option.getD_some,hy,Option.getD_some]
 have g1:=h5 _ (List.getElem_mem (by omega:a<x.length));have g2:=h6 _ (List.getElem_mem (by omega:a<y.length));refine ⟨by rw [e1];omega,by rw [e2];exact g2.1,by rw [e2];exact g2.2,x,y,h1,h2,?_,by rw [e2];exact hy⟩;rw [hx,e1];congr 1;omega
def outs (m:zaa):Nat→List Int→List Int
 | _,[]=>[]
 | s,a::w=>ot m s a.toNat::outs m (nx m s a.toNat) w
def dest (m:zaa):Nat→List Int→Nat
 | s,[]=>s
 | s,a::w=>dest m (nx m s a.toNat) w
def WOk (n:Int) (w:List Int):Prop:=∀ a∈w,0≤a∧a<n
theorem zfz:∀ (w v:List Int) (s:Nat),outs m s (w++v)=outs m s w++outs m (dest m s w) v
 | [],_,_=>rfl
 | a::w,v,s=>by
  show ot m s a.toNat::outs m (nx m s a.toNat) (w++v)=_;rw [zfz w v];rfl
theorem ze9:∀ (w v:List Int) (s:Nat),dest m s (w++v)=dest m (dest m s w) v
 | [],_,_=>rfl
 | _::w,v,_=>ze9 w v _
theorem zfg:∀ (w:List Int) (s:Nat),(outs m s w).length=w.length
 | [],_=>rfl
 | a::w,s=>by
  show (outs m (nx m s a.toNat) w).length+1=w.length+1;rw [zfg w]
theorem WOk.tail {n:Int} {a:Int} {w:List Int} (h:WOk n (a::w)):WOk n w:=fun x hx=>h x (List.mem_cons_of_mem _ hx)
theorem WOk.head {n:Int} {a:Int} {w:List Int} (h:WOk n (a::w)):0≤a∧a<n:=h a (by simp)
theorem WOk.take {n:Int} {w:List Int} (h:WOk n w) (k:Nat):WOk n (w.take k):=fun x hx=>h x (List.mem_of_mem_take hx)
theorem WOk.append {n:Int} {w v:List Int} (h:WOk n w) (g:WOk n v):WOk n (w++v):=fun x hx=>(List.mem_append.1 hx).elim (h x) (g x)
theorem zdx.dest (H:zdx m):∀ {w:List Int} {s:Nat},WOk m.Inputs w→s<m.Next.length→dest m s w<m.Next.length
 | [],_,_,hs=>hs
 | a::w,s,hw,hs=>by
  have:=hw.head;exact H.dest (w:=w) hw.tail (H.at hs (a:=a.toNat) (by omega)).1
def RowRng (n:Nat) (u v:Int):Prop:=(0≤u∧u<(↑n:Int))∧0≤v∧v≤1048576
theorem R06_row_tot (h1:m.Inputs≤64) {s:Nat} (hs:s<m.Next.length) (ho:m.Out.length=m.Next.length):∃ e,zhy m (↑s:Int)=some e∧(e=0→∃ x y,m.Next[s]?=some x∧m.Out[s]?=some y∧(↑x.length:Int)=m.Inputs∧(↑y.length:Int)=m.Inputs∧(∀ u∈x,0≤u∧u<(↑m.Next.length:Int))∧∀ v∈y,0≤v∧v≤1048576):=by
 obtain ⟨x,hx⟩:∃ x,m.Next[s]?=some x:=⟨_,get_at hs⟩;obtain ⟨y,hy⟩:∃ y,m.Out[s]?=some y:=⟨_,get_at (l:=m.Out) (i:=s) (by omega)⟩;unfold zhy;rw [zcs rfl hx];by_cases g1:(↑x.length:Int)=m.Inputs
 ·by_cases g2:(↑y.length:Int)=m.Inputs
  ·rw [zkA (fun h=>h g1),zkC,zcs rfl hy,zkA (fun h=>h g2),zao,zkC]
   obtain ⟨r,hr,hq⟩:=zb1 (step:=fun a=>zhy.s2 m (↑s:Int) a) (fun a=>a≤x.length∧∀ b u v,b<a→x[b]?=some u→y[b]?=some v→RowRng m.Next.length u v) (fun a=>x.length-a) (fun r=>r=.inr 2∨(r=.inl ()∧∀ b u v,b<x.length→x[b]?=some u→y[b]?=some v→RowRng m.Next.length u v)) (fun a ⟨q1,q2⟩=>by
    simp only [zhy.s2]
    by_cases q3:a<x.length
    ·obtain ⟨u,ha⟩:∃ u,x[a]?=some u:=⟨_,get_at q3⟩
     obtain ⟨v,hb⟩:∃ v,y[a]?=some v:=⟨_,get_at (l:=y) (i:=a) (by omega)⟩
     rw [zkB (by omega),zkD,zcs rfl hx,zau ha]
     by_cases z1:u<0
     ·right
      exact ⟨.inr 2,by rw [zkB z1];rfl,Or.inl rfl⟩
     rw [zkA z1,zkC,zcs rfl hx,zau ha]
     by_cases z2:(↑m.Next.length:Int)≤u
     ·right
      exact ⟨.inr 2,by rw [zkB z2];rfl,Or.inl rfl⟩
     rw [zkA z2,zkC,zcs rfl hy,zau hb]
     by_cases z3:v<0
     ·right
      exact ⟨.inr 2,by rw [zkB z3];rfl,Or.inl rfl⟩
     rw [zkA z3,zkC,zcs rfl hy,zau hb]
     by_cases z4:1048576<v
     ·right
      exact ⟨.inr 2,by rw [zkB z4];rfl,Or.inl rfl⟩
     left
     refine ⟨a+1,by rw [zkA z4,zao,zkC,zar (by unfold inR;omega)],⟨q3,fun b u' v' hb' hu hv=>?_⟩,by omega⟩
     rcases Nat.lt_or_ge b a with h | h
     ·exact q2 b u' v' h hu hv
     ·have e:b=a:=by omega
      subst e
      rw [ha] at hu
      rw [hb] at hv
      injection hu with hu
      injection hv with hv
      subst hu
      subst hv
      exact ⟨⟨by omega,by omega⟩,by omega,by omega⟩
    ·right
     have e:a=x.length:=by omega
     subst e
     exact ⟨.inl (),by rw [zkA (by omega),zkC],Or.inr ⟨rfl,q2⟩⟩) fuel 0 ⟨Nat.zero_le _,fun b _ _ h=>absurd h (Nat.not_lt_zero _)⟩ (by have:=zbg;omega)
   rw [hr,zao];rcases hq with rfl | ⟨rfl,hq⟩
   ·exact ⟨2,rfl,fun h=>by cases h⟩
   ·refine ⟨0,rfl,fun _=>⟨x,y,hx,hy,g1,g2,fun u hu=>?_,fun v hv=>?_⟩⟩
    ·obtain ⟨b,hb,rfl⟩:=List.mem_iff_getElem.1 hu;exact (hq b _ _ hb (get_at hb) (get_at (l:=y) (by omega))).1
    ·obtain ⟨b,hb,rfl⟩:=List.mem_iff_getElem.1 hv;exact (hq b _ _ (by omega) (get_at (l:=x) (by omega)) (get_at hb)).2
  ·exact ⟨1,by rw [zkA (fun h=>h g1),zkC,zcs rfl hy,zkB g2];rfl,fun h=>by cases h⟩
 ·exact ⟨1,by rw [zkB g1];rfl,fun h=>by cases h⟩
theorem R06_Valid_tot (m:zaa):∃ e,zex m=some e∧(e=0→zdx m):=by
 unfold zex;by_cases c1:m.Inputs<1
 ·exact ⟨2,by rw [zkB c1];rfl,fun h=>by cases h⟩
 rw [zkA c1,zkC];by_cases c2:64<m.Inputs
 ·exact ⟨2,by rw [zkB c2];rfl,fun h=>by cases h⟩
 rw [zkA c2,zao,zkC];by_cases c3:(↑m.Next.length:Int)=0
 ·exact ⟨19,by rw [zkB c3];rfl,fun h=>by cases h⟩
 rw [zkA c3,zkC];by_cases c4:128<(↑m.Next.length:Int)
 ·exact ⟨11,by rw [zkB c4];rfl,fun h=>by cases h⟩
 rw [zkA c4,zkC];by_cases c5:m.Start<0
 ·exact ⟨2,by rw [zkB c5];rfl,fun h=>by cases h⟩
 rw [zkA c5,zkC];by_cases c6:(↑m.Next.length:Int)≤m.Start
 ·exact ⟨2,by rw [zkB c6];rfl,fun h=>by cases h⟩
 rw [zkA c6,zao,zkC];by_cases c7:(↑m.Out.length:Int)=(↑m.Next.length:Int)
 ·rw [zkA (fun h=>h c7),zkC];have ho:m.Out.length=m.Next.length:=by omega
  obtain ⟨r,hr,hq⟩:=zb1 (step:=fun s=>zex.s2 m s) (fun a=>a≤m.Next.length∧∀ s,s<a→∃ x y,m.Next[s]?=some x∧m.Out[s]?=some y∧(↑x.length:Int)=m.Inputs∧(↑y.length:Int)=m.Inputs∧(∀ u∈x,0≤u∧u<(↑m.Next.length:Int))∧∀ v∈y,0≤v∧v≤1048576) (fun a=>m.Next.length-a) (fun r=>(∃ e,r=.inr e∧e≠0)∨(r=.inl ()∧∀ s,s<m.Next.length→∃ x y,m.Next[s]?=some x∧m.Out[s]?=some y∧(↑x.length:Int)=m.Inputs∧(↑y.length:Int)=m.Inputs∧(∀ u∈x,0≤u∧u<(↑m.Next.length:Int))∧∀ v∈y,0≤v∧v≤1048576)) (fun a ⟨q1,q2⟩=>by
   simp only [zex.s2]
   by_cases q3:a<m.Next.length
   ·obtain ⟨e,he,hz⟩:=R06_row_tot (m:=m) (by omega) q3 ho
    rw [zkB (by omega),zkD,he,zao]
    by_cases z:e=0
    ·left
     refine ⟨a+1,by rw [zkA (fun h=>h z),zkC],⟨q3,fun s hs=>?_⟩,by omega⟩
     rcases Nat.lt_or_ge s a with h | h
     ·exact q2 s h
     ·have e2:s=a:=by omega
      subst e2
      exact hz z
    ·right
     exact ⟨.inr e,by rw [zkB z,zkD],Or.inl ⟨e,rfl,z⟩⟩
   ·right
    have e:a=m.Next.length:=by omega
    subst e
    exact ⟨.inl (),by rw [zkA (by omega),zkC],Or.inr ⟨rfl,q2⟩⟩) fuel 0 ⟨Nat.zero_le _,fun s h=>absurd h (Nat.not_lt_zero _)⟩ (by have:=zbg;omega)
  rw [hr,zao];rcases hq with ⟨e,rfl,hz⟩ | ⟨rfl,hq⟩
  ·exact ⟨e,rfl,fun h=>absurd h hz⟩
  ·exact ⟨0,rfl,fun _=>⟨by omega,by omega,by omega,by omega,⟨by omega,by omega⟩,ho,hq⟩⟩
 ·exact ⟨1,by rw [zkB c7];rfl,fun h=>by cases h⟩
theorem macOk_of (h:zex m=some 0):zdx m:=by
 obtain ⟨e,he,hz⟩:=R06_Valid_tot m;rw [h] at he;injection he with he
 exact hz he.symm
end
end
section
set_option maxRecDepth 100000
theorem zlw {m:zaa} (H:zdx m):za4 m=some 0:=by
 have i1:=H.i1;have i2:=H.i2;have n1:=H.n1;have n2:=H.n2;have st:=H.st;have ol:=H.ol;unfold za4;rw [zkA (by omega),zkC,zkA (by omega),zao,zkC,zkA (by omega),zkC,zkA (by omega),zkC,zkA (by omega),zkC,zkA (by omega),zao,zkC,zkA (by omega),zkC]
 have inner:∀ s,s<m.Next.length→iter (fun (a:Nat)=>za4.s13 m s a) fuel 0=some (.inl ()):=fun s hs =>
  zgs (fun a=>a≤m.Inputs.toNat) (fun a=>m.Inputs.toNat-a) (fun a ha=>by
   simp only [za4.s13]
   by_cases g:a<m.Inputs.toNat
   ·left
    obtain ⟨h1,h2,h3,x,y,hx,hy,hxa,hya⟩:=H.at hs g
    refine ⟨a+1,?_,g,by omega⟩
    rw [zkB (by omega),zkD,zau hx,zau hxa,zau hy,zau hya,zkA (by omega),zkC,zkA (by omega),zkC,zkA (by omega),zkC,zkA (by omega),zao,zkC,zar (by unfold inR;omega)]
   ·right
    rw [zkA (by omega),zkC]) (Nat.zero_le _) (by have:=zbg;omega)
 have outer:iter (fun (s:Nat)=>za4.s14 m s) fuel 0=some (.inl ()) :=
  zgs (fun s=>s≤m.Next.length) (fun s=>m.Next.length-s) (fun s hs=>by
   simp only [za4.s14]
   by_cases g:s<m.Next.length
   ·left
    obtain ⟨x,y,hx,hy,hl1,hl2,_,_⟩:=H.row s g
    refine ⟨s+1,?_,g,by omega⟩
    rw [zkB (by omega),zkD,zau hx,zkA (by omega),zkC,zau hy,zkA (by omega),zao,zkC,inner s g,zao]
    rfl
   ·right
    rw [zkA (by omega),zkC]) (Nat.zero_le _) (by have:=zbg;omega)
 rw [outer,zao];rfl
abbrev costOk (l:zbf):Prop:=(∀ c∈l.Step,0≤c∧c≤1048576)∧0≤l.Reset∧l.Reset≤1048576
abbrev zfp (n:Int):Prop:=0≤n∧n≤1125899906842624
abbrev faultOk (f:zbz):Prop:=(0≤f.Lost∧f.Lost≤10000)∧(0≤f.Wrong∧f.Wrong≤10000)∧(0≤f.Crash∧f.Crash≤10000)∧f.Lost+f.Wrong+f.Crash≤10000
theorem zdc (n m:Int):zcp n m=some (decide (n<0∨m<n)):=by
 unfold zcp;by_cases h1:n<0<;>by_cases h2:m<n<;>simp [h1,h2]
theorem zk7 (u:za5):zda u=some (decide (zfp u.Device.Steps∧zfp u.Device.Resets∧zfp u.Device.Time)):=by
 unfold zda;simp only [zdc,zao];by_cases h1:u.Device.Steps<0∨1125899906842624<u.Device.Steps
 ·rw [zkB h1,zkA (show ¬ (zfp u.Device.Steps∧zfp u.Device.Resets∧zfp u.Device.Time) by omega)];rfl
 ·rw [zkA h1];by_cases h2:u.Device.Resets<0∨1125899906842624<u.Device.Resets
  ·rw [zkB h2,zkA (show ¬ (zfp u.Device.Steps∧zfp u.Device.Resets∧zfp u.Device.Time) by omega)];rfl
  ·rw [zkA h2];by_cases h3:u.Device.Time<0∨1125899906842624<u.Device.Time
   ·rw [zkB h3,zkA (show ¬ (zfp u.Device.Steps∧zfp u.Device.Resets∧zfp u.Device.Time) by omega)];rfl
   ·rw [zkA h3,zkB (by omega)];rfl
theorem zkl {l:zbf} (hl:l.Step.length≤100000000) (h:costOk l):zfa l=some 0:=by
 unfold zfa zed;rw [zdc,zao,zao,zkA (by have:=h.2;omega),zkC,zql (p:=fun n=>decide (n<0∨1048576<n)) (by omega) fun x _=>by rw [zdc,zao],zao]
 have:(l.Step.any fun n=>decide (n<0∨1048576<n))=false:=List.any_eq_false.2 fun x hx=>by
  have:=h.1 x hx;simp only [decide_eq_true_eq];omega
 rw [this,zao,zkC]
structure zgo (d:zae):Prop where
 v6:zex d.M=some 0
 st:0≤d.State∧d.State<(↑d.M.Next.length:Int)
 ll:(↑d.Latency.Step.length:Int)=d.M.Inputs
 lc:costOk d.Latency
 fl:faultOk d.Faults
 c1:zfp d.Steps
 c2:zfp d.Resets
 c3:zfp d.Time
theorem zgo.mac {d:zae} (H:zgo d):zdx d.M:=macOk_of H.v6
theorem zgo.lat {d:zae} (H:zgo d):d.Latency.Step.length≤64:=by
 have:=H.ll;have:=H.mac.i2;omega
theorem zqi {d:zae} (H:zgo d):zeo d=some 0:=by
 have hl:=H.lat;have st:=H.st;obtain ⟨f1,f2,f3,f4⟩:=H.fl;unfold zeo;rw [zlw H.mac,zao,zkA (by decide),zkC];simp only [zdc,zao];rw [zkA (by omega),zkC,zkA (fun h=>h H.ll),zkC,zkl (by omega) H.lc,zao,zkA (by decide),zkC,zkA (by omega),zkC,zkA (by omega),zkC,zkA (by omega),zkC,zar (by unfold inR;omega),zar (by unfold inR;omega),zkA (by omega),zkC,zk7,zao];simp only;rw [zkB ⟨H.c1,H.c2,H.c3⟩];rfl
def zgd (d:zae):zae×Int :=
 if zfp (d.Resets+1)∧zfp (d.Time+d.Latency.Reset) then (⟨d.M,d.M.Start,true,d.Latency,d.Faults,d.Seed,d.Steps,d.Resets+1,d.Time+d.Latency.Reset⟩,0) else (d,11)
def costD (d:zae) (a:Int):Int:=(d.Latency.Step[a.toNat]?).getD 0
def outD (f:zbz) (x o:Int):Int:=if x<f.Lost then -1 else if x<f.Lost+f.Wrong then (if o=1048576 then o-1 else o+1) else o
def readyD (f:zbz) (x:Int) (b:Bool):Bool:=if x<f.Lost+f.Wrong then b else if x<f.Lost+f.Wrong+f.Crash then false else b
def zde (d:zae) (a:Int):zae×Int×Int :=
 if d.Ready=false then (d,0,10) else if zfp (d.Steps+1)∧zfp (d.Time+costD d a) then
  (⟨d.M,(↑(nx d.M d.State.toNat a.toNat):Int),readyD d.Faults (↑(zpv d.Seed.toNat).1:Int) d.Ready,d.Latency,d.Faults,(↑(zpv d.Seed.toNat).2:Int),d.Steps+1,d.Resets,d.Time+costD d a⟩,outD d.Faults (↑(zpv d.Seed.toNat).1:Int) (ot d.M d.State.toNat a.toNat),0)
 else (d,0,11)
section
variable {d:zae}
theorem reset_p (H:zgo d):zek ⟨d⟩=some ((zgd d).2,⟨(zgd d).1⟩):=by
 have c1:=H.c1;have c2:=H.c2;have c3:=H.c3;have lr:=H.lc.2;unfold zek zgd;rw [zar (by unfold inR;simp only;omega),zar (by unfold inR;simp only;omega),zk7,zao];simp only;by_cases h:zfp (d.Resets+1)∧zfp (d.Time+d.Latency.Reset)
 ·rw [if_pos h,zkB ⟨H.c1,h.1,h.2⟩];rfl
 ·rw [if_neg h,zkA fun e=>h e.2];rfl
theorem zrh (H:zgo d):zgo (zgd d).1:=by
 unfold zgd;split
 ·rename_i h;exact ⟨H.v6,H.mac.st,H.ll,H.lc,H.fl,H.c1,h.1,h.2⟩
 ·exact H
theorem seed_nat (h:0≤d.Seed∧d.Seed<18446744073709551616):d.Seed=(↑d.Seed.toNat:Int):=by omega
theorem stepD_ok (H:zgo d) (hs:0≤d.Seed∧d.Seed<18446744073709551616) {a:Int} (ha:0≤a∧a<d.M.Inputs):zgo (zde d a).1∧(0≤(zde d a).1.Seed∧(zde d a).1.Seed<18446744073709551616)∧(zde d a).1.M=d.M∧(-1≤(zde d a).2.1∧(zde d a).2.1≤1048576):=by
 have st:=H.st;obtain ⟨h1,h2,h3,_⟩:=H.mac.at (s:=d.State.toNat) (a:=a.toNat) (by omega) (by omega);have hd:=draw_lt d.Seed.toNat;unfold zde;split
 ·exact ⟨H,hs,rfl,by simp,by simp⟩
 split
 ·rename_i h;refine ⟨⟨H.v6,⟨by simp only;omega,by simp only;omega⟩,H.ll,H.lc,H.fl,h.1,H.c2,h.2⟩,⟨by simp only;omega,by simp only;omega⟩,rfl,?_⟩;simp only;unfold outD;split
  ·decide
  ·split
   ·split<;>omega
   ·omega
 ·exact ⟨H,hs,rfl,by simp,by simp⟩
theorem step_p (H:zgo d) (hs:0≤d.Seed∧d.Seed<18446744073709551616) {a:Int} (ha:0≤a∧a<d.M.Inputs):zeu ⟨d⟩ a=some ((zde d a).2.1,(zde d a).2.2,⟨(zde d a).1⟩):=by
 have c1:=H.c1;have c2:=H.c2;have c3:=H.c3;have st:=H.st;have i2:=H.mac.i2;have ll:=H.ll;obtain ⟨f1,f2,f3,f4⟩:=H.fl;obtain ⟨h1,h2,h3,x,y,hx,hy,hxa,hya⟩:=H.mac.at (s:=d.State.toNat) (a:=a.toNat) (by omega) (by omega)
 have hc:d.Latency.Step[a.toNat]?=some (costD d a):=by
  unfold costD;rw [zkM (by omega)];rfl
 have hcr:=H.lc.1 _ (zkH hc);have ea:a=(↑a.toNat:Int):=by omega
 have es:d.State=(↑d.State.toNat:Int):=by omega
 have hB:=zqd d.Seed.toNat;rw [← seed_nat hs] at hB;unfold zeu zde;simp only;cases hr:d.Ready with
 | false =>
  rw [if_pos rfl];rfl
 | true =>
  rw [if_neg (by decide),Bool.not_true,zkC,zar (by unfold inR;omega),zdc,zao,zkA (by omega),zkC,zar (by unfold inR;omega),zcs ea hc,zar (by unfold inR;omega),zk7,zao];simp only;by_cases h:zfp (d.Steps+1)∧zfp (d.Time+costD d a)
  ·rw [if_pos h,zkB ⟨h.1,H.c2,h.2⟩,Bool.not_true,zkC,hB,zao];simp only;rw [zkA (by decide),zkC,zcs es hx,zcs ea hxa,zcs es hy,zcs ea hya];unfold outD readyD;by_cases k1:(↑(zpv d.Seed.toNat).1:Int)<d.Faults.Lost
   ·rw [zkB k1,zkD,if_pos k1,if_pos (by omega)]
   ·rw [zkA k1,zkC,zar (by unfold inR;omega),if_neg k1];by_cases k2:(↑(zpv d.Seed.toNat).1:Int)<d.Faults.Lost+d.Faults.Wrong
    ·rw [zkB k2,zkD,zao,if_pos k2,if_pos k2];by_cases k3:ot d.M d.State.toNat a.toNat=1048576
     ·rw [zkB k3,zkD,if_pos k3,zar (by unfold inR;omega)]
     ·rw [zkA k3,zkC,if_neg k3,zar (by unfold inR;omega),zkD,zar (by unfold inR;omega)]
    ·rw [zkA k2,zkC,zao,zkC,if_neg k2,if_neg k2,zar (by unfold inR;omega),zkC,zar (by unfold inR;omega),zar (by unfold inR;omega)];by_cases k4:(↑(zpv d.Seed.toNat).1:Int)<d.Faults.Lost+d.Faults.Wrong+d.Faults.Crash
     ·rw [zkB k4,zkD,if_pos k4]
     ·rw [zkA k4,zkC,if_neg k4]
  ·rw [if_neg h,zkA fun e=>h ⟨e.1,e.2.2⟩];rfl
end
end
section
set_option maxRecDepth 100000
theorem cap24 {n:Nat} (h:n≤3000000):zbh n 24:=by unfold zbh;omega
theorem zl1 {l:List (List Int)} (h:SmL l):zdk l=some l:=by
 have hl:=h.1;unfold zdk;rw [zar ⟨by decide,by omega,by rw [Int.toNat_natCast];exact cap24 (by omega)⟩]
 have key:=zb1 (step:=fun (s:List (List Int)×Nat)=>zdk.s2 l s.1 s.2) (fun s=>s.2≤l.length∧s.1=l.take s.2) (fun s=>l.length-s.2) (fun r=>r=l) (fun ⟨y,i⟩ ⟨g1,g2⟩=>by
  simp only at g1 g2
  subst g2
  simp only [zdk.s2]
  by_cases g3:i<l.length
  ·left
   have hx:=get_at g3
   refine ⟨(l.take (i+1),i+1),?_,⟨g3,rfl⟩,by simp only;omega⟩
   rw [zfl hx,zkD,zau hx,zce (h.2 _ (List.getElem_mem _)),zao,zar (cap24 (by rw [List.length_take];omega)),zck hx]
  ·right
   have e:i=l.length:=by omega
   subst e
   exact ⟨l,by rw [zfd,zkC,List.take_length],rfl⟩) fuel ([],0) ⟨Nat.zero_le _,rfl⟩ (by have:=zbg;simp only;omega)
 obtain ⟨r,e,rfl⟩:=key;rw [e,zao]
theorem zl4 {l:List (List Int)} (h:SmL l):zdm l=some l:=by
 have hl:=h.1;unfold zdm
 have key:=zb1 (step:=fun (s:List (List Int)×Nat)=>zdm.s2 l s.1 s.2) (fun s=>s.2≤l.length∧s.1=l.take s.2) (fun s=>l.length-s.2) (fun r=>r=l) (fun ⟨y,i⟩ ⟨g1,g2⟩=>by
  simp only at g1 g2
  subst g2
  simp only [zdm.s2]
  by_cases g3:i<l.length
  ·left
   have hx:=get_at g3
   refine ⟨(l.take (i+1),i+1),?_,⟨g3,rfl⟩,by simp only;omega⟩
   rw [zfl hx,zkD,zau hx,zce (h.2 _ (List.getElem_mem _)),zao,zar (cap24 (by rw [List.length_take];omega)),zck hx]
  ·right
   have e:i=l.length:=by omega
   subst e
   exact ⟨l,by rw [zfd,zkC,List.take_length],rfl⟩) fuel ([],0) ⟨Nat.zero_le _,rfl⟩ (by have:=zbg;simp only;omega)
 obtain ⟨r,e,rfl⟩:=key;rw [e,zao]
theorem zdx.sml {m:zaa} (H:zdx m):SmL m.Next∧SmL m.Out:=by
 have n2:=H.n2;have ol:=H.ol;have i2:=H.i2;refine ⟨⟨by omega,fun x hx=>?_⟩,⟨by omega,fun x hx=>?_⟩⟩
 all_goals
  obtain ⟨s,hs,rfl⟩:=List.mem_iff_getElem.1 hx;obtain ⟨x,y,h1,h2,h3,h4,_⟩:=H.row s (by omega);unfold SmW
 ·rw [get_at hs] at h1;injection h1 with h1
  rw [h1];omega
 ·rw [get_at hs] at h2;injection h2 with h2
  rw [h2];omega
theorem zgo.sw {d:zae} (H:zgo d):SmW d.Latency.Step:=by
 have:=H.lat;unfold SmW;omega
theorem zp0 {d:zae} (H:zgo d):zge d=some d:=by
 unfold zge;rw [zl1 H.mac.sml.1,zao,zl1 H.mac.sml.2,zao,zce H.sw,zao]
theorem zj6 {q:zah} (H:zgo q.Device) (ho:SmTr q.Obs.Traces):zcw q=some q:=by
 have hl:=ho.1;unfold zcw;rw [zl4 H.mac.sml.1,zao,zl4 H.mac.sml.2,zao,zce H.sw,zao]
 have key:=zb1 (step:=fun (s:List zab×Nat)=>zcw.s2 q s.1 s.2) (fun s=>s.2≤q.Obs.Traces.length∧s.1=q.Obs.Traces.take s.2) (fun s=>q.Obs.Traces.length-s.2) (fun r=>r=q.Obs.Traces) (fun ⟨y,i⟩ ⟨g1,g2⟩=>by
  simp only at g1 g2
  subst g2
  simp only [zcw.s2]
  by_cases g3:i<q.Obs.Traces.length
  ·left
   have hx:=get_at g3
   have hs:=ho.2 _ (List.getElem_mem g3)
   refine ⟨(q.Obs.Traces.take (i+1),i+1),?_,⟨g3,rfl⟩,by simp only;omega⟩
   rw [zfl hx,zkD,zau hx,zce hs.1,zao,zce hs.2,zao,zar (capT (by rw [List.length_take];omega)),zck hx]
  ·right
   have e:i=q.Obs.Traces.length:=by omega
   subst e
   exact ⟨q.Obs.Traces,by rw [zfd,zkC,List.take_length],rfl⟩) fuel ([],0) ⟨Nat.zero_le _,rfl⟩ (by have:=zbg;simp only;omega)
 obtain ⟨r,e,rfl⟩:=key;rw [e,zao]
def qryD:zae→List Int→List Int→zae×List Int×Int
 | d,ys,[]=>(d,ys,0)
 | d,ys,a::w=>if (zde d a).2.2≠0 then ((zde d a).1,[],(zde d a).2.2) else if (zde d a).2.1<0∨((zde d a).1.Ready=false∧w≠[]) then ((zde d a).1,[],14) else qryD (zde d a).1 (ys++[(zde d a).2.1]) w
def zcg (d:zae) (w:List Int):zae×List Int×Int :=
 if (zgd d).2≠0 then (d,[],(zgd d).2) else qryD (zgd d).1 [] w
abbrev zhn (d:zae):Prop:=0≤d.Seed∧d.Seed<18446744073709551616
theorem qryD_ok:∀ (w ys:List Int) (d:zae),zgo d→zhn d→WOk d.M.Inputs w→(∀ y∈ys,0≤y∧y≤1048576) →
  zgo (qryD d ys w).1∧zhn (qryD d ys w).1∧(qryD d ys w).1.M=d.M∧((qryD d ys w).2.2=0→(qryD d ys w).2.1.length=ys.length+w.length∧∀ y∈(qryD d ys w).2.1,0≤y∧y≤1048576)∧((qryD d ys w).2.2=0∨(qryD d ys w).2.2=10∨(qryD d ys w).2.2=11∨(qryD d ys w).2.2=14)
 | [],ys,d,H,S,_,hy=>⟨H,S,rfl,fun _=>⟨rfl,hy⟩,.inl rfl⟩
 | a::w,ys,d,H,S,hw,hy=>by
  obtain ⟨h1,h2,h3,h4⟩:=stepD_ok H S hw.head;unfold qryD;by_cases g1:(zde d a).2.2≠0
  ·rw [if_pos g1];refine ⟨h1,h2,h3,fun e=>absurd e g1,?_⟩;simp only;unfold zde;split
   ·exact .inr (.inl rfl)
   ·split
    ·exact .inl rfl
    ·exact .inr (.inr (.inl rfl))
  ·rw [if_neg g1];by_cases g2:(zde d a).2.1<0∨((zde d a).1.Ready=false∧w≠[])
   ·rw [if_pos g2];exact ⟨h1,h2,h3,fun e=>(by cases e),.inr (.inr (.inr rfl))⟩
   ·rw [if_neg g2]
    obtain ⟨k1,k2,k3,k4,k5⟩:=qryD_ok w (ys++[(zde d a).2.1]) (zde d a).1 h1 h2 (by rw [h3];exact hw.tail) fun y hy'=>by
     rcases List.mem_append.1 hy' with e | e
     ·exact hy y e
     ·rw [List.mem_singleton.1 e];exact ⟨by omega,h4.2⟩
    refine ⟨k1,k2,by rw [k3,h3],fun e=>⟨?_,(k4 e).2⟩,k5⟩;rw [(k4 e).1,zkJ,zkL];simp;omega
section
variable {d:zae} {w ys:List Int}
abbrev tupD (d:zae) (ys:List Int) (i:Nat):Int×Int×List (List Int)×List (List Int)×Int×Bool×List Int×Int×Int×Int×Int×Int×Int×Int×Int×List Int×Nat :=
 (d.M.Inputs,d.M.Start,d.M.Next,d.M.Out,d.State,d.Ready,d.Latency.Step,d.Latency.Reset,d.Faults.Lost,d.Faults.Wrong,d.Faults.Crash,d.Seed,d.Steps,d.Resets,d.Time,ys,i)
theorem dq_step (H:zgo d) (S:zhn d) {i:Nat} {a:Int} (hx:w[i]?=some a) (ha:0≤a∧a<d.M.Inputs) (hy:ys.length≤100000) :
  zb0.s2 w d.M.Inputs d.M.Start d.M.Next d.M.Out d.State d.Ready d.Latency.Step d.Latency.Reset d.Faults.Lost d.Faults.Wrong d.Faults.Crash d.Seed d.Steps d.Resets d.Time ys i =
   some (if (zde d a).2.2≠0 then .inr (.inr ((zde d a).1,[],(zde d a).2.2)) else if (zde d a).2.1<0∨((zde d a).1.Ready=false∧i+1<w.length) then .inr (.inr ((zde d a).1,[],14)) else .inl (tupD (zde d a).1 (ys++[(zde d a).2.1]) (i+1))):=by
 unfold zb0.s2;rw [zfl hx,zkD,zau hx];have he:=step_p H S ha;have hd:(⟨(⟨⟨d.M.Inputs,d.M.Start,d.M.Next,d.M.Out⟩,d.State,d.Ready,⟨d.Latency.Step,d.Latency.Reset⟩,⟨d.Faults.Lost,d.Faults.Wrong,d.Faults.Crash⟩,d.Seed,d.Steps,d.Resets,d.Time⟩:zae)⟩:za5)=⟨d⟩:=rfl;rw [hd,he,zao];simp only;by_cases g1:(zde d a).2.2≠0
 ·rw [if_pos g1,zkB g1,zkD]
 ·rw [if_neg g1,zkA g1,zkC]
  have hb:(cond (decide ((zde d a).2.1<0)) (some true) (cond (!(zde d a).1.Ready) (some (decide (((↑i:Int)+1)<(↑(List.length w):Int)))) (some false)):Option Bool)=some (decide ((zde d a).2.1<0∨((zde d a).1.Ready=false∧i+1<w.length))):=by
   by_cases k1:(zde d a).2.1<0
   ·rw [zkB k1,zkD,zkB (.inl k1)]
   ·rw [zkA k1,zkC];cases hr:(zde d a).1.Ready with
    | true =>
     rw [Bool.not_true,zkC,zkA fun e=>?_];rcases e with e | e
     ·exact k1 e
     ·cases e.1
    | false =>
     rw [Bool.not_false,zkD];congr 1;exact decide_eq_decide.2 ⟨fun e=>.inr ⟨rfl,by omega⟩,fun e=>by rcases e with e | e;exact absurd e k1;omega⟩
  rw [hb,zao];by_cases g2:(zde d a).2.1<0∨((zde d a).1.Ready=false∧i+1<w.length)
  ·rw [if_pos g2,zkB g2,zkD]
  ·rw [if_neg g2,zkA g2,zkC,zar (by unfold zbh;omega)]
end
abbrev Tup15:Type:=Int×Int×List (List Int)×List (List Int)×Int×Bool×List Int×Int×Int×Int×Int×Int×Int×Int×Int×List Int
abbrev tup15 (d:zae) (ys:List Int):Tup15:=(d.M.Inputs,d.M.Start,d.M.Next,d.M.Out,d.State,d.Ready,d.Latency.Step,d.Latency.Reset,d.Faults.Lost,d.Faults.Wrong,d.Faults.Crash,d.Seed,d.Steps,d.Resets,d.Time,ys)
def qryR (r:zae×List Int×Int):Tup15⊕(zae×List Int×Int):=if r.2.2=0 then .inl (tup15 r.1 r.2.1) else .inr r
theorem qry_iter {S2:Int×Int×List (List Int)×List (List Int)×Int×Bool×List Int×Int×Int×Int×Int×Int×Int×Int×Int×List Int×Nat→Option ((Int×Int×List (List Int)×List (List Int)×Int×Bool×List Int×Int×Int×Int×Int×Int×Int×Int×Int×List Int×Nat)⊕(Tup15⊕(zae×List Int×Int)))} {w:List Int}
  (h1:∀ (d:zae) (ys:List Int) (i:Nat) (a:Int),zgo d→zhn d→w[i]?=some a→0≤a∧a<d.M.Inputs→ys.length≤100000→S2 (tupD d ys i)=some (if (zde d a).2.2≠0 then .inr (.inr ((zde d a).1,[],(zde d a).2.2)) else if (zde d a).2.1<0∨((zde d a).1.Ready=false∧i+1<w.length) then .inr (.inr ((zde d a).1,[],14)) else .inl (tupD (zde d a).1 (ys++[(zde d a).2.1]) (i+1))))
  (h2:∀ d ys,S2 (tupD d ys w.length)=some (.inr (.inl (tup15 d ys)))) (hl:w.length≤2000) :
  ∀ (n i:Nat) (d:zae) (ys:List Int),zgo d→zhn d→WOk d.M.Inputs w→ys.length=i→i≤w.length→w.length-i<n→iter S2 n (tupD d ys i)=some (qryR (qryD d ys (w.drop i)))
 | 0,_,_,_,_,_,_,_,_,h=>absurd h (Nat.not_lt_zero _)
 | n+1,i,d,ys,H,S,hw,hy,hi,hn=>by
  unfold iter;rcases Nat.lt_or_ge i w.length with h | h
  ·have hx:=get_at h;have ha:=hw _ (List.getElem_mem h);rw [h1 d ys i _ H S hx ha (by omega),List.drop_eq_getElem_cons h];obtain ⟨k1,k2,k3,k4⟩:=stepD_ok H S ha
   have hnil:i+1<w.length↔w.drop (i+1)≠[]:=by
    rw [ne_eq,List.drop_eq_nil_iff];omega
   unfold qryD;by_cases g1:(zde d w[i]).2.2≠0
   ·rw [if_pos g1,if_pos g1];unfold qryR;rw [if_neg g1]
   ·rw [if_neg g1,if_neg g1];by_cases g2:(zde d w[i]).2.1<0∨((zde d w[i]).1.Ready=false∧i+1<w.length)
    ·rw [if_pos g2,if_pos (by rw [← hnil];exact g2)];rfl
    ·rw [if_neg g2,if_neg (by rw [← hnil];exact g2)];exact qry_iter h1 h2 hl n (i+1) (zde d w[i]).1 _ k1 k2 (by rw [k3];exact hw) (by rw [zkJ,List.length_singleton,hy]) h (by omega)
  ·have e:i=w.length:=by omega
   subst e;rw [h2,List.drop_length];rfl
theorem zm1 {w:List Int} {n:Int} (h:zby w n=0):WOk n w:=zqt h
theorem Query_p {d:zae} {w:List Int} (H:zgo d) (S:zhn d) (hw:zby w d.M.Inputs=0) (hl:w.length≤1024):zb0 d w=some (zcg d w):=by
 have hsw:SmW w:=by unfold SmW;omega
 have r1:=reset_p H;have hr:=zrh H;have hf:=zbg
 have hM:(zgd d).1.M=d.M∧zhn (zgd d).1:=by
  unfold zgd;split
  ·exact ⟨rfl,S⟩
  ·exact ⟨rfl,S⟩
 unfold zb0 zcg;rw [zqi H,zao,zkA (by decide),zkC,zgg _ _ hsw,zao,hw,zkA (by decide),zkC,zp0 H,zao,r1,zao];simp only;by_cases g:(zgd d).2≠0
 ·rw [if_pos g,zkB g,zkD]
 ·rw [if_neg g,zkA g,zkC,zar ⟨by decide,by omega,by unfold zbh;omega⟩]
  have key:=qry_iter (w:=w) (S2:=fun s=>zb0.s2 w s.1 s.2.1 s.2.2.1 s.2.2.2.1 s.2.2.2.2.1 s.2.2.2.2.2.1 s.2.2.2.2.2.2.1 s.2.2.2.2.2.2.2.1 s.2.2.2.2.2.2.2.2.1 s.2.2.2.2.2.2.2.2.2.1 s.2.2.2.2.2.2.2.2.2.2.1 s.2.2.2.2.2.2.2.2.2.2.2.1 s.2.2.2.2.2.2.2.2.2.2.2.2.1 s.2.2.2.2.2.2.2.2.2.2.2.2.2.1 s.2.2.2.2.2.2.2.2.2.2.2.2.2.2.1 s.2.2.2.2.2.2.2.2.2.2.2.2.2.2.2.1 s.2.2.2.2.2.2.2.2.2.2.2.2.2.2.2.2) (fun d ys i a H S hx ha hy=>dq_step H S hx ha hy) (fun d ys=>by
   show zb0.s2 w _ _ _ _ _ _ _ _ _ _ _ _ _ _ _ _ _=_
   unfold zb0.s2
   rw [zfd,zkC]) (by omega) fuel 0 (zgd d).1 [] hr hM.2 (by rw [hM.1];exact zm1 hw) rfl (Nat.zero_le _) (by omega)
  rw [List.drop_zero] at key;refine (congrArg (fun z=>Option.bind z _) key).trans ?_;rw [zao];unfold qryR;by_cases g3:(qryD (zgd d).1 [] w).2.2=0
  ·rw [if_pos g3];simp only [Sum.elim_inl,zb0.k3];rw [← g3]
  ·rw [if_neg g3];rfl
theorem zrw {d:zae} {w:List Int} (H:zgo d) (S:zhn d) (hw:zby w d.M.Inputs=0) :
  zgo (zcg d w).1∧zhn (zcg d w).1∧(zcg d w).1.M=d.M∧((zcg d w).2.2=0→(zcg d w).2.1.length=w.length∧∀ y∈(zcg d w).2.1,0≤y∧y≤1048576):=by
 have hM:(zgd d).1.M=d.M∧zhn (zgd d).1:=by
  unfold zgd;split
  ·exact ⟨rfl,S⟩
  ·exact ⟨rfl,S⟩
 unfold zcg;split
 ·rename_i g;exact ⟨H,S,rfl,fun e=>absurd e g⟩
 ·obtain ⟨k1,k2,k3,k4,_⟩:=qryD_ok w [] (zgd d).1 (zrh H) hM.2 (by rw [hM.1];exact zm1 hw) fun y hy=>by simp at hy
  exact ⟨k1,k2,by rw [k3,hM.1],fun e=>⟨by rw [(k4 e).1];simp,(k4 e).2⟩⟩
def voteF (need:Int):List (List Int)→List (List Int)→Option (List Int)
 | _,[]=>none
 | pre,w::r=>if (↑((pre++[w]).count w):Int)=need then some w else voteF need (pre++[w]) r
abbrev bk (w:List Int):ByteArray:=⟨(keyL w).toArray⟩
theorem bk_inj {a b:List Int} (h:bk a=bk b):a=b:=keyL_inj (by
 injection h with h
 injection h)
def WrdOk (w:List Int):Prop:=w.length≤100000∧∀ x∈w,inR x
theorem nondet_key_eq {w:List Int} (h:WrdOk w):zlc w=some (bk w):=by
 have:=h.1;unfold zlc;rw [zar h.2,zar (by omega)]
theorem vote_iter {l:List (List Int)} {need:Int} (hl:l.length≤100000) (hw:∀ x∈l,WrdOk x) :
  iter (fun (s:List (ByteArray×Int)×Nat)=>zcu.s2 l need s.1 s.2) fuel ([],0)=some (match voteF need [] l with | some w=>.inr (w,0,l) | none=>.inl ()):=by
 have key:∀ (n i:Nat) (m:List (ByteArray×Int)),i≤l.length→(∀ w,(mget (bk w) m).getD 0=(↑((l.take i).count w):Int))→l.length-i<n→iter (fun (s:List (ByteArray×Int)×Nat)=>zcu.s2 l need s.1 s.2) n (m,i)=some (match voteF need (l.take i) (l.drop i) with | some w=>.inr (w,0,l) | none=>.inl ()):=by
  intro n
  induction n with
  | zero=>intro i m _ _ h;omega
  | succ n ih =>
   intro i m hi hm hn;unfold iter;simp only [zcu.s2];rcases Nat.lt_or_ge i l.length with h | h
   ·have hx:=get_at h;have hk:=hw _ (List.getElem_mem h)
    have hc:(l.take (i+1)).count l[i]=(l.take i).count l[i]+1:=by
     rw [zck hx,List.count_append];simp
    have hcl:(l.take i).count l[i]≤l.length:=Nat.le_trans List.count_le_length (by rw [List.length_take];omega);rw [zfl hx,zkD,zau hx,nondet_key_eq hk,zao,hm,zar (by unfold inR;omega),zg8 ba_beq,Option.getD_some,List.drop_eq_getElem_cons h];unfold voteF;rw [← zck hx,hc];by_cases g:(↑((l.take i).count l[i]):Int)+1=need
    ·rw [zkB g,zkD,zce (by have:=hk.1;unfold SmW;omega),zao,if_pos (by omega)]
    ·rw [zkA g,zkC,if_neg (by omega)];refine ih (i+1) _ h (fun w=>?_) (by omega);by_cases e:l[i]=w
     ·rw [← e,zg8 ba_beq,Option.getD_some,hc];rfl
     ·rw [zik ba_beq (fun e2=>e (bk_inj e2).symm),hm,zck hx,List.count_append];simp [e]
   ·have e:i=l.length:=by omega
    subst e;rw [zfd,zkC,List.drop_length];rfl
 have:=key fuel 0 [] (Nat.zero_le _) (fun w=>by simp [mget]) (by have:=zbg;omega);rw [List.take_zero,List.drop_zero] at this;exact this
theorem zpw {l:List (List Int)} {need:Int} (hn:1≤need∧need≤9) (hl:l.length≤100000) (hw:∀ x∈l,WrdOk x) :
  zcu l need=some (match voteF need [] l with | some w=>(w,0,l) | none=>([],13,l)):=by
 unfold zcu;rw [zkA (by omega),zkC,zkA (by omega),zao,zkC,vote_iter hl hw,zao];cases voteF need [] l<;>rfl
def Few (need:Int) (l:List (List Int)):Prop:=∀ w,(↑(l.count w):Int)<need
theorem voteF_few {need:Int}:∀ (r pre:List (List Int)) (x:List Int),Few need (pre++r)→voteF need pre (r++[x])=if (↑((pre++r++[x]).count x):Int)<need then none else some x
 | [],pre,x,h=>by
  have h1:=h x;rw [List.append_nil] at h1 ⊢;have h2:(pre++[x]).count x=pre.count x+1:=by rw [List.count_append];simp
  rw [List.nil_append];unfold voteF;rw [h2];by_cases g:(↑(pre.count x+1):Int)<need
  ·rw [if_pos g,if_neg (by omega)];rfl
  ·rw [if_neg g,if_pos (by omega)]
 | w::r,pre,x,h=>by
  have h1:=h w
  have h2:(pre++[w]).count w≤(pre++w::r).count w:=by
   rw [List.count_append,List.count_append,List.count_cons];simp
  rw [List.cons_append];unfold voteF;rw [if_neg (by omega),voteF_few r (pre++[w]) x (by rw [List.append_assoc];exact h)];simp
theorem few_nil {need:Int} (h:1≤need):Few need []:=fun w=>by simp;omega
theorem few_add {need:Int} {l:List (List Int)} {x:List Int} (h:Few need l) (hx:(↑((l++[x]).count x):Int)<need):Few need (l++[x]):=fun w=>by
 by_cases e:x=w
 ·rw [← e];exact hx
 ·have:=h w;rw [List.count_append];simp [e];exact this
end
section
set_option maxRecDepth 100000
structure OrOk (q:zah):Prop where
 dev:zgo q.Device
 seed:zhn q.Device
 obs:zj8 q.Obs
 tr:SmTr q.Obs.Traces
 inp:q.Obs.Inputs=q.Device.M.Inputs
 v1:1≤q.Votes
 v2:q.Votes≤9
 t1:q.Votes≤q.Tries
 t2:q.Tries≤64
def askL (w:List Int) (votes:Int):Nat→zae→Int→List (List Int)→zae×Int×List (List Int)×Option (List Int)
 | 0,d,n,ys=>(d,n,ys,none)
 | k+1,d,n,ys=>if (zcg d w).2.2≠0 then askL w votes k (zcg d w).1 (mdI (n+1)) ys else if (↑((ys++[(zcg d w).2.1]).count (zcg d w).2.1):Int)<votes then askL w votes k (zcg d w).1 (mdI (n+1)) (ys++[(zcg d w).2.1]) else ((zcg d w).1,mdI (n+1),ys++[(zcg d w).2.1],some (zcg d w).2.1)
def askR (q:zah) (w:List Int):zae×Int×List (List Int)×Option (List Int):=askL w q.Votes q.Tries.toNat q.Device q.Asked []
def askE (q:zah) (w:List Int) (r:zae×Int×List (List Int)×Option (List Int)):zah×List Int×Int :=
 match r.2.2.2 with
 | none=>(⟨r.1,q.Obs,q.Votes,q.Tries,r.2.1,q.Hits⟩,[],if r.2.2.1=[] then 14 else 13)
 | some out=>if (addO q.Obs ⟨w,out⟩).2≠0 then (⟨r.1,q.Obs,q.Votes,q.Tries,r.2.1,q.Hits⟩,[],(addO q.Obs ⟨w,out⟩).2) else (⟨r.1,(addO q.Obs ⟨w,out⟩).1,q.Votes,q.Tries,r.2.1,q.Hits⟩,out,0)
def askO (q:zah) (w:List Int):zah×List Int×Int :=
 if zby w q.Device.M.Inputs≠0 then (q,[],zby w q.Device.M.Inputs) else
  match ansO q.Obs w with
  | some r=>(⟨q.Device,q.Obs,q.Votes,q.Tries,q.Asked,mdI (q.Hits+1)⟩,r,0)
  | none=>askE q w (askR q w)
theorem mdI_small {n:Int} (h:inR n):mdI n=n:=by
 unfold inR at h;unfold mdI;rw [IntKind.wrap_i64];omega
structure zps (q:zah) (w:List Int) (d:zae) (ys:List (List Int)) (i:Int):Prop where
 dev:zgo d
 seed:zhn d
 mac:d.M=q.Device.M
 i0:0≤i
 i1:i≤q.Tries
 len:(↑ys.length:Int)≤i
 wrd:∀ y∈ys,WrdOk y
 few:Few q.Votes ys
section
variable {q:zah} {w:List Int} {d:zae} {ys:List (List Int)} {i n:Int}
theorem zps.out (Q:OrOk q) (hw:zby w q.Device.M.Inputs=0) (hl:w.length≤1024) (T:zps q w d ys i) (h:(zcg d w).2.2=0):WrdOk (zcg d w).2.1∧(zcg d w).2.1.length=w.length∧∀ y∈(zcg d w).2.1,0≤y∧y≤1048576:=by
 have hM:=T.mac;obtain ⟨_,_,_,k4⟩:=zrw (w:=w) T.dev T.seed (by rw [hM];exact hw);obtain ⟨g1,g2⟩:=k4 h;exact ⟨⟨by omega,fun x hx=>by have:=g2 x hx;unfold inR;omega⟩,g1,g2⟩
theorem zps.next (Q:OrOk q) (hw:zby w q.Device.M.Inputs=0) (hl:w.length≤1024) (T:zps q w d ys i) (hi:i<q.Tries):zps q w (zcg d w).1 ys (i+1):=by
 have hM:=T.mac;have h0:=T.i0;have h1:=T.len;obtain ⟨k1,k2,k3,_⟩:=zrw (w:=w) T.dev T.seed (by rw [hM];exact hw);exact ⟨k1,k2,by rw [k3,hM],by omega,by omega,by omega,T.wrd,T.few⟩
theorem zps.more (Q:OrOk q) (hw:zby w q.Device.M.Inputs=0) (hl:w.length≤1024) (T:zps q w d ys i) (hi:i<q.Tries) (h:(zcg d w).2.2=0) (hc:(↑((ys++[(zcg d w).2.1]).count (zcg d w).2.1):Int)<q.Votes):zps q w (zcg d w).1 (ys++[(zcg d w).2.1]) (i+1):=by
 have T2:=T.next Q hw hl hi;have h1:=T.len;refine ⟨T2.dev,T2.seed,T2.mac,T2.i0,T2.i1,by rw [zkJ,List.length_singleton];omega,fun y hy=>?_,few_add T.few hc⟩;rcases List.mem_append.1 hy with e | e
 ·exact T.wrd y e
 ·rw [List.mem_singleton.1 e];exact (T.out Q hw hl h).1
abbrev TA:Type:=Int×Int×List (List Int)×List (List Int)×Int×Bool×List Int×Int×Int×Int×Int×Int×Int×Int×Int×Int×List (List Int)×List Int×Int×Int
abbrev TR:Type:=Int×Int×List (List Int)×List (List Int)×Int×Bool×List Int×Int×Int×Int×Int×Int×Int×Int×Int×Int×List Int×Int
abbrev tupA (d:zae) (n:Int) (ys:List (List Int)) (ans:List Int) (code i:Int):TA:=(d.M.Inputs,d.M.Start,d.M.Next,d.M.Out,d.State,d.Ready,d.Latency.Step,d.Latency.Reset,d.Faults.Lost,d.Faults.Wrong,d.Faults.Crash,d.Seed,d.Steps,d.Resets,d.Time,n,ys,ans,code,i)
abbrev tupR (d:zae) (n:Int) (ans:List Int) (code:Int):TR:=(d.M.Inputs,d.M.Start,d.M.Next,d.M.Out,d.State,d.Ready,d.Latency.Step,d.Latency.Reset,d.Faults.Lost,d.Faults.Wrong,d.Faults.Crash,d.Seed,d.Steps,d.Resets,d.Time,n,ans,code)
theorem dev_eta (d:zae):(⟨⟨d.M.Inputs,d.M.Start,d.M.Next,d.M.Out⟩,d.State,d.Ready,⟨d.Latency.Step,d.Latency.Reset⟩,⟨d.Faults.Lost,d.Faults.Wrong,d.Faults.Crash⟩,d.Seed,d.Steps,d.Resets,d.Time⟩:zae)=d:=rfl
theorem pa_step {code:Int} (Q:OrOk q) (hw:zby w q.Device.M.Inputs=0) (hl:w.length≤1024) (T:zps q w d ys i) :
  zcd.s10 w q d.M.Inputs d.M.Start d.M.Next d.M.Out d.State d.Ready d.Latency.Step d.Latency.Reset d.Faults.Lost d.Faults.Wrong d.Faults.Crash d.Seed d.Steps d.Resets d.Time n ys [] code i=some (if i<q.Tries then (if (zcg d w).2.2≠0 then .inl (tupA (zcg d w).1 (mdI (n+1)) ys [] code (mdI (i+1))) else if (↑((ys++[(zcg d w).2.1]).count (zcg d w).2.1):Int)<q.Votes then .inl (tupA (zcg d w).1 (mdI (n+1)) (ys++[(zcg d w).2.1]) [] 13 (mdI (i+1))) else .inr (tupR (zcg d w).1 (mdI (n+1)) (zcg d w).2.1 0)) else .inr (tupR d n [] code)):=by
 have t2:=Q.t2;have h1:=T.len;unfold zcd.s10;by_cases g:i<q.Tries
 ·rw [if_pos g,zkB g,zkD,dev_eta,Query_p T.dev T.seed (by rw [T.mac];exact hw) hl,zao];by_cases g1:(zcg d w).2.2≠0
  ·rw [if_pos g1,zkB g1,zkD,zao];rfl
  ·have g1':(zcg d w).2.2=0:=Classical.byContradiction g1;have ho:=T.out Q hw hl g1';rw [if_neg g1,zkA g1,zkC,zar (cap24 (by omega)),zpw ⟨Q.v1,Q.v2⟩ (by rw [zkJ,List.length_singleton];omega) fun y hy=>?_,zao,voteF_few ys [] _ (by rw [List.nil_append];exact T.few),List.nil_append]
   ·by_cases g2:(↑((ys++[(zcg d w).2.1]).count (zcg d w).2.1):Int)<q.Votes
    ·rw [if_pos g2,if_pos g2];rfl
    ·rw [if_neg g2,if_neg g2];rfl
   ·rcases List.mem_append.1 hy with e | e
    ·exact T.wrd y e
    ·rw [List.mem_singleton.1 e];exact ho.1
 ·rw [if_neg g,zkA g,zkC]
theorem pa_iter (Q:OrOk q) (hw:zby w q.Device.M.Inputs=0) (hl:w.length≤1024):∀ (f:Nat) (k:Nat) (d:zae) (n:Int) (ys:List (List Int)) (i:Int),zps q w d ys i→q.Tries-i=(↑k:Int)→k<f →
  iter (fun s=>zcd.s10 w q s.1 s.2.1 s.2.2.1 s.2.2.2.1 s.2.2.2.2.1 s.2.2.2.2.2.1 s.2.2.2.2.2.2.1 s.2.2.2.2.2.2.2.1 s.2.2.2.2.2.2.2.2.1 s.2.2.2.2.2.2.2.2.2.1 s.2.2.2.2.2.2.2.2.2.2.1 s.2.2.2.2.2.2.2.2.2.2.2.1 s.2.2.2.2.2.2.2.2.2.2.2.2.1 s.2.2.2.2.2.2.2.2.2.2.2.2.2.1 s.2.2.2.2.2.2.2.2.2.2.2.2.2.2.1 s.2.2.2.2.2.2.2.2.2.2.2.2.2.2.2.1 s.2.2.2.2.2.2.2.2.2.2.2.2.2.2.2.2.1 s.2.2.2.2.2.2.2.2.2.2.2.2.2.2.2.2.2.1 s.2.2.2.2.2.2.2.2.2.2.2.2.2.2.2.2.2.2.1 s.2.2.2.2.2.2.2.2.2.2.2.2.2.2.2.2.2.2.2:TA→Option (TA⊕TR)) f (tupA d n ys [] (if ys=[] then 14 else 13) i)=some (tupR (askL w q.Votes k d n ys).1 (askL w q.Votes k d n ys).2.1 ((askL w q.Votes k d n ys).2.2.2.getD []) (match (askL w q.Votes k d n ys).2.2.2 with | some _=>0 | none=>if (askL w q.Votes k d n ys).2.2.1=[] then 14 else 13))
 | 0,_,_,_,_,_,_,_,h=>absurd h (Nat.not_lt_zero _)
 | f+1,0,d,n,ys,i,T,hk,_=>by
  unfold iter askL;rw [pa_step Q hw hl T,if_neg (by omega)];rfl
 | f+1,k+1,d,n,ys,i,T,hk,hf=>by
  have t2:=Q.t2;have h0:=T.i0;unfold iter askL;rw [pa_step Q hw hl T,if_pos (by omega),mdI_small (n:=i+1) (by unfold inR;omega)];by_cases g1:(zcg d w).2.2≠0
  ·rw [if_pos g1,if_pos g1];exact pa_iter Q hw hl f k _ _ ys (i+1) (T.next Q hw hl (by omega)) (by omega) (by omega)
  ·have g1':(zcg d w).2.2=0:=Classical.byContradiction g1;rw [if_neg g1,if_neg g1];by_cases g2:(↑((ys++[(zcg d w).2.1]).count (zcg d w).2.1):Int)<q.Votes
   ·rw [if_pos g2,if_pos g2];have:=pa_iter Q hw hl f k _ (mdI (n+1)) (ys++[(zcg d w).2.1]) (i+1) (T.more Q hw hl (by omega) g1' g2) (by omega) (by omega);rw [if_neg (by simp)] at this;exact this
   ·rw [if_neg g2,if_neg g2];rfl
theorem znm (Q:OrOk q):zps q w q.Device [] 0:=⟨Q.dev,Q.seed,rfl,by decide,by have:=Q.v1;have:=Q.t1;omega,by simp,fun y hy=>by simp at hy,few_nil Q.v1⟩
theorem zns (Q:OrOk q) (hw:zby w q.Device.M.Inputs=0) (hl:w.length≤1024):∀ (k:Nat) (d:zae) (n:Int) (ys:List (List Int)) (i:Int),zps q w d ys i→q.Tries-i=(↑k:Int) →
  zgo (askL w q.Votes k d n ys).1∧zhn (askL w q.Votes k d n ys).1∧(askL w q.Votes k d n ys).1.M=q.Device.M∧∀ out,(askL w q.Votes k d n ys).2.2.2=some out→out.length=w.length∧∀ y∈out,0≤y∧y≤1048576
 | 0,d,n,ys,i,T,_=>⟨T.dev,T.seed,T.mac,fun out h=>by cases h⟩
 | k+1,d,n,ys,i,T,hk=>by
  unfold askL;by_cases g1:(zcg d w).2.2≠0
  ·rw [if_pos g1];exact zns Q hw hl k _ _ ys (i+1) (T.next Q hw hl (by omega)) (by omega)
  ·have g1':(zcg d w).2.2=0:=Classical.byContradiction g1;rw [if_neg g1];by_cases g2:(↑((ys++[(zcg d w).2.1]).count (zcg d w).2.1):Int)<q.Votes
   ·rw [if_pos g2];exact zns Q hw hl k _ _ _ (i+1) (T.more Q hw hl (by omega) g1' g2) (by omega)
   ·rw [if_neg g2];have T2:=T.next Q hw hl (by omega);refine ⟨T2.dev,T2.seed,T2.mac,fun out h=>?_⟩;have h:some (zcg d w).2.1=some out:=h;injection h with h
    rw [← h];exact (T.out Q hw hl g1').2
theorem Ask_p (Q:OrOk q) (hl:w.length≤100000):zcd q w=some (askO q w):=by
 have hsw:SmW w:=by unfold SmW;omega
 have hf:=zbg;have t2:=Q.t2;have hk:q.Tries-0=(↑q.Tries.toNat:Int):=by have:=Q.v1;have:=Q.t1;omega
 unfold zcd askO;rw [zgg _ _ hsw,zao];by_cases hw:zby w q.Device.M.Inputs=0
 ·have hl2:w.length≤1024:=by
   have i1:=Q.dev.mac.i1;have i2:=Q.dev.mac.i2;unfold zby at hw;rw [if_pos (by omega)] at hw;split at hw
   ·cases hw
   ·omega
  rw [if_neg (by simpa using hw),hw,zkA (by decide),zkC,zj6 Q.dev Q.tr,zao,zna Q.tr Q.obs,zao];cases ha:ansO q.Obs w with
  | some r =>
   have hr:SmW r:=by
    unfold ansO at ha;split at ha
    ·injection ha with ha
     rw [← ha];unfold SmW;simp
    ·cases hf:q.Obs.Traces.find? fun t=>decide (w <+: t.In) with
     | none=>rw [hf] at ha;cases ha
     | some t =>
      rw [hf] at ha;injection ha with ha
      rw [← ha];unfold SmW;simp only [List.length_take];omega
   simp only [zkD];rw [zce hr,zao]
  | none =>
   simp only [zkC];obtain ⟨o1,o2,o3,o4⟩:=zns Q hw hl2 q.Tries.toNat q.Device q.Asked [] 0 (znm Q) hk;have key:=pa_iter Q hw hl2 fuel q.Tries.toNat q.Device q.Asked [] 0 (znm Q) hk (by omega);rw [if_pos rfl] at key;refine (congrArg (fun z=>Option.bind z _) key).trans ?_;rw [zao];show _=some (askE q w (askL w q.Votes q.Tries.toNat q.Device q.Asked []));unfold askE;generalize askL w q.Votes q.Tries.toNat q.Device q.Asked []=r at o4;obtain ⟨d',n',ys',res⟩:=r;simp only [zcd.k11] at o4 ⊢;cases res with
   | none =>
    simp only;rw [zkB (by split<;>decide),zkD]
   | some out =>
    obtain ⟨p1,p2⟩:=o4 out rfl;have hso:SmW out:=by unfold SmW;omega
    simp only [Option.getD_some];rw [zkA (by decide),zkC,zce hsw,zao,zce hso,zao,zsw Q.tr Q.obs ⟨hsw,hso⟩,zao];by_cases g3:(addO q.Obs ⟨w,out⟩).2≠0
    ·rw [if_pos g3,zkB g3];rfl
    ·rw [if_neg g3,zkA g3];rfl
 ·rw [if_pos hw,zkB hw];rfl
end
end
section
set_option maxRecDepth 100000
end
section
set_option maxRecDepth 100000
structure SmQ (q:zah):Prop where
 n:q.Device.M.Next.length≤2000000
 s:q.Device.Latency.Step.length≤2000000
 o:SmO q.Obs
 seed:zhn q.Device
theorem zma {l:List zab} (h:SmTr l):zcm l l=some true:=by
 have hl:=h.1;unfold zcm
 have key:=zfq (step:=fun s=>zcm.s2 l l s) (l:=l) (fun _ _=>(none:Option Bool)) (fun i x hx=>by
  have hs:=h.2 x (zkH hx)
  have h1:=hs.1
  have h2:=hs.2
  unfold SmW at h1 h2
  simp only [zcm.s2]
  rw [zfl hx,zkD,zau hx,zau hx,zrf _ _ (by omega),zao,zkB rfl,Bool.not_true,zkC,zau hx,zau hx,zrf _ _ (by omega),zao,zkB rfl]
  rfl) (by
  simp only [zcm.s2]
  rw [zfd]
  rfl) (by omega)
 have hn:∀ (m:List zab) (j:Nat),scan (fun _ _=>(none:Option Bool)) j m=none:=by
  intro m
  induction m with
  | nil=>intro j;rfl
  | cons x m ih =>
   intro j;unfold scan;exact ih _
 rw [key,hn,zkA (by simp),zkC];rfl
theorem addO_len {o:zaw} {t:zab}:(addO o t).1.Traces.length≤o.Traces.length+1:=by
 unfold addO;split
 ·simp only;omega
 ·split
  ·simp only;omega
  ·split
   ·simp only;omega
   ·exact zq6 _ _
theorem addO_tr {o:zaw} {t:zab} (h:SmTr o.Traces) (hn:o.Traces.length≤1000000) (ht:SmX t):SmTr (addO o t).1.Traces:=by
 refine ⟨by have:=addO_len (o:=o) (t:=t);omega,?_⟩;unfold addO;split
 ·exact h.2
 ·split
  ·exact h.2
  ·split
   ·exact h.2
   ·intro x hx;have hx:x∈addL o.Traces t:=hx;unfold addL at hx;split at hx
    ·exact h.2 x hx
    ·rcases zhu.1 hx with e | e
     ·rw [e];exact ht
     ·exact h.2 x (List.filter_sublist.subset e)
theorem addO_inp {o:zaw} {t:zab}:(addO o t).1.Inputs=o.Inputs:=by
 unfold addO;split
 ·rfl
 ·split
  ·rfl
  ·split<;>rfl
section
variable {q:zah} {w:List Int}
theorem askO_ok (Q:OrOk q) (hn:q.Obs.Traces.length≤900000) (hl:w.length≤100000):OrOk (askO q w).1∧(askO q w).1.Obs.Traces.length≤q.Obs.Traces.length+1∧(askO q w).2.1.length≤2000000:=by
 unfold askO;by_cases hw:zby w q.Device.M.Inputs=0
 ·rw [if_neg (by simpa using hw)]
  have hl2:w.length≤1024:=by
   have i1:=Q.dev.mac.i1;have i2:=Q.dev.mac.i2;unfold zby at hw;rw [if_pos (by omega)] at hw;split at hw
   ·cases hw
   ·omega
  cases ha:ansO q.Obs w with
  | some r =>
   refine ⟨⟨Q.dev,Q.seed,Q.obs,Q.tr,Q.inp,Q.v1,Q.v2,Q.t1,Q.t2⟩,by simp only;omega,?_⟩;simp only;unfold ansO at ha;split at ha
   ·injection ha with ha
    rw [← ha];simp
   ·cases hf:q.Obs.Traces.find? fun t=>decide (w <+: t.In) with
    | none=>rw [hf] at ha;cases ha
    | some t =>
     rw [hf] at ha;injection ha with ha
     rw [← ha];simp only [List.length_take];omega
  | none =>
   have hk:q.Tries-0=(↑q.Tries.toNat:Int):=by have:=Q.v1;have:=Q.t1;omega
   obtain ⟨o1,o2,o3,o4⟩:=zns Q hw hl2 q.Tries.toNat q.Device q.Asked [] 0 (znm Q) hk;simp only;unfold askR askE;generalize askL w q.Votes q.Tries.toNat q.Device q.Asked []=r at o1 o2 o3 o4;obtain ⟨d',n',ys',res⟩:=r;simp only at o1 o2 o3 o4 ⊢;cases res with
   | none=>exact ⟨⟨o1,o2,Q.obs,Q.tr,by rw [Q.inp];simp only [o3],Q.v1,Q.v2,Q.t1,Q.t2⟩,by simp only;omega,by simp⟩
   | some out =>
    obtain ⟨p1,p2⟩:=o4 out rfl;simp only;split
    ·exact ⟨⟨o1,o2,Q.obs,Q.tr,by rw [Q.inp];simp only [o3],Q.v1,Q.v2,Q.t1,Q.t2⟩,by simp only;omega,by simp⟩
    ·refine ⟨⟨o1,o2,addO_ok Q.obs,addO_tr Q.tr (by omega) ⟨show SmW w by unfold SmW;omega,show SmW out by unfold SmW;omega⟩,by simp only [addO_inp,Q.inp,o3],Q.v1,Q.v2,Q.t1,Q.t2⟩,addO_len,by simp only;omega⟩
 ·rw [if_pos hw];exact ⟨Q,by simp only;omega,by simp⟩
theorem check_pre {p:List Int} {n:Int} (h:p <+: w) (hw:zby w n=0) (hn:1≤n∧n≤1024):zby p n=0:=by
 unfold zby at hw ⊢;rw [if_pos hn] at hw ⊢;have hle:=h.length_le;split at hw
 ·cases hw
 ·rw [if_neg (by omega)];split at hw
  ·rename_i h3;rw [if_pos (List.all_eq_true.2 fun x hx=>List.all_eq_true.1 h3 x (h.subset hx))]
  ·cases hw
theorem ans_add {o:zaw} {t:zab} (ho:zj8 o) (h:(addO o t).2=0):ansO (addO o t).1 t.In=some t.Out:=by
 unfold addO at h ⊢;by_cases g1:zpm t o.Inputs≠0
 ·rw [if_pos g1] at h;exact absurd h g1
 ·rw [if_neg g1] at h ⊢;have hp:PropT o.Inputs t:=zla.1 (by simpa using g1);by_cases g2:zlx o.Traces t
  ·rw [if_pos g2] at h;cases h
  ·rw [if_neg g2] at h ⊢;by_cases g3:10000<(addL o.Traces t).length
   ·rw [if_pos g3] at h;cases h
   ·rw [if_neg g3];unfold ansO;by_cases g4:t.In=[]
    ·rw [if_pos g4];have:=hp.2.1;rw [g4] at this;rw [List.eq_nil_of_length_eq_zero this]
    ·rw [if_neg g4]
     have hall:∀ u∈addL o.Traces t,t.In <+: u.In→u.Out.take t.In.length=t.Out:=fun u hu hpre=>by
      have hag:Agree u t:=by
       unfold addL at hu;split at hu
       ·exact Classical.byContradiction fun e=>g2 ⟨u,hu,e⟩
       ·rcases zhu.1 hu with e | e
        ·rw [e];unfold Agree;rfl
        ·exact Classical.byContradiction fun e2=>g2 ⟨u,List.filter_sublist.subset e,e2⟩
      have hc:zbk u.In t.In=t.In.length:=(zk9 u.In t.In).2 hpre;unfold Agree at hag;rw [hc] at hag;rw [hag,List.take_of_length_le (by rw [hp.2.1];exact Nat.le_refl _)]
     have hex:∃ u∈addL o.Traces t,t.In <+: u.In:=by
      unfold addL;split
      ·rename_i h5;rcases h5 with h5 | h5
       ·obtain ⟨u,hu,hp⟩:=List.any_eq_true.1 h5;exact ⟨u,hu,of_decide_eq_true hp⟩
       ·exact absurd h5 g4
      ·exact ⟨t,zhu.2 (.inl rfl),List.prefix_refl _⟩
     cases hf:(addL o.Traces t).find? fun u=>decide (t.In <+: u.In) with
     | none =>
      obtain ⟨u,hu,hpre⟩:=hex;have:=List.find?_eq_none.1 hf u hu;exact absurd (zkB hpre) this
     | some u =>
      have hpre:decide (t.In <+: u.In)=true:=List.find?_some (p:=fun (u:zab)=>decide (t.In <+: u.In)) hf;exact congrArg some (hall u (List.mem_of_find?_eq_some hf) (of_decide_eq_true hpre))
end
end
section
set_option maxRecDepth 100000
def firstE (n:Int) (ws:List (List Int)):Option Int:=scan (fun _ w=>if zby w n≠0 then some (zby w n) else none) 0 ws
theorem firstE_none {n:Int} {ws:List (List Int)} (h:firstE n ws=none):∀ w∈ws,zby w n=0:=fun w hw=>by
 obtain ⟨i,hi⟩:=List.mem_iff_getElem?.1 hw;have:=zhd.1 h i w hi;split at this
 ·cases this
 ·rename_i g;exact Classical.byContradiction g
section
variable {q:zah} {ws:List (List Int)}
end
end
section
set_option maxRecDepth 100000
theorem scan_map {α R R':Type} {g:Nat→α→Option R} {f:R→R'}:∀ (l:List α) (j:Nat),scan (fun i x=>(g i x).map f) j l=(scan g j l).map f
 | [],_=>rfl
 | x::l,j=>by
  unfold scan;cases g j x with
  | some r=>rfl
  | none=>exact scan_map l (j+1)
theorem scan_mem {α R:Type} {g:Nat→α→Option R} {r:R}:∀ {l:List α} {j:Nat},scan g j l=some r→∃ i x,l[i]?=some x∧g (j+i) x=some r
 | [],_,h=>by cases h
 | x::l,j,h=>by
  unfold scan at h;cases e:g j x with
  | some q =>
   rw [e] at h;exact ⟨0,x,rfl,by rw [Nat.add_zero,e];exact h⟩
  | none =>
   rw [e] at h;obtain ⟨i,y,h1,h2⟩:=scan_mem (j:=j+1) h;exact ⟨i+1,y,by simpa using h1,by rw [show j+(i+1)=j+1+i by omega,h2]⟩
def celE (n:Nat) (u v:Int):Option Int:=if u<0∨(↑n:Int)≤u∨v<0∨1048576<v then some 2 else none
def rowE (m:zaa) (s:Nat) (x:List Int):Option Int :=
 if (↑x.length:Int)≠m.Inputs∨(↑((m.Out[s]?).getD []).length:Int)≠m.Inputs then some 1 else scan (fun a u=>celE m.Next.length u ((((m.Out[s]?).getD [])[a]?).getD 0)) 0 x
def zch (m:zaa):Int :=
 if m.Inputs<1∨64<m.Inputs then 2 else if m.Next.length=0 then 19 else if 128<m.Next.length then 11 else if m.Start<0∨(↑m.Next.length:Int)≤m.Start then 2 else if m.Out.length≠m.Next.length then 1
 else match scan (rowE m) 0 m.Next with | some e=>e | none=>0
section
variable {m:zaa}
theorem rowE_ne {s:Nat} {x:List Int} {e:Int} (h:rowE m s x=some e):e≠0:=by
 unfold rowE at h;split at h
 ·injection h with h
  omega
 ·obtain ⟨i,u,_,h2⟩:=scan_mem h;unfold celE at h2;split at h2
  ·injection h2 with h2
   omega
  ·cases h2
theorem cel_cond {n:Nat} {u v:Int}:(cond (decide (u<0)) (some true) (cond (decide ((↑n:Int)≤u)) (some true) (cond (decide (v<0)) (some true) (some (decide (1048576<v))))):Option Bool)=some (celE n u v).isSome:=by
 unfold celE;by_cases h1:u<0<;>by_cases h2:(↑n:Int)≤u<;>by_cases h3:v<0<;>by_cases h4:1048576<v<;>simp [h1,h2,h3,h4]
theorem celE_two {n:Nat} {u v:Int}:celE n u v=if (celE n u v).isSome=true then some 2 else none:=by
 unfold celE;split<;>rfl
theorem row_len {s:Nat} {x y:List Int} (hx:m.Next[s]?=some x) (hy:m.Out[s]?=some y) :
  (idxn m.Next s fun e57=>cond (decide ((↑e57.length:Int)≠m.Inputs)) (some true) (idxn m.Out s fun e59=>some (decide ((↑e59.length:Int)≠m.Inputs))):Option Bool)=some (decide ((↑x.length:Int)≠m.Inputs∨(↑y.length:Int)≠m.Inputs)):=by
 rw [zau hx];by_cases h:(↑x.length:Int)=m.Inputs
 ·rw [zkA (fun k=>k h),zkC,zau hy];simp [h]
 ·rw [zkB h,zkD];simp [h]
theorem idx_nat {α β:Type} {l:List α} {i:Nat} {k:α→Option β}:idx l (↑i:Int) k=idxn l i k:=by
 cases h:l[i]? with
 | some x=>rw [zcs rfl h,zau h]
 | none =>
  unfold idx idxn;rw [h,if_pos (by omega),Int.toNat_natCast,h]
theorem R06_row_eq (hi:m.Inputs≤64) {s:Nat} {x y:List Int} (hx:m.Next[s]?=some x) (hy:m.Out[s]?=some y):zhy m (↑s:Int)=some (match rowE m s x with | some e=>e | none=>0):=by
 unfold zhy;rw [idx_nat];simp only [idx_nat];rw [row_len hx hy,zao];unfold rowE;rw [hy,Option.getD_some];by_cases h:(↑x.length:Int)≠m.Inputs∨(↑y.length:Int)≠m.Inputs
 ·rw [zkB h,zkD,if_pos h]
 ·rw [zkA h,zkC,if_neg h];have h1:(↑x.length:Int)=m.Inputs:=Classical.byContradiction fun q=>h (Or.inl q);have h2:(↑y.length:Int)=m.Inputs:=Classical.byContradiction fun q=>h (Or.inr q);rw [zfq (l:=x) (fun a u=>celE m.Next.length u ((y[a]?).getD 0)) (fun a u hu=>?_) ?_ (by omega),zao]
  ·cases scan (fun a u=>celE m.Next.length u ((y[a]?).getD 0)) 0 x<;>rfl
  ·simp only [zhy.s2];rw [zkA (by omega),zkC]
  ·have ha:=(zkI.1 hu).1;have hv:y[a]?=some y[a]:=get_at (by omega);rw [hv,Option.getD_some];simp only [zhy.s2,idx_nat];rw [zkB (by omega),zkD];simp only [zau hx,zau hy,zau hu,zau hv];rw [cel_cond,zao];cases e:celE m.Next.length u y[a] with
   | none =>
    rw [Option.isSome_none,zkC,zar (by unfold inR;omega)]
   | some r =>
    have:=celE_two (n:=m.Next.length) (u:=u) (v:=y[a]);rw [e] at this;injection this with this
    rw [this,Option.isSome_some,zkD]
theorem mealy_row_eq (hi:m.Inputs≤64) {s:Nat} {x y:List Int} (hx:m.Next[s]?=some x) (hy:m.Out[s]?=some y):za4.s14 m s=some (match rowE m s x with | some e=>.inr (.inr e) | none=>.inl (s+1)):=by
 have hs:=(zkI.1 hx).1;simp only [za4.s14];rw [zkB (by omega),zkD,row_len hx hy,zao];unfold rowE;rw [hy,Option.getD_some];by_cases h:(↑x.length:Int)≠m.Inputs∨(↑y.length:Int)≠m.Inputs
 ·rw [zkB h,zkD,if_pos h]
 ·rw [zkA h,zkC,if_neg h];have h1:(↑x.length:Int)=m.Inputs:=Classical.byContradiction fun q=>h (Or.inl q);have h2:(↑y.length:Int)=m.Inputs:=Classical.byContradiction fun q=>h (Or.inr q);rw [zfq (l:=x) (fun a u=>(celE m.Next.length u ((y[a]?).getD 0)).map fun r=>(.inr (.inr r):Nat⊕(Unit⊕Int))) (fun a u hu=>?_) ?_ (by omega),zao,scan_map]
  ·cases scan (fun a u=>celE m.Next.length u ((y[a]?).getD 0)) 0 x<;>rfl
  ·simp only [za4.s13];rw [zkA (by omega),zkC]
  ·have ha:=(zkI.1 hu).1;have hv:y[a]?=some y[a]:=get_at (by omega);rw [hv,Option.getD_some];simp only [za4.s13];rw [zkB (by omega),zkD];simp only [zau hx,zau hy,zau hu,zau hv];rw [cel_cond,zao];cases e:celE m.Next.length u y[a] with
   | none =>
    rw [Option.isSome_none,zkC,zar (by unfold inR;omega)];rfl
   | some r =>
    have:=celE_two (n:=m.Next.length) (u:=u) (v:=y[a]);rw [e] at this;injection this with this
    rw [this,Option.isSome_some,zkD];rfl
theorem zph (m:zaa):zex m=some (zch m):=by
 unfold zex zch;by_cases c1:m.Inputs<1
 ·rw [zkB c1,if_pos (Or.inl c1)];rfl
 rw [zkA c1,zkC];by_cases c2:64<m.Inputs
 ·rw [zkB c2,if_pos (Or.inr c2)];rfl
 rw [zkA c2,zao,zkC,if_neg (by omega)];by_cases c3:m.Next.length=0
 ·rw [zkB (by omega),if_pos c3];rfl
 rw [zkA (by omega),zkC,if_neg c3];by_cases c4:128<m.Next.length
 ·rw [zkB (by omega),if_pos c4];rfl
 rw [zkA (by omega),zkC,if_neg c4];by_cases c5:m.Start<0
 ·rw [zkB c5,if_pos (Or.inl c5)];rfl
 rw [zkA c5,zkC];by_cases c6:(↑m.Next.length:Int)≤m.Start
 ·rw [zkB c6,if_pos (Or.inr c6)];rfl
 rw [zkA c6,zao,zkC,if_neg (by omega)];by_cases c7:m.Out.length=m.Next.length
 ·rw [zkA (by omega),zkC,if_neg (by omega),zfq (l:=m.Next) (rowE m) (fun s x hx=>?_) ?_ (by omega),zao]
  ·cases scan (rowE m) 0 m.Next<;>rfl
  ·simp only [zex.s2];rw [zkA (by omega),zkC]
  ·have hs:=(zkI.1 hx).1;simp only [zex.s2];rw [zkB (by omega),zkD,R06_row_eq (by omega) hx (get_at (l:=m.Out) (by omega)),zao];cases e:rowE m s x with
   | none=>rfl
   | some r=>rw [zkB (rowE_ne e),zkD]
 ·rw [zkB (by omega),if_pos c7];rfl
theorem zbv (m:zaa):za4 m=some (zch m):=by
 unfold za4 zch;by_cases c1:m.Inputs<1
 ·rw [zkB c1,if_pos (Or.inl c1)];rfl
 rw [zkA c1,zkC];by_cases c2:64<m.Inputs
 ·rw [zkB c2,if_pos (Or.inr c2)];rfl
 rw [zkA c2,zao,zkC,if_neg (by omega)];by_cases c3:m.Next.length=0
 ·rw [zkB (by omega),if_pos c3];rfl
 rw [zkA (by omega),zkC,if_neg c3];by_cases c4:128<m.Next.length
 ·rw [zkB (by omega),if_pos c4];rfl
 rw [zkA (by omega),zkC,if_neg c4];by_cases c5:m.Start<0
 ·rw [zkB c5,if_pos (Or.inl c5)];rfl
 rw [zkA c5,zkC];by_cases c6:(↑m.Next.length:Int)≤m.Start
 ·rw [zkB c6,if_pos (Or.inr c6)];rfl
 rw [zkA c6,zao,zkC,if_neg (by omega)];by_cases c7:m.Out.length=m.Next.length
 ·rw [zkA (by omega),zkC,if_neg (by omega),zfq (l:=m.Next) (rowE m) (fun s x hx=>?_) ?_ (by omega),zao]
  ·cases scan (rowE m) 0 m.Next<;>rfl
  ·simp only [za4.s14];rw [zkA (by omega),zkC]
  ·have hs:=(zkI.1 hx).1;rw [mealy_row_eq (by omega) hx (get_at (l:=m.Out) (by omega))];cases rowE m s x<;>rfl
 ·rw [zkB (by omega),if_pos c7];rfl
theorem zd0 (h:zch m=0):zdx m:=macOk_of (by rw [zph,h])
def fromM (m:zaa) (s:Int) (w:List Int):List Int×Int×Int :=
 if zch m≠0 then ([],0,zch m) else if s<0∨(↑m.Next.length:Int)≤s then ([],0,2) else if zby w m.Inputs≠0 then ([],0,zby w m.Inputs) else (outs m s.toNat w,(↑(dest m s.toNat w):Int),0)
theorem zgz {w:List Int} {n:Int} (h:zby w n=0):w.length≤1024:=by
 unfold zby at h;split at h
 ·split at h
  ·cases h
  ·omega
 ·cases h
theorem runner_eq (H:zdx m) {s:Nat} (hs:s<m.Next.length) {w:List Int} (hw:WOk m.Inputs w) (hl:w.length≤100000000):zbs (⟨(⟨m⟩:zdf),(↑s:Int)⟩:zcn) w=some (outs m s w,(⟨(⟨m⟩:zdf),(↑(dest m s w):Int)⟩:zcn)):=by
 unfold zbs
 have key:=zgs (step:=fun (q:Int×List Int×Nat)=>zbs.s2 (⟨(⟨m⟩:zdf),(↑s:Int)⟩:zcn) w q.1 q.2.1 q.2.2) (r:=((↑(dest m s w):Int),outs m s w)) (fun q=>q.2.2≤w.length∧q.1=(↑(dest m s (w.take q.2.2)):Int)∧q.2.1=outs m s (w.take q.2.2)) (fun q=>w.length-q.2.2) (fun q ⟨g1,g2,g3⟩=>by
  obtain ⟨st,y,k⟩:=q
  simp only at g1 g2 g3
  subst g2
  subst g3
  simp only [zbs.s2,ze6]
  by_cases g4:k<w.length
  ·left
   have hx:=get_at g4
   obtain ⟨x0,x1⟩:=hw _ (List.getElem_mem g4)
   have ha:w[k].toNat<m.Inputs.toNat:=by omega
   have hd:Sym.dest m s (w.take k)<m.Next.length:=H.dest (hw.take k) hs
   obtain ⟨_,_,_,x,y,e1,e2,e3,e4⟩:=H.at hd ha
   refine ⟨((↑(Sym.dest m s (w.take (k+1))):Int),outs m s (w.take (k+1)),k+1),?_,⟨g4,rfl,rfl⟩,by simp only;omega⟩
   rw [zfl hx,zkD,zau hx,zcs rfl e1,zcs (i:=w[k].toNat) (by omega) e3,zcs rfl e2,zcs (i:=w[k].toNat) (by omega) e4,zao,zar (by unfold zbh;rw [zfg,List.length_take];omega),zck hx,ze9,zfz]
   rfl
  ·right
   have e:k=w.length:=by omega
   subst e
   rw [zkA (by omega),zkC,List.take_length]) (n:=fuel) (s:=((↑s:Int),[],0)) ⟨Nat.zero_le _,rfl,rfl⟩ (by have:=zbg;simp only;omega)
 rw [key,zao];rfl
theorem zm4 {s:Int} {w:List Int} (hw:SmW w):zhw m s w=some (fromM m s w):=by
 unfold zhw zjz fromM;rw [zbv,zao];by_cases c1:zch m=0
 ·rw [zkA (by omega),zkC,if_neg (by omega)];by_cases c2:s<0
  ·rw [zkB c2,if_pos (Or.inl c2)];rfl
  rw [zkA c2,zkC];by_cases c3:(↑m.Next.length:Int)≤s
  ·rw [zkB c3,if_pos (Or.inr c3)];rfl
  rw [zkA c3,zao,zkC,if_neg (by omega),zao,zkA (by omega),zkC,zgg _ _ hw,zao];by_cases c4:zby w m.Inputs=0
  ·have:=zgz c4;have hO:=runner_eq (zd0 c1) (s:=s.toNat) (by omega) (w:=w) (zqt c4) (by omega);rw [show (↑s.toNat:Int)=s by omega] at hO;rw [zkA (by omega),zkC,if_neg (by omega),hO,zao]
  ·rw [zkB c4,zkD,if_pos c4]
 ·rw [zkB c1,zkD,if_pos c1,zao,zkB c1,zkD]
end
end
section
set_option maxRecDepth 100000
def greatM (m:zaa):Bool:=decide (12<m.Next.length∨12<m.Out.length∨6<m.Inputs∨(∃ x∈m.Next,12<x.length)∨∃ x∈m.Out,12<x.length)
def ztx (m:zaa):Bool:=!greatM m&&decide (m.Next.length≤8)&&decide (m.Inputs≤4)
theorem smallM_of {m:zaa} (h:ztx m=true):greatM m=false∧m.Next.length≤8∧m.Inputs≤4:=by
 unfold ztx at h;rw [Bool.and_eq_true,Bool.and_eq_true,Bool.not_eq_true'] at h;exact ⟨h.1.1,of_decide_eq_true h.1.2,of_decide_eq_true h.2⟩
theorem behind_eq {u:List Int} {l:List (List Int)} (hu:u.length≤100000) (hl:l.length≤1000000) (hw:∀ x∈l,x.length≤100000):zcr u l=some (l.map fun x=>u++x):=by
 unfold zcr
 have key:=(iter_fold (step:=fun (s:List (List Int)×Nat)=>zcr.s2 u l s.1 s.2) (l:=l) (fun a _ x=>a++[u++x]) (fun a=>a) (fun a i=>a.length=i) (fun a i x ha hx=>by
  have hi:=(zkI.1 hx).1
  have:=hw x (zkH hx)
  refine ⟨?_,by simp [ha]⟩
  simp only [zcr.s2]
  rw [zkB (by omega),zkD,zau hx,zhh [u,x] (by simp) (by simp;omega),zao,zar (by unfold zbh;omega)]
  simp) (fun a ha=>by
  simp only [zcr.s2]
  rw [zkA (by omega),zkC]) (by omega) (a0:=[]) rfl).1
 rw [key,zao,foldi_eq]
 have:∀ (l acc:List (List Int)),l.foldl (fun a x=>a++[u++x]) acc=acc++l.map fun x=>u++x:=by
  intro l
  induction l with
  | nil=>intro acc;simp
  | cons x l ih=>intro acc;simp [ih]
 rw [this,List.nil_append]
def zo4 (m:zaa) (ids:List (List (List Int))) (w:List Int):List (List Int) :=
 if ((ids[dest m m.Start.toNat w]?).getD []).length=0 then [[]] else (ids[dest m m.Start.toNat w]?).getD []
def tailsE (m:zaa) (ids:List (List (List Int))) (w:List Int):List (List Int)×Int :=
 if zch m≠0 then ([],zch m) else if zby w m.Inputs≠0 then ([],zby w m.Inputs) else if ids.length≠m.Next.length then ([],1) else (zo4 m ids w,0)
def SmI (ids:List (List (List Int))):Prop:=ids.length≤1000000∧∀ l∈ids,l.length≤1000000∧∀ x∈l,x.length≤100000
section
variable {m:zaa} {ids:List (List (List Int))} {w:List Int}
theorem zmq (hw:SmW w) (h:zch m=0):fromM m m.Start w=if zby w m.Inputs≠0 then ([],0,zby w m.Inputs) else (outs m m.Start.toNat w,(↑(dest m m.Start.toNat w):Int),0):=by
 have H:=zd0 h;have:=H.st;unfold fromM;rw [if_neg (by omega),if_neg (by omega)]
theorem zqj (hI:SmI ids) (hw:SmW w):zhk m ids w=some (tailsE m ids w):=by
 unfold zhk tailsE;rw [zm4 hw,zao];by_cases c1:zch m=0
 ·have H:=zd0 c1;have hst:=H.st;rw [if_neg (fun h=>h c1)];by_cases c2:zby w m.Inputs=0
  ·rw [zmq hw c1,if_neg (fun h=>h c2),if_neg (fun h=>h c2)];simp only;rw [zkA (by omega),zkC];by_cases c3:ids.length=m.Next.length
   ·have hd:dest m m.Start.toNat w<m.Next.length:=H.dest (zqt c2) (by omega);have hx:ids[dest m m.Start.toNat w]?=some (ids[dest m m.Start.toNat w]'(by omega)):=get_at (by omega);have hm:=hI.2 _ (zkH hx);unfold zo4;generalize ids[dest m m.Start.toNat w]'(by omega)=l at hx hm;rw [zkA (by omega),zkC,if_neg (by omega),zcs rfl hx,hx,Option.getD_some];by_cases c4:l.length=0
    ·rw [zkB (by omega),zkD,if_pos c4]
    ·rw [zkA (by omega),zkC,if_neg c4,zcs rfl hx,behind_eq (by simp) hm.1 hm.2,zao];simp
   ·rw [zkB (by omega),zkD,if_pos c3]
  ·rw [zmq hw c1,if_pos c2,if_pos c2];simp only;rw [zkB c2,zkD]
 ·unfold fromM;rw [if_pos c1,if_pos c1,zkB c1,zkD]
end
end
section
set_option maxRecDepth 100000
section
variable {A:Type} [DecidableEq A]
def bfsB (e:A→Nat→A) (K:Nat) (s0:A):Nat→List (A×List Int)
 | 0=>[(s0,[])]
 | r+1=>match (bfsB e K s0 r)[r / K]? with
  | none=>bfsB e K s0 r
  | some x=>if e x.1 (r%K)∈(bfsB e K s0 r).map Prod.fst then bfsB e K s0 r else bfsB e K s0 r++[(e x.1 (r%K),x.2++[(↑(r%K):Int)])]
theorem zpa {K i a:Nat} (h:a<K):(i*K+a) / K=i:=by
 rw [Nat.add_comm,Nat.add_mul_div_right _ _ (by omega),Nat.div_eq_of_lt h,Nat.zero_add]
theorem dm_mod {K i a:Nat} (h:a<K):(i*K+a)%K=a:=by
 rw [Nat.add_comm,Nat.add_mul_mod_self_right,Nat.mod_eq_of_lt h]
theorem znv {i n a K:Nat} (hi:i<n) (ha:a<K):i*K+a<n*K:=by
 have:(i+1)*K≤n*K:=Nat.mul_le_mul_right K hi;rw [Nat.succ_mul] at this;omega
variable {e:A→Nat→A} {K:Nat} {s0:A}
theorem bfs_step {i a:Nat} {x:A×List Int} (ha:a<K) (hx:(bfsB e K s0 (i*K+a))[i]?=some x) :
  bfsB e K s0 (i*K+(a+1))=if e x.1 a∈(bfsB e K s0 (i*K+a)).map Prod.fst then bfsB e K s0 (i*K+a) else bfsB e K s0 (i*K+a)++[(e x.1 a,x.2++[(↑a:Int)])]:=by
 show bfsB e K s0 ((i*K+a)+1)=_;rw [bfsB,zpa ha,hx,dm_mod ha]
theorem bfs_pre1 (r:Nat):bfsB e K s0 r <+: bfsB e K s0 (r+1):=by
 rw [bfsB];split
 ·exact List.prefix_refl _
 ·split
  ·exact List.prefix_refl _
  ·exact List.prefix_append _ _
theorem zkp {r:Nat}:∀ {r':Nat},r≤r'→bfsB e K s0 r <+: bfsB e K s0 r'
 | 0,h=>by
  have:r=0:=by omega
  subst this;exact List.prefix_refl _
 | r'+1,h=>by
  rcases Nat.lt_or_ge r (r'+1) with g | g
  ·exact (zkp (r':=r') (by omega)).trans (bfs_pre1 r')
  ·have:r=r'+1:=by omega
   subst this;exact List.prefix_refl _
theorem zjr {α:Type} {l l':List α} (h:l <+: l') {i:Nat} {x:α} (hx:l[i]?=some x):l'[i]?=some x:=by
 obtain ⟨t,rfl⟩:=h;rw [List.getElem?_append_left (zkI.1 hx).1,hx]
theorem bfs_pos (r:Nat):(bfsB e K s0 r)[0]?=some (s0,[]):=zjr (zkp (Nat.zero_le r)) rfl
theorem zn3:∀ r:Nat,((bfsB e K s0 r).map Prod.fst).Nodup
 | 0=>by simp [bfsB]
 | r+1=>by
  have ih:=zn3 r;rw [bfsB];split
  ·exact ih
  ·split
   ·exact ih
   ·rename_i x _ hn;rw [List.map_append,List.nodup_append];refine ⟨ih,by simp,fun a ha b hb hab=>hn ?_⟩;have:b=e x.1 (r%K):=by simpa using hb
    rw [← this,← hab];exact ha
theorem bfs_from:∀ {r u:Nat} {x:A×List Int},(bfsB e K s0 r)[u]?=some x→u=0∨∃ r' y,r'<r∧r' / K<u∧(bfsB e K s0 r)[r' / K]?=some y∧x=(e y.1 (r'%K),y.2++[(↑(r'%K):Int)])
 | 0,u,x,h=>by
  left;have:=(zkI.1 h).1;simp [bfsB] at this;exact this
 | r+1,u,x,h=>by
  have old:(bfsB e K s0 r)[u]?=some x→u=0∨∃ r' y,r'<r+1∧r' / K<u∧(bfsB e K s0 (r+1))[r' / K]?=some y∧x=(e y.1 (r'%K),y.2++[(↑(r'%K):Int)]):=fun h=>by
   rcases bfs_from h with h | ⟨r',y,h1,h2,h3,h4⟩
   ·exact Or.inl h
   ·exact Or.inr ⟨r',y,by omega,h2,zjr (bfs_pre1 r) h3,h4⟩
  have hh:=h;rw [bfsB] at h;split at h
  ·exact old h
  ·rename_i y hy;split at h
   ·exact old h
   ·rename_i hn;rcases Nat.lt_or_ge u (bfsB e K s0 r).length with g | g
    ·rw [List.getElem?_append_left g] at h;exact old h
    ·right;rw [List.getElem?_append_right g] at h
     have hu:u-(bfsB e K s0 r).length=0:=by
      have:=(zkI.1 h).1;simpa using this
     rw [hu] at h
     have hx:x=(e y.1 (r%K),y.2++[(↑(r%K):Int)]):=by
      simp at h;exact h.symm
     have hk:=(zkI.1 hy).1;exact ⟨r,y,by omega,by omega,zjr (bfs_pre1 r) hy,hx⟩
theorem bfs_to {r:Nat} {x:A×List Int} (hx:(bfsB e K s0 r)[r / K]?=some x):e x.1 (r%K)∈(bfsB e K s0 (r+1)).map Prod.fst:=by
 rw [bfsB,hx];simp only;split
 ·assumption
 ·simp
structure zfj (e:A→Nat→A) (K:Nat) (s0:A) (L:List (A×List Int)):Prop where
 eq:L=bfsB e K s0 (L.length*K)
variable {L:List (A×List Int)}
theorem zfj.at (h:zfj e K s0 L) {r:Nat} (hr:r≤L.length*K):bfsB e K s0 r <+: L:=by
 have:=zkp (e:=e) (K:=K) (s0:=s0) hr;rw [← h.eq] at this;exact this
theorem zfj.first (h:zfj e K s0 L):L[0]?=some (s0,[]):=by
 rw [h.eq];exact bfs_pos _
theorem zfj.nodup (h:zfj e K s0 L):(L.map Prod.fst).Nodup:=by
 rw [h.eq];exact zn3 _
theorem zfj.long (h:zfj e K s0 L) {i a:Nat} (hi:i<L.length) (ha:a<K):∃ x,L[i]?=some x∧(bfsB e K s0 (i*K+a))[i]?=some x:=by
 refine ⟨_,zkM hi,?_⟩;have hpre:=h.at (r:=i*K+a) (by have:=znv hi ha;omega);rcases Nat.lt_or_ge i (bfsB e K s0 (i*K+a)).length with g | g
 ·have:=zjr hpre (zkM g);rw [zkM hi] at this;rw [zkM g,this]
 ·exfalso
  have stay:∀ d,bfsB e K s0 (i*K+a+d)=bfsB e K s0 (i*K+a):=by
   intro d
   induction d with
   | zero=>rfl
   | succ d ih =>
    show bfsB e K s0 (i*K+a+d+1)=_;rw [bfsB,ih,List.getElem?_eq_none ?_];have h1:(i*K+a) / K≤(i*K+a+d) / K:=Nat.div_le_div_right (by omega);rw [zpa ha] at h1;omega
  have h2:=stay (L.length*K-(i*K+a));rw [show i*K+a+(L.length*K-(i*K+a))=L.length*K by have:=znv hi ha;omega,← h.eq] at h2;rw [← h2] at g;omega
theorem zfj.closed (h:zfj e K s0 L) {i a:Nat} {x:A×List Int} (hx:L[i]?=some x) (ha:a<K):∃ j y,L[j]?=some y∧y.1=e x.1 a∧∀ u,0<u→u≤j→∃ i' a' z w,a'<K∧i'*K+a'≤i*K+a∧i'<u∧L[i']?=some z∧L[u]?=some w∧w.1=e z.1 a':=by
 have hi:=(zkI.1 hx).1;obtain ⟨x',h1,h2⟩:=h.long hi ha;rw [hx] at h1;injection h1 with h1
 subst h1;have hlt:=znv hi ha;have hpre:=h.at (r:=i*K+a+1) (by omega);have h3:=bfs_to (e:=e) (K:=K) (s0:=s0) (r:=i*K+a) (x:=x) (by rw [zpa ha];exact h2);rw [dm_mod ha] at h3;obtain ⟨y,hy,hye⟩:=List.mem_map.1 h3;obtain ⟨j,hj,hjy⟩:=List.mem_iff_getElem.1 hy;have hjy':(bfsB e K s0 (i*K+a+1))[j]?=some y:=by rw [zkM hj,hjy]
 refine ⟨j,y,zjr hpre hjy',hye,fun u hu huj=>?_⟩;have hul:u<(bfsB e K s0 (i*K+a+1)).length:=by omega
 have hw:=zkM hul;rcases bfs_from hw with q | ⟨r',z,q1,q2,q3,q4⟩
 ·omega
 ·have hK:0<K:=by omega
  refine ⟨r' / K,r'%K,z,_,Nat.mod_lt _ hK,?_,q2,zjr hpre q3,zjr hpre hw,by rw [q4]⟩;have:=Nat.div_add_mod r' K;rw [Nat.mul_comm] at this;omega
theorem zfj.from (h:zfj e K s0 L) (hK:0<K) {u:Nat} {x:A×List Int} (hx:L[u]?=some x):u=0∨∃ i a y,i<u∧a<K∧L[i]?=some y∧x=(e y.1 a,y.2++[(↑a:Int)]):=by
 have hx':=hx;rw [h.eq] at hx';rcases bfs_from hx' with q | ⟨r',z,q1,q2,q3,q4⟩
 ·exact Or.inl q
 ·rw [← h.eq] at q3;exact Or.inr ⟨r' / K,r'%K,z,q2,Nat.mod_lt _ hK,q3,q4⟩
theorem zfj.uniq {L':List (A×List Int)} (hK:0<K) (h:zfj e K s0 L) (h':zfj e K s0 L'):L=L':=by
 have key:∀ {L L':List (A×List Int)},zfj e K s0 L→zfj e K s0 L'→L.length≤L'.length→L=L':=fun {L L'} h h' hl=>by
  rcases Nat.lt_or_ge L.length L'.length with g | g
  ·exfalso
   have hpre:L <+: L':=by
    have:=h'.at (r:=L.length*K) (Nat.mul_le_mul_right K hl)
    rwa [← h.eq] at this
   obtain ⟨x,_,hx⟩:=h'.long g hK;rw [Nat.add_zero,← h.eq,List.getElem?_eq_none (Nat.le_refl _)] at hx;cases hx
  ·have e1:L.length=L'.length:=by omega
   rw [h.eq,h'.eq,e1]
 rcases Nat.le_total L.length L'.length with g | g
 ·exact key h h' g
 ·exact (key h' h g).symm
end
end
section
set_option maxRecDepth 100000
def E (m:zaa):Nat→Nat→Nat→Prop
 | 0,_,_=>True
 | k+1,s,t=>E m k s t∧∀ a,a<m.Inputs.toNat→ot m s a=ot m t a∧E m k (nx m s a) (nx m t a)
section
variable {m:zaa}
theorem E_refl:∀ (k s:Nat),E m k s s
 | 0,_=>trivial
 | k+1,s=>⟨E_refl k s,fun _ _=>⟨rfl,E_refl k _⟩⟩
theorem E_symm:∀ {k s t:Nat},E m k s t→E m k t s
 | 0,_,_,_=>trivial
 | _+1,_,_,h=>⟨E_symm h.1,fun a ha=>⟨(h.2 a ha).1.symm,E_symm (h.2 a ha).2⟩⟩
theorem zog:∀ {k s t u:Nat},E m k s t→E m k t u→E m k s u
 | 0,_,_,_,_,_=>trivial
 | _+1,_,_,_,h,g=>⟨zog h.1 g.1,fun a ha=>⟨(h.2 a ha).1.trans (g.2 a ha).1,zog (h.2 a ha).2 (g.2 a ha).2⟩⟩
theorem E_mono {k j s t:Nat} (hk:k≤j) (h:E m j s t):E m k s t:=by
 induction j with
 | zero =>
  have e:k=0:=by omega
  subst e;exact h
 | succ j ih =>
  rcases Nat.lt_or_ge k (j+1) with h1 | h1
  ·exact ih (by omega) h.1
  ·have e:k=j+1:=by omega
   subst e;exact h
theorem zq7:∀ {k s t:Nat},(∀ w,w.length≤k→WOk m.Inputs w→outs m s w=outs m t w)→E m k s t
 | 0,_,_,_=>trivial
 | k+1,s,t,h=>⟨zq7 fun w hl hw=>h w (by omega) hw,fun a ha=>by
  have hx:∀ w,w.length≤k→WOk m.Inputs w→ot m s a=ot m t a∧outs m (nx m s a) w=outs m (nx m t a) w:=fun w hl hw=>by
   have h1:=h ((↑a:Int)::w) (by simp;omega) (fun x hx=>by
    rcases List.mem_cons.1 hx with rfl | hx
    ·exact ⟨by omega,by omega⟩
    ·exact hw x hx)
   have h2:ot m s a::outs m (nx m s a) w=ot m t a::outs m (nx m t a) w:=h1
   injection h2 with h3 h4
   exact ⟨h3,h4⟩
  exact ⟨(hx [] (Nat.zero_le _) (fun x hx=>by cases hx)).1,zq7 fun w hl hw=>(hx w hl hw).2⟩⟩
structure ClsOk (m:zaa) (k:Nat) (c:List Int):Prop where
 len:c.length=m.Next.length
 rng:∀ s,s<m.Next.length→∃ x:Nat,c[s]?=some (↑x:Int)∧x<m.Next.length
 cls:∀ s t,s<m.Next.length→t<m.Next.length→(c[s]?=c[t]?↔E m k s t)
structure FinOk (m:zaa) (k:Nat) (y:List Int) (n s:Nat):Prop where
 ls:s≤m.Next.length
 len:y.length=s
 cnt:n≤s
 rng:∀ i,i<s→∃ x:Nat,y[i]?=some (↑x:Int)∧x<n
 cls:∀ i j,i<s→j<s→(y[i]?=y[j]?↔E m k i j)
theorem zo0 {α:Type} {p q:α→Bool}:∀ {l:List α},(∀ x∈l,p x=true→q x=true)→l.countP q≤l.countP p→∀ x∈l,q x=true→p x=true
 | [],_,_,x,hx,_=>by cases hx
 | y::l,h,hc,x,hx,hq=>by
  have h1:l.countP p≤l.countP q:=List.countP_mono_left fun x hx=>h x (List.mem_cons_of_mem _ hx);rw [List.countP_cons,List.countP_cons] at hc;have h2:=h y (List.mem_cons_self ..)
  have h3:l.countP q≤l.countP p∧(q y=true→p y=true):=by
   cases e1:q y<;>cases e2:p y<;>simp [e1,e2] at hc h2 ⊢<;>omega
  rcases List.mem_cons.1 hx with rfl | hx
  ·exact h3.2 hq
  ·exact zo0 (fun x hx=>h x (List.mem_cons_of_mem _ hx)) h3.1 x hx hq
def Rep (m:zaa) (k s:Nat):Prop:=∀ t,t<s→¬ E m k s t
open Classical in
noncomputable def nreps (m:zaa) (k:Nat):Nat:=(List.range m.Next.length).countP fun s=>decide (Rep m k s)
theorem zt4 (k:Nat):∀ (s:Nat),∃ r,r≤s∧Rep m k r∧E m k s r:=by
 intro s
 induction s using Nat.strongRecOn with
 | ind s ih =>
  by_cases h:Rep m k s
  ·exact ⟨s,Nat.le_refl _,h,E_refl _ _⟩
  ·have ⟨t,h1⟩:=Classical.not_forall.1 h;obtain ⟨h2,h3⟩:=Classical.not_imp.1 h1;have h3:=Classical.not_not.1 h3;obtain ⟨r,r1,r2,r3⟩:=ih t h2;exact ⟨r,by omega,r2,zog h3 r3⟩
def Stab (m:zaa) (k:Nat):Prop:=∀ s t,s<m.Next.length→t<m.Next.length→E m k s t→E m (k+1) s t
theorem rep_succ {k s:Nat} (h:Rep m k s):Rep m (k+1) s:=fun t ht hE=>h t ht hE.1
open Classical in
open Classical in
theorem stab_of {k:Nat} (h:nreps m (k+1)≤nreps m k):Stab m k:=by
 intro s t hs ht hE;unfold nreps at h;have key:=zo0 (l:=List.range m.Next.length) (fun s _ h=>zkB (rep_succ (of_decide_eq_true h))) h;obtain ⟨r,r1,r2,r3⟩:=zt4 (m:=m) (k+1) s;obtain ⟨u,u1,u2,u3⟩:=zt4 (m:=m) (k+1) t;have r4:Rep m k r:=of_decide_eq_true (key r (List.mem_range.2 (by omega)) (zkB r2));have u4:Rep m k u:=of_decide_eq_true (key u (List.mem_range.2 (by omega)) (zkB u2));have hru:E m k r u:=zog (E_symm r3.1) (zog hE u3.1)
 have e:r=u:=by
  rcases Nat.lt_trichotomy r u with h1 | h1 | h1
  ·exact absurd (E_symm hru) (u4 r h1)
  ·exact h1
  ·exact absurd hru (r4 u h1)
 subst e;exact zog r3 (E_symm u3)
theorem stab_succ (H:zdx m) {k:Nat} (h:Stab m k):Stab m (k+1):=fun s t hs ht hE =>
 ⟨hE,fun a ha=>⟨(hE.2 a ha).1,h _ _ (H.at hs ha).1 (H.at ht ha).1 (hE.2 a ha).2⟩⟩
theorem stab_add (H:zdx m) {k:Nat} (h:Stab m k):∀ j,Stab m (k+j)
 | 0=>h
 | j+1=>stab_succ H (stab_add H h j)
open Classical in
theorem stab_exists (H:zdx m):∃ k,k<m.Next.length∧Stab m k:=by
 refine Classical.byContradiction fun hno=>?_
 have hall:∀ k,k≤m.Next.length→k+1≤nreps m k:=by
  intro k
  induction k with
  | zero =>
   intro _;unfold nreps;have:0<(List.range m.Next.length).countP fun s=>@decide (Rep m 0 s) (Classical.propDecidable _):=List.countP_pos_iff.2 ⟨0,List.mem_range.2 H.n1,zkB fun t ht=>absurd ht (Nat.not_lt_zero _)⟩;exact this
  | succ k ih =>
   intro hk;have h1:=ih (by omega);rcases Nat.lt_or_ge (nreps m k) (nreps m (k+1)) with h2 | h2
   ·omega
   ·exact absurd ⟨k,by omega,stab_of h2⟩ hno
 have h1:=hall _ (Nat.le_refl _);have h2:nreps m m.Next.length≤(List.range m.Next.length).length:=List.countP_le_length;rw [List.length_range] at h2;omega
theorem E_all (H:zdx m) {s t:Nat} (hs:s<m.Next.length) (ht:t<m.Next.length) (h:E m m.Next.length s t) (j:Nat):E m j s t:=by
 obtain ⟨k,hk,hS⟩:=stab_exists H
 have key:∀ i,E m (k+i) s t:=by
  intro i
  induction i with
  | zero=>exact E_mono (by omega) h
  | succ i ih=>exact stab_add H hS i s t hs ht ih
 exact E_mono (by omega) (key j)
end
end
section
set_option maxRecDepth 100000
theorem zhs {α:Type} [DecidableEq α]:∀ {l l':List α},l.Nodup→(∀ x∈l,x∈l')→l.length≤l'.length
 | [],_,_,_=>Nat.zero_le _
 | x::l,l',h,hs=>by
  have h1:=List.nodup_cons.1 h;have hx:=hs x (by simp);have ih:=zhs (l:=l) (l':=l'.erase x) h1.2 (fun y hy=>(List.mem_erase_of_ne (fun e=>h1.1 (by rw [← e];exact hy))).2 (hs y (List.mem_cons_of_mem _ hy)));rw [List.length_erase_of_mem hx] at ih;have:=List.length_pos_of_mem hx;simp only [zkL];omega
def natI (l:List Nat):List Int:=l.map fun (x:Nat)=>(↑x:Int)
theorem natI_at {l:List Nat} {i u:Nat} (h:l[i]?=some u):(natI l)[i]?=some (↑u:Int):=by
 unfold natI;rw [List.getElem?_map,h];rfl
theorem natI_push (l:List Nat) (t:Nat):natI l++[(↑t:Int)]=natI (l++[t]):=by simp [natI]
theorem zg5 (l:List Nat):(natI l).length=l.length:=by simp [natI]
def Ext (l l':List Nat):Prop:=∀ j u:Nat,l[j]?=some u→l'[j]?=some u
theorem Ext.rfl' {l:List Nat}:Ext l l:=fun _ _ h=>h
theorem Ext.trans {l l' l'':List Nat} (h:Ext l l') (g:Ext l' l''):Ext l l'':=fun j u e=>g j u (h j u e)
theorem Ext.push (l:List Nat) (t:Nat):Ext l (l++[t]):=fun j u h=>by
 have:=(zkI.1 h).1;rw [List.getElem?_append_left this,h]
structure Num (m:zaa) (c:List Int) (ord:List Nat) (num:List Int):Prop where
 rng:∀ u∈ord,u<m.Next.length
 start:ord[0]?=some m.Start.toNat
 len:num.length=m.Next.length
 n1:∀ j u x:Nat,ord[j]?=some u→c[u]?=some (↑x:Int)→num[x]?=some (↑j:Int)
 n2:∀ x:Nat,x<m.Next.length→num[x]?=some (-1:Int)∨∃ j u:Nat,num[x]?=some (↑j:Int)∧ord[j]?=some u∧c[u]?=some (↑x:Int)
 reach:∀ j u:Nat,ord[j]?=some u→j=0∨∃ i v a:Nat,i<j∧ord[i]?=some v∧a<m.Inputs.toNat∧u=nx m v a
section
variable {m:zaa} {c num:List Int} {ord:List Nat} {k:Nat}
theorem Num.inj (N:Num m c ord num) (C:ClsOk m k c) {i j u v:Nat} (hi:ord[i]?=some u) (hj:ord[j]?=some v) (h:c[u]?=c[v]?):i=j:=by
 obtain ⟨x,x1,_⟩:=C.rng u (N.rng u (zkH hi));have h1:=N.n1 i u x hi x1;have h2:=N.n1 j v x hj (by rw [← h,x1]);rw [h1] at h2;injection h2 with h2
 omega
theorem Num.nodup (N:Num m c ord num) (C:ClsOk m k c):ord.Nodup:=by
 refine List.pairwise_iff_getElem.2 fun i j hi hj hij h=>?_;have:=N.inj C (get_at hi) (get_at hj) (by rw [h]);omega
theorem Num.le (N:Num m c ord num) (C:ClsOk m k c):ord.length≤m.Next.length:=by
 have:=zhs (N.nodup C) (l':=List.range m.Next.length) fun x hx=>List.mem_range.2 (N.rng x hx)
 rwa [List.length_range] at this
theorem Num.push (N:Num m c ord num) {i v a t x:Nat} (hi:ord[i]?=some v) (ha:a<m.Inputs.toNat) (ht:t=nx m v a) (htn:t<m.Next.length) (hx:c[t]?=some (↑x:Int)) (hxn:x<m.Next.length) (hn:num[x]?=some (-1:Int)):Num m c (ord++[t]) (num.set x (↑ord.length:Int)) where
 rng:=fun u hu=>by
  rcases List.mem_append.1 hu with h | h
  ·exact N.rng u h
  ·rw [List.mem_singleton.1 h];exact htn
 start:=Ext.push ord t 0 _ N.start
 len:=by rw [List.length_set,N.len]
 n1:=fun j u y hj hc=>by
  rcases Nat.lt_or_ge j ord.length with h | h
  ·rw [List.getElem?_append_left h] at hj;have h1:=N.n1 j u y hj hc
   have hne:x≠y:=fun e=>by
    subst e;rw [hn] at h1;injection h1 with h1
    omega
   rw [List.getElem?_set_ne hne];exact h1
  ·have h2:=(zkI.1 hj).1;rw [zkJ,List.length_singleton] at h2;have e:j=ord.length:=by omega
   subst e;rw [List.getElem?_append_right (Nat.le_refl _),Nat.sub_self] at hj;injection hj with hj
   subst hj;rw [hx] at hc;injection hc with hc
   have e:x=y:=by omega
   subst e;rw [List.getElem?_set_self (by rw [N.len];exact hxn)]
 n2:=fun y hy=>by
  by_cases e:x=y
  ·subst e;exact Or.inr ⟨ord.length,t,by rw [List.getElem?_set_self (by rw [N.len];exact hxn)],by simp,hx⟩
  ·rw [List.getElem?_set_ne e];rcases N.n2 y hy with h | ⟨j,u,h1,h2,h3⟩
   ·exact Or.inl h
   ·exact Or.inr ⟨j,u,h1,Ext.push ord t j u h2,h3⟩
 reach:=fun j u hj=>by
  rcases Nat.lt_or_ge j ord.length with h | h
  ·rw [List.getElem?_append_left h] at hj;rcases N.reach j u hj with h1 | ⟨i',v',a',h1,h2,h3,h4⟩
   ·exact Or.inl h1
   ·exact Or.inr ⟨i',v',a',h1,Ext.push ord t i' v' h2,h3,h4⟩
  ·have h2:=(zkI.1 hj).1;rw [zkJ,List.length_singleton] at h2;have e:j=ord.length:=by omega
   subst e;rw [List.getElem?_append_right (Nat.le_refl _),Nat.sub_self] at hj;injection hj with hj
   exact Or.inr ⟨i,v,a,(zkI.1 hi).1,Ext.push ord t i v hi,ha,by rw [← hj,ht]⟩
structure RowAt (m:zaa) (c:List Int) (ord:List Nat) (v:Nat) (row out:List Int) (a:Nat):Prop where
 l1:row.length=a
 l2:out.length=a
 cell:∀ b,b<a→∃ j u:Nat,row[b]?=some (↑j:Int)∧ord[j]?=some u∧c[u]?=c[nx m v b]?∧out[b]?=some (ot m v b)
theorem RowAt.mono {v:Nat} {row out:List Int} {a:Nat} {ord':List Nat} (h:Ext ord ord') (R:RowAt m c ord v row out a):RowAt m c ord' v row out a :=
 ⟨R.l1,R.l2,fun b hb=>by
  obtain ⟨j,u,h1,h2,h3⟩:=R.cell b hb
  exact ⟨j,u,h1,h j u h2,h3⟩⟩
structure MinOk (m M:zaa) (c:List Int) (ord:List Nat) (num:List Int):Prop where
 cls:ClsOk m m.Next.length c
 num:Num m c ord num
 inp:M.Inputs=m.Inputs
 start:M.Start=0
 l1:M.Next.length=ord.length
 l2:M.Out.length=ord.length
 row:∀ i v:Nat,ord[i]?=some v→∃ row out,M.Next[i]?=some row∧M.Out[i]?=some out∧RowAt m c ord v row out m.Inputs.toNat
end
end
section
set_option maxRecDepth 100000
section
variable {m:zaa}
def mB (m:zaa) (s0 r:Nat):List (Nat×List Int):=bfsB (nx m) m.Inputs.toNat s0 r
abbrev MEnd (m:zaa) (s0:Nat) (L:List (Nat×List Int)):Prop:=zfj (nx m) m.Inputs.toNat s0 L
theorem zn0 (H:zdx m) {s0:Nat} (hs:s0<m.Next.length):∀ (r:Nat),∀ x∈mB m s0 r,x.1<m.Next.length∧x.2.length≤r∧dest m s0 x.2=x.1∧WOk m.Inputs x.2
 | 0,x,hx=>by
  have:x=(s0,[]):=by simpa [mB,bfsB] using hx
  subst this;exact ⟨hs,Nat.le_refl _,rfl,fun a ha=>by cases ha⟩
 | r+1,x,hx=>by
  have ih:=zn0 H hs r
  have old:x∈mB m s0 r→x.1<m.Next.length∧x.2.length≤r+1∧dest m s0 x.2=x.1∧WOk m.Inputs x.2:=fun h=>by
   have:=ih x h;exact ⟨this.1,by omega,this.2.2⟩
  unfold mB at hx;rw [bfsB] at hx;split at hx
  ·exact old hx
  ·rename_i y hy;split at hx
   ·exact old hx
   ·rcases List.mem_append.1 hx with h | h
    ·exact old h
    ·have hK:0<m.Inputs.toNat:=by have:=H.i1;omega
     have hy':=ih y (zkH hy);have ha:=Nat.mod_lt r hK;have hxe:x=(nx m y.1 (r%m.Inputs.toNat),y.2++[(↑(r%m.Inputs.toNat):Int)]):=by simpa using h
     subst hxe;refine ⟨(H.at hy'.1 ha).1,by simp;omega,?_,?_⟩
     ·simp only;rw [ze9,hy'.2.2.1];show nx m y.1 (Int.toNat _)=_;rw [Int.toNat_natCast]
     ·refine WOk.append hy'.2.2.2 fun a ha'=>?_;have:a=(↑(r%m.Inputs.toNat):Int):=by simpa using ha'
      subst this;omega
theorem zt3 (H:zdx m) {s0:Nat} (hs:s0<m.Next.length) (r:Nat):(mB m s0 r).length≤m.Next.length:=by
 have:=zhs (zn3 (e:=nx m) (K:=m.Inputs.toNat) (s0:=s0) r) (l':=List.range m.Next.length) fun x hx=>by
  obtain ⟨y,hy,rfl⟩:=List.mem_map.1 hx;exact List.mem_range.2 (zn0 H hs r y hy).1
 rwa [zkK,List.length_range] at this
theorem mB_step {s0 i a:Nat} {x:Nat×List Int} (ha:a<m.Inputs.toNat) (hx:(mB m s0 (i*m.Inputs.toNat+a))[i]?=some x) :
  mB m s0 (i*m.Inputs.toNat+(a+1))=if nx m x.1 a∈(mB m s0 (i*m.Inputs.toNat+a)).map Prod.fst then mB m s0 (i*m.Inputs.toNat+a) else mB m s0 (i*m.Inputs.toNat+a)++[(nx m x.1 a,x.2++[(↑a:Int)])]:=bfs_step ha hx
theorem mB_next {s0 i:Nat}:mB m s0 (i*m.Inputs.toNat+m.Inputs.toNat)=mB m s0 ((i+1)*m.Inputs.toNat):=by rw [Nat.succ_mul]
theorem mB_get {s0 i r:Nat} {x:Nat×List Int} (hx:(mB m s0 (i*m.Inputs.toNat))[i]?=some x) (hr:i*m.Inputs.toNat≤r):(mB m s0 r)[i]?=some x:=zjr (zkp hr) hx
structure zib (n:Nat) (y:List Bool) (l:List Nat):Prop where
 len:y.length=n
 at_:∀ t,t<n→y[t]?=some (decide (t∈l))
theorem zib.push {n t:Nat} {y:List Bool} {l:List Nat} (S:zib n y l) (ht:t<n):zib n (y.set t true) (l++[t]):=by
 refine ⟨by simp [S.len],fun u hu=>?_⟩;by_cases h:t=u
 ·subst h;rw [List.getElem?_set_self (by rw [S.len];exact ht)];simp
 ·rw [List.getElem?_set_ne h,S.at_ u hu];congr 1;apply decide_eq_decide.2;rw [List.mem_append];constructor
  ·exact Or.inl
  ·rintro (q | q)
   ·exact q
   ·exact absurd (by simpa using q:u=t).symm h
theorem seen_nil (n:Nat):zib n (List.replicate n false) []:=⟨by simp,fun t ht=>by simp [ht]⟩
theorem zl7 (hv:zch m=0):∃ L,MEnd m m.Start.toNat L∧zbw m=some (natI (L.map Prod.fst)):=by
 have H:=zd0 hv;have hst:=H.st;have hn:=H.n2;have hs:m.Start.toNat<m.Next.length:=by omega
 have inner:∀ (i:Nat) (x:Nat×List Int) (row:List Int) (y:List Bool),(mB m m.Start.toNat (i*m.Inputs.toNat))[i]?=some x→m.Next[x.1]?=some row→zib m.Next.length y ((mB m m.Start.toNat (i*m.Inputs.toNat)).map Prod.fst) →
   ∃ y',iter (fun (s:List Bool×List Int×Nat)=>zbw.s18 row s.1 s.2.1 s.2.2) fuel (y,natI ((mB m m.Start.toNat (i*m.Inputs.toNat)).map Prod.fst),0)=some (y',natI ((mB m m.Start.toNat ((i+1)*m.Inputs.toNat)).map Prod.fst))∧zib m.Next.length y' ((mB m m.Start.toNat ((i+1)*m.Inputs.toNat)).map Prod.fst):=by
  intro i x row y hx hrow S;have hxs:=(zn0 H hs _ x (zkH hx)).1
  have hrl:row.length=m.Inputs.toNat:=by
   obtain ⟨x',y',h1,_,h3,_⟩:=H.row x.1 hxs;rw [hrow] at h1;injection h1 with h1
   subst h1;omega
  obtain ⟨r,hr,y',rfl,hq⟩:=zb1 (step:=fun (s:List Bool×List Int×Nat)=>zbw.s18 row s.1 s.2.1 s.2.2) (fun s=>s.2.2≤m.Inputs.toNat∧s.2.1=natI ((mB m m.Start.toNat (i*m.Inputs.toNat+s.2.2)).map Prod.fst)∧zib m.Next.length s.1 ((mB m m.Start.toNat (i*m.Inputs.toNat+s.2.2)).map Prod.fst)) (fun s=>m.Inputs.toNat-s.2.2) (fun r=>∃ y',r=(y',natI ((mB m m.Start.toNat ((i+1)*m.Inputs.toNat)).map Prod.fst))∧zib m.Next.length y' ((mB m m.Start.toNat ((i+1)*m.Inputs.toNat)).map Prod.fst)) (fun s ⟨q1,q2,q3⟩=>by
   obtain ⟨y,l,a⟩:=s
   simp only at q1 q2 q3
   subst q2
   simp only [zbw.s18]
   by_cases g:a<m.Inputs.toNat
   ·left
    have hxa:=mB_get hx (r:=i*m.Inputs.toNat+a) (by omega)
    obtain ⟨h1,_,_,x',y',h2,_,h4,_⟩:=H.at hxs g
    rw [hrow] at h2
    injection h2 with h2
    subst h2
    have hlen:=zt3 H hs (i*m.Inputs.toNat+a)
    have hstep:=mB_step g hxa
    rw [zkB (by omega),zkD,zau h4,zcs rfl (q3.at_ _ h1)]
    by_cases hm:nx m x.1 a∈(mB m m.Start.toNat (i*m.Inputs.toNat+a)).map Prod.fst
    ·rw [if_pos hm] at hstep
     refine ⟨(y,natI ((mB m m.Start.toNat (i*m.Inputs.toNat+a)).map Prod.fst),a+1),by rw [zkB hm];rfl,⟨g,by simp only;rw [hstep],by simp only;rw [hstep];exact q3⟩,by simp only;omega⟩
    ·rw [if_neg hm] at hstep
     refine ⟨(y.set (nx m x.1 a) true,natI ((mB m m.Start.toNat (i*m.Inputs.toNat+a)).map Prod.fst++[nx m x.1 a]),a+1),?_,⟨g,by simp only;rw [hstep,List.map_append];rfl,by simp only;rw [hstep,List.map_append];exact q3.push h1⟩,by simp only;omega⟩
     rw [zkA hm,Bool.not_false,zkD,zcs rfl (q3.at_ _ h1),zar (by unfold zbh;rw [zg5,zkK];omega),natI_push,Int.toNat_natCast]
   ·right
    have e':a=m.Inputs.toNat:=by omega
    subst e'
    rw [mB_next] at q3 ⊢
    exact ⟨_,by rw [zkA (by omega),zkC],_,rfl,q3⟩) fuel (y,natI ((mB m m.Start.toNat (i*m.Inputs.toNat)).map Prod.fst),0) ⟨Nat.zero_le _,rfl,S⟩ (by have:=zbg;have:=H.i2;simp only;omega)
  exact ⟨y',hr,hq⟩
 unfold zbw;rw [zbv,zao,hv,zkA (by decide),zkC,zar ⟨by omega,by omega,by unfold zbh;omega⟩,zcs (i:=m.Start.toNat) (x:=false) (by omega) (by rw [List.getElem?_replicate,if_pos hs])]
 obtain ⟨r,hr,L,hL,rfl⟩:=zb1 (step:=fun (s:List Bool×List Int×Nat)=>zbw.s20 m s.1 s.2.1 s.2.2) (fun s=>s.2.2≤(mB m m.Start.toNat (s.2.2*m.Inputs.toNat)).length∧s.2.1=natI ((mB m m.Start.toNat (s.2.2*m.Inputs.toNat)).map Prod.fst)∧zib m.Next.length s.1 ((mB m m.Start.toNat (s.2.2*m.Inputs.toNat)).map Prod.fst)) (fun s=>m.Next.length+1-s.2.2) (fun r=>∃ L,MEnd m m.Start.toNat L∧r=natI (L.map Prod.fst)) (fun s ⟨q1,q2,q3⟩=>by
  obtain ⟨y,l,i⟩:=s
  simp only at q1 q2 q3
  subst q2
  simp only [zbw.s20]
  have hlen:=zt3 H hs (i*m.Inputs.toNat)
  by_cases g:i<(mB m m.Start.toNat (i*m.Inputs.toNat)).length
  ·left
   have hx:=get_at g
   generalize (mB m m.Start.toNat (i*m.Inputs.toNat))[i]=x at hx
   have hxs:=(zn0 H hs _ x (zkH hx)).1
   have hrow:=get_at hxs
   obtain ⟨y',h1,h2⟩:=inner i x _ y hx hrow q3
   have hmono:=(zkp (e:=nx m) (K:=m.Inputs.toNat) (s0:=m.Start.toNat) (show i*m.Inputs.toNat≤(i+1)*m.Inputs.toNat by rw [Nat.succ_mul];omega)).length_le
   refine ⟨(y',natI ((mB m m.Start.toNat ((i+1)*m.Inputs.toNat)).map Prod.fst),i+1),?_,⟨by simp only;unfold mB at g ⊢;omega,rfl,h2⟩,by simp only;omega⟩
   rw [zkB (by rw [zg5,zkK];omega),zkD,zau (natI_at (i:=i) (u:=x.1) (by rw [List.getElem?_map,hx];rfl)),zcs rfl hrow,h1,zao]
   rfl
  ·right
   refine ⟨_,by rw [zkA (by rw [zg5,zkK];omega),zkC],mB m m.Start.toNat (i*m.Inputs.toNat),⟨?_⟩,rfl⟩
   rw [show (mB m m.Start.toNat (i*m.Inputs.toNat)).length=i by omega]
   rfl) fuel ((List.replicate m.Next.length false).set m.Start.toNat true,[m.Start],0) ⟨Nat.zero_le _,by simp only;rw [Nat.zero_mul];simp [mB,bfsB,natI];omega,by
    simp only
    rw [Nat.zero_mul]
    exact (seen_nil m.Next.length).push hs⟩ (by have:=zbg;simp only;omega)
 exact ⟨L,hL,by rw [hr,zao]⟩
end
end
section
set_option maxRecDepth 100000
section
variable {m:zaa}
def zgq (x:Nat×List Int):za3:=⟨(↑x.1:Int),x.2⟩
theorem zrt {l:List (Nat×List Int)} {i:Nat} {x:Nat×List Int} (h:l[i]?=some x):(l.map zgq)[i]?=some (zgq x):=by rw [List.getElem?_map,h];rfl
theorem zrs (H:zdx m) {s0:Nat} (hs:s0<m.Next.length):∃ L,MEnd m s0 L∧zbp m (↑s0:Int)=some (L.map zgq):=by
 have hn:=H.n2;have hI:=H.i2
 have inner:∀ (i:Nat) (x:Nat×List Int) (row:List Int) (y:List Bool),i≤m.Next.length→(mB m s0 (i*m.Inputs.toNat))[i]?=some x→m.Next[x.1]?=some row→zib m.Next.length y ((mB m s0 (i*m.Inputs.toNat)).map Prod.fst) →
   ∃ y',iter (fun (s:List Bool×List za3×Nat)=>zbp.s18 i row s.1 s.2.1 s.2.2) fuel (y,(mB m s0 (i*m.Inputs.toNat)).map zgq,0)=some (y',(mB m s0 ((i+1)*m.Inputs.toNat)).map zgq)∧zib m.Next.length y' ((mB m s0 ((i+1)*m.Inputs.toNat)).map Prod.fst):=by
  intro i x row y hin hx hrow S;have hxs:=(zn0 H hs _ x (zkH hx)).1;have hxl:=(zn0 H hs _ x (zkH hx)).2.1;have hiK:i*m.Inputs.toNat≤128*64:=Nat.mul_le_mul (by omega) (by omega)
  have hrl:row.length=m.Inputs.toNat:=by
   obtain ⟨x',y',h1,_,h3,_⟩:=H.row x.1 hxs;rw [hrow] at h1;injection h1 with h1
   subst h1;omega
  obtain ⟨r,hr,y',rfl,hq⟩:=zb1 (step:=fun (s:List Bool×List za3×Nat)=>zbp.s18 i row s.1 s.2.1 s.2.2) (fun s=>s.2.2≤m.Inputs.toNat∧s.2.1=(mB m s0 (i*m.Inputs.toNat+s.2.2)).map zgq∧zib m.Next.length s.1 ((mB m s0 (i*m.Inputs.toNat+s.2.2)).map Prod.fst)) (fun s=>m.Inputs.toNat-s.2.2) (fun r=>∃ y',r=(y',(mB m s0 ((i+1)*m.Inputs.toNat)).map zgq)∧zib m.Next.length y' ((mB m s0 ((i+1)*m.Inputs.toNat)).map Prod.fst)) (fun s ⟨q1,q2,q3⟩=>by
   obtain ⟨y,l,a⟩:=s
   simp only at q1 q2 q3
   subst q2
   simp only [zbp.s18]
   by_cases g:a<m.Inputs.toNat
   ·left
    have hxa:=mB_get hx (r:=i*m.Inputs.toNat+a) (by omega)
    obtain ⟨h1,_,_,x',y',h2,_,h4,_⟩:=H.at hxs g
    rw [hrow] at h2
    injection h2 with h2
    subst h2
    have hlen:=zt3 H hs (i*m.Inputs.toNat+a)
    have hstep:=mB_step g hxa
    rw [zkB (by omega),zkD,zau h4,zcs rfl (q3.at_ _ h1)]
    by_cases hm:nx m x.1 a∈(mB m s0 (i*m.Inputs.toNat+a)).map Prod.fst
    ·rw [if_pos hm] at hstep
     refine ⟨(y,(mB m s0 (i*m.Inputs.toNat+a)).map zgq,a+1),by rw [zkB hm];rfl,⟨g,by simp only;rw [hstep],by simp only;rw [hstep];exact q3⟩,by simp only;omega⟩
    ·rw [if_neg hm] at hstep
     refine ⟨(y.set (nx m x.1 a) true,(mB m s0 (i*m.Inputs.toNat+a)).map zgq++[zgq (nx m x.1 a,x.2++[(↑a:Int)])],a+1),?_,⟨g,by simp only;rw [hstep,List.map_append];rfl,by simp only;rw [hstep,List.map_append];exact q3.push h1⟩,by simp only;omega⟩
     rw [zkA hm,Bool.not_false,zkD,zcs rfl (q3.at_ _ h1),zau (zrt hxa)]
     show (ze0 [x.2,[(↑a:Int)]]).bind _=_
     rw [zhh _ (by simp) (by simp;omega),zao,zar (by unfold zbh;rw [zkK];omega),Int.toNat_natCast]
     simp [zgq]
   ·right
    have e':a=m.Inputs.toNat:=by omega
    subst e'
    rw [mB_next] at q3 ⊢
    exact ⟨_,by rw [zkA (by omega),zkC],_,rfl,q3⟩) fuel (y,(mB m s0 (i*m.Inputs.toNat)).map zgq,0) ⟨Nat.zero_le _,rfl,S⟩ (by have:=zbg;have:=H.i2;simp only;omega)
  exact ⟨y',hr,hq⟩
 unfold zbp;rw [zar ⟨by omega,by omega,by unfold zbh;omega⟩,zcs (i:=s0) (x:=false) rfl (by rw [List.getElem?_replicate,if_pos hs])]
 obtain ⟨r,hr,L,hL,rfl⟩:=zb1 (step:=fun (s:List Bool×List za3×Nat)=>zbp.s20 m s.1 s.2.1 s.2.2) (fun s=>s.2.2≤(mB m s0 (s.2.2*m.Inputs.toNat)).length∧s.2.1=(mB m s0 (s.2.2*m.Inputs.toNat)).map zgq∧zib m.Next.length s.1 ((mB m s0 (s.2.2*m.Inputs.toNat)).map Prod.fst)) (fun s=>m.Next.length+1-s.2.2) (fun r=>∃ L,MEnd m s0 L∧r=L.map zgq) (fun s ⟨q1,q2,q3⟩=>by
  obtain ⟨y,l,i⟩:=s
  simp only at q1 q2 q3
  subst q2
  simp only [zbp.s20]
  have hlen:=zt3 H hs (i*m.Inputs.toNat)
  by_cases g:i<(mB m s0 (i*m.Inputs.toNat)).length
  ·left
   have hx:=get_at g
   generalize (mB m s0 (i*m.Inputs.toNat))[i]=x at hx
   have hxs:=(zn0 H hs _ x (zkH hx)).1
   have hrow:=get_at hxs
   obtain ⟨y',h1,h2⟩:=inner i x _ y (by omega) hx hrow q3
   have hmono:=(zkp (e:=nx m) (K:=m.Inputs.toNat) (s0:=s0) (show i*m.Inputs.toNat≤(i+1)*m.Inputs.toNat by rw [Nat.succ_mul];omega)).length_le
   refine ⟨(y',(mB m s0 ((i+1)*m.Inputs.toNat)).map zgq,i+1),?_,⟨by simp only;unfold mB at g ⊢;omega,rfl,h2⟩,by simp only;omega⟩
   rw [zkB (by rw [zkK];omega),zkD,zau (zrt hx),zcs (n:=(zgq x).state) (i:=x.1) rfl hrow,h1,zao]
   rfl
  ·right
   refine ⟨_,by rw [zkA (by rw [zkK];omega),zkC],mB m s0 (i*m.Inputs.toNat),⟨?_⟩,rfl⟩
   rw [show (mB m s0 (i*m.Inputs.toNat)).length=i by omega]
   rfl) fuel ((List.replicate m.Next.length false).set s0 true,[(⟨(↑s0:Int),[]⟩:za3)],0) ⟨Nat.zero_le _,by simp only;rw [Nat.zero_mul];simp [mB,bfsB,zgq],by
    simp only
    rw [Nat.zero_mul]
    exact (seen_nil m.Next.length).push hs⟩ (by have:=zbg;simp only;omega)
 exact ⟨L,hL,by rw [Int.toNat_natCast,hr,zao]⟩
theorem zqf (hv:zch m=0):∃ L,MEnd m m.Start.toNat L∧zcq m=some (natI (L.map Prod.fst),L.map Prod.snd,0):=by
 have H:=zd0 hv;have hst:=H.st;obtain ⟨L,hL,he⟩:=zrs H (s0:=m.Start.toNat) (by omega);rw [show (↑m.Start.toNat:Int)=m.Start by omega] at he
 have hlen:L.length≤m.Next.length:=by
  rw [hL.eq];exact zt3 H (by omega) _
 have hn:=H.n2;refine ⟨L,hL,?_⟩;unfold zcq;rw [zbv,zao,hv,zkA (by decide),zkC,he,zao]
 have key:=zgs (step:=fun (s:List Int×List (List Int)×Nat)=>zcq.s2 (L.map zgq) s.1 s.2.1 s.2.2) (r:=(natI (L.map Prod.fst),L.map Prod.snd)) (fun s=>s.2.2≤L.length∧s.1=natI ((L.take s.2.2).map Prod.fst)∧s.2.1=(L.take s.2.2).map Prod.snd) (fun s=>L.length-s.2.2) (fun s ⟨q1,q2,q3⟩=>by
  obtain ⟨a,b,i⟩:=s
  simp only at q1 q2 q3
  subst q2
  subst q3
  simp only [zcq.s2]
  by_cases g:i<L.length
  ·left
   have hx:=get_at g
   refine ⟨(natI ((L.take (i+1)).map Prod.fst),(L.take (i+1)).map Prod.snd,i+1),?_,⟨g,rfl,rfl⟩,by simp only;omega⟩
   rw [zkB (by rw [zkK];omega),zkD,zau (zrt hx),zar (by unfold zbh;rw [zg5,zkK,List.length_take];omega),zar (by unfold zbh;rw [zkK,List.length_take];omega),zck hx,List.map_append,List.map_append]
   simp [natI,zgq]
  ·right
   have:i=L.length:=by omega
   subst this
   rw [zkA (by rw [zkK];omega),zkC,List.take_length]) (n:=fuel) (s:=([],[],0)) ⟨Nat.zero_le _,rfl,rfl⟩ (by have:=zbg;simp only;omega)
 rw [key,zao];rfl
end
end
section
set_option maxRecDepth 100000
theorem bfs_stay {A:Type} [DecidableEq A] {e:A→Nat→A} {K:Nat} {s0:A} {L:List (A×List Int)} (h:zfj e K s0 L) (hK:0<K):∀ d,bfsB e K s0 (L.length*K+d)=L
 | 0=>h.eq.symm
 | d+1=>by
  have ih:=bfs_stay h hK d;show bfsB e K s0 (L.length*K+d+1)=L;rw [bfsB,ih,List.getElem?_eq_none ?_];have h1:(L.length*K) / K≤(L.length*K+d) / K:=Nat.div_le_div_right (by omega);rw [Nat.mul_div_cancel _ hK] at h1;exact h1
section
variable {a b:zaa}
def pE (a b:zaa) (p:Nat×Nat) (x:Nat):Nat×Nat:=(nx a p.1 x,nx b p.2 x)
def pB (a b:zaa) (p0:Nat×Nat) (r:Nat):List ((Nat×Nat)×List Int):=bfsB (pE a b) a.Inputs.toNat p0 r
abbrev PEnd (a b:zaa) (p0:Nat×Nat) (L:List ((Nat×Nat)×List Int)):Prop:=zfj (pE a b) a.Inputs.toNat p0 L
def difB (a b:zaa) (p0:Nat×Nat) (r:Nat):Bool:=match (pB a b p0 r)[r / a.Inputs.toNat]? with
 | some x=>decide (ot a x.1.1 (r%a.Inputs.toNat)≠ot b x.1.2 (r%a.Inputs.toNat))
 | none=>false
theorem zqm {p0:Nat×Nat} {i c:Nat} {x:(Nat×Nat)×List Int} (hc:c<a.Inputs.toNat) (hx:(pB a b p0 (i*a.Inputs.toNat+c))[i]?=some x):difB a b p0 (i*a.Inputs.toNat+c)=decide (ot a x.1.1 c≠ot b x.1.2 c):=by
 unfold difB;rw [zpa hc,hx,dm_mod hc]
structure Two (a b:zaa):Prop where
 a1:zdx a
 b1:zdx b
 inp:a.Inputs=b.Inputs
theorem zpc (T:Two a b) {p0:Nat×Nat} (h1:p0.1<a.Next.length) (h2:p0.2<b.Next.length):∀ (r:Nat),∀ x∈pB a b p0 r,x.1.1<a.Next.length∧x.1.2<b.Next.length∧x.2.length≤r∧dest a p0.1 x.2=x.1.1∧dest b p0.2 x.2=x.1.2∧WOk a.Inputs x.2
 | 0,x,hx=>by
  have:x=(p0,[]):=by simpa [pB,bfsB] using hx
  subst this;exact ⟨h1,h2,Nat.le_refl _,rfl,rfl,fun a ha=>by cases ha⟩
 | r+1,x,hx=>by
  have ih:=zpc T h1 h2 r
  have old:x∈pB a b p0 r→x.1.1<a.Next.length∧x.1.2<b.Next.length∧x.2.length≤r+1∧dest a p0.1 x.2=x.1.1∧dest b p0.2 x.2=x.1.2∧WOk a.Inputs x.2:=fun h=>by
   have:=ih x h;exact ⟨this.1,this.2.1,by omega,this.2.2.2⟩
  unfold pB at hx;rw [bfsB] at hx;split at hx
  ·exact old hx
  ·rename_i y hy;split at hx
   ·exact old hx
   ·rcases List.mem_append.1 hx with h | h
    ·exact old h
    ·have hK:0<a.Inputs.toNat:=by have:=T.a1.i1;omega
     have hy':=ih y (zkH hy);have ha:=Nat.mod_lt r hK;have hxe:x=(pE a b y.1 (r%a.Inputs.toNat),y.2++[(↑(r%a.Inputs.toNat):Int)]):=by simpa using h
     subst hxe;refine ⟨(T.a1.at hy'.1 ha).1,(T.b1.at hy'.2.1 (by rw [← T.inp];exact ha)).1,by simp;omega,?_,?_,?_⟩
     ·simp only;rw [ze9,hy'.2.2.2.1];show nx a y.1.1 (Int.toNat _)=_;rw [Int.toNat_natCast];rfl
     ·simp only;rw [ze9,hy'.2.2.2.2.1];show nx b y.1.2 (Int.toNat _)=_;rw [Int.toNat_natCast];rfl
     ·refine WOk.append hy'.2.2.2.2.2 fun z ha'=>?_;have:z=(↑(r%a.Inputs.toNat):Int):=by simpa using ha'
      subst this;omega
theorem pB_len (T:Two a b) {p0:Nat×Nat} (h1:p0.1<a.Next.length) (h2:p0.2<b.Next.length) (r:Nat):(pB a b p0 r).length≤a.Next.length*b.Next.length:=by
 have hn:=zn3 (e:=pE a b) (K:=a.Inputs.toNat) (s0:=p0) r;have:=zhs (l:=(((pB a b p0 r).map Prod.fst).map fun p=>p.1*b.Next.length+p.2)) (l':=List.range (a.Next.length*b.Next.length)) ?_ fun x hx=>?_
 ·rwa [zkK,zkK,List.length_range] at this
 ·refine List.Pairwise.map _ (R:=fun p q=>p∈(pB a b p0 r).map Prod.fst∧q∈(pB a b p0 r).map Prod.fst∧p≠q) (fun p q ⟨hp,hq,hne⟩ he=>?_) (List.Pairwise.imp_of_mem (fun {p q} hp hq hne=>⟨hp,hq,hne⟩) hn);obtain ⟨x,hx,rfl⟩:=List.mem_map.1 hp;obtain ⟨y,hy,rfl⟩:=List.mem_map.1 hq;have hx2:=(zpc T h1 h2 r x hx).2.1;have hy2:=(zpc T h1 h2 r y hy).2.1;have he:x.1.1*b.Next.length+x.1.2=y.1.1*b.Next.length+y.1.2:=he;have e1:=zpa (i:=x.1.1) hx2;have e2:=zpa (i:=y.1.1) hy2;have e3:=dm_mod (i:=x.1.1) hx2;have e4:=dm_mod (i:=y.1.1) hy2;rw [he] at e1 e3;exact hne (Prod.ext (by rw [← e1,e2]) (by rw [← e3,e4]))
 ·obtain ⟨p,hp,rfl⟩:=List.mem_map.1 hx;obtain ⟨y,hy,rfl⟩:=List.mem_map.1 hp;exact List.mem_range.2 (znv (zpc T h1 h2 r y hy).1 (zpc T h1 h2 r y hy).2.1)
theorem pB_step {p0:Nat×Nat} {i c:Nat} {x:(Nat×Nat)×List Int} (hc:c<a.Inputs.toNat) (hx:(pB a b p0 (i*a.Inputs.toNat+c))[i]?=some x) :
  pB a b p0 (i*a.Inputs.toNat+(c+1))=if pE a b x.1 c∈(pB a b p0 (i*a.Inputs.toNat+c)).map Prod.fst then pB a b p0 (i*a.Inputs.toNat+c) else pB a b p0 (i*a.Inputs.toNat+c)++[(pE a b x.1 c,x.2++[(↑c:Int)])]:=by
 have h:=bfs_step (e:=pE a b) (s0:=p0) hc hx;by_cases g:pE a b x.1 c∈(pB a b p0 (i*a.Inputs.toNat+c)).map Prod.fst
 ·rw [if_pos g];exact h.trans (if_pos g)
 ·rw [if_neg g];exact h.trans (if_neg g)
theorem pB_next {p0:Nat×Nat} {i:Nat}:pB a b p0 (i*a.Inputs.toNat+a.Inputs.toNat)=pB a b p0 ((i+1)*a.Inputs.toNat):=by rw [Nat.succ_mul]
theorem pB_get {p0:Nat×Nat} {i r:Nat} {x:(Nat×Nat)×List Int} (hx:(pB a b p0 (i*a.Inputs.toNat))[i]?=some x) (hr:i*a.Inputs.toNat≤r):(pB a b p0 r)[i]?=some x:=zjr (zkp hr) hx
def Fst (a b:zaa) (p0:Nat×Nat) (res:List Int×Bool):Prop :=
 (∃ i c x,c<a.Inputs.toNat∧(pB a b p0 (i*a.Inputs.toNat+c))[i]?=some x∧ot a x.1.1 c≠ot b x.1.2 c∧(∀ r,r<i*a.Inputs.toNat+c→difB a b p0 r=false)∧res=(x.2++[(↑c:Int)],true)) ∨
 (∃ L,PEnd a b p0 L∧(∀ r,r<L.length*a.Inputs.toNat→difB a b p0 r=false)∧res=([],false))
theorem fst_uniq (hK:0<a.Inputs.toNat) {p0:Nat×Nat} {u v:List Int×Bool} (hu:Fst a b p0 u) (hv:Fst a b p0 v):u=v:=by
 have cross:∀ {u v:List Int×Bool},(∃ i c x,c<a.Inputs.toNat∧(pB a b p0 (i*a.Inputs.toNat+c))[i]?=some x∧ot a x.1.1 c≠ot b x.1.2 c∧(∀ r,r<i*a.Inputs.toNat+c→difB a b p0 r=false)∧u=(x.2++[(↑c:Int)],true))→(∃ L,PEnd a b p0 L∧(∀ r,r<L.length*a.Inputs.toNat→difB a b p0 r=false)∧v=([],false))→False:=by
  rintro u v ⟨i,c,x,h1,h2,h3,h4,_⟩ ⟨L,h6,h7,_⟩;rcases Nat.lt_or_ge (i*a.Inputs.toNat+c) (L.length*a.Inputs.toNat) with g | g
  ·have:=h7 _ g;rw [zqm h1 h2,zkB h3] at this;cases this
  ·have hs:=bfs_stay h6 hK (i*a.Inputs.toNat+c-L.length*a.Inputs.toNat);rw [show L.length*a.Inputs.toNat+(i*a.Inputs.toNat+c-L.length*a.Inputs.toNat)=i*a.Inputs.toNat+c by omega] at hs;have h2':(bfsB (pE a b) a.Inputs.toNat p0 (i*a.Inputs.toNat+c))[i]?=some x:=h2;rw [hs] at h2';have hi:=(zkI.1 h2').1;have:=znv hi h1;omega
 rcases hu with hu | hu<;>rcases hv with hv | hv
 ·obtain ⟨i,c,x,h1,h2,h3,h4,rfl⟩:=hu;obtain ⟨i',c',x',g1,g2,g3,g4,rfl⟩:=hv
  have hr:i*a.Inputs.toNat+c=i'*a.Inputs.toNat+c':=by
   rcases Nat.lt_trichotomy (i*a.Inputs.toNat+c) (i'*a.Inputs.toNat+c') with q | q | q
   ·have:=g4 _ q;rw [zqm h1 h2,zkB h3] at this;cases this
   ·exact q
   ·have:=h4 _ q;rw [zqm g1 g2,zkB g3] at this;cases this
  have e1:i=i':=by rw [← zpa (i:=i) h1,hr,zpa g1]
  subst e1;have e2:c=c':=by omega
  subst e2;rw [h2] at g2;injection g2 with g2
  rw [g2]
 ·exact (cross hu hv).elim
 ·exact (cross hv hu).elim
 ·obtain ⟨_,_,_,rfl⟩:=hu;obtain ⟨_,_,_,rfl⟩:=hv;rfl
end
end
section
set_option maxRecDepth 100000
section
variable {a b:zaa}
def plC (x:(Nat×Nat)×List Int):zba:=⟨⟨(↑x.1.1:Int),(↑x.1.2:Int)⟩,x.2⟩
theorem map_get {α β:Type} {f:α→β} {l:List α} {i:Nat} {x:α} (h:l[i]?=some x):(l.map f)[i]?=some (f x):=by rw [List.getElem?_map,h];rfl
structure SeenG (n k:Nat) (y:List (List Bool)) (l:List (Nat×Nat)):Prop where
 len:y.length=n
 at_:∀ s t,s<n→t<k→∃ row,y[s]?=some row∧row.length=k∧row[t]?=some (decide ((s,t)∈l))
theorem pair_mem {l:List (Nat×Nat)} {p q:Nat×Nat} (h:p≠q):p∈l↔p∈l++[q]:=by
 rw [List.mem_append,List.mem_singleton];exact ⟨Or.inl,fun z=>z.elim id fun e=>absurd e h⟩
theorem SeenG.push {n k s t:Nat} {y:List (List Bool)} {l:List (Nat×Nat)} {row:List Bool} (S:SeenG n k y l) (hs:s<n) (ht:t<k) (hr:y[s]?=some row):SeenG n k (y.set s (row.set t true)) (l++[(s,t)]):=by
 refine ⟨by simp [S.len],fun u v hu hv=>?_⟩;obtain ⟨row',h1,h2,h3⟩:=S.at_ u v hu hv;by_cases h:s=u
 ·subst h;rw [hr] at h1;injection h1 with h1
  subst h1;refine ⟨row.set t true,by rw [List.getElem?_set_self (by rw [S.len];exact hs)],by simp [h2],?_⟩;by_cases g:t=v
  ·subst g;rw [List.getElem?_set_self (by omega)];simp
  ·rw [List.getElem?_set_ne g,h3];congr 1;apply decide_eq_decide.2;exact pair_mem fun e=>g (congrArg Prod.snd e).symm
 ·refine ⟨row',by rw [List.getElem?_set_ne h,h1],h2,?_⟩;rw [h3];congr 1;apply decide_eq_decide.2;exact pair_mem fun e=>h (congrArg Prod.fst e).symm
theorem seenG_nil (n k:Nat):SeenG n k (List.replicate n (List.replicate k false)) []:=⟨by simp,fun s t hs ht=>⟨List.replicate k false,by simp [hs],by simp,by simp [ht]⟩⟩
theorem big_sum {i c n k K:Nat} (hi:i≤n*k) (hn:n≤128) (hk:k≤128) (hK:K≤64) (hc:c≤64):i*K+c≤1048640:=by
 have h1:n*k≤128*128:=Nat.mul_le_mul hn hk;have h2:i*K≤(128*128)*64:=Nat.mul_le_mul (by omega) hK;omega
theorem search_row (T:Two a b) {p0:Nat×Nat} (h1:p0.1<a.Next.length) (h2:p0.2<b.Next.length) {i:Nat} {x:(Nat×Nat)×List Int} {y:List (List Bool)} (hi:i≤a.Next.length*b.Next.length)
  (hx:(pB a b p0 (i*a.Inputs.toNat))[i]?=some x) (S:SeenG a.Next.length b.Next.length y ((pB a b p0 (i*a.Inputs.toNat)).map Prod.fst)) (hd:∀ r,r<i*a.Inputs.toNat→difB a b p0 r=false) :
  ∃ r,iter (fun (s:List (List Bool)×List zba×Nat)=>za8.s20 a b i (plC x) s.1 s.2.1 s.2.2) fuel (y,(pB a b p0 (i*a.Inputs.toNat)).map plC,0)=some r ∧
   ((∃ y',r=.inl (y',(pB a b p0 ((i+1)*a.Inputs.toNat)).map plC)∧SeenG a.Next.length b.Next.length y' ((pB a b p0 ((i+1)*a.Inputs.toNat)).map Prod.fst)∧∀ r,r<(i+1)*a.Inputs.toNat→difB a b p0 r=false) ∨
   (∃ res,r=.inr (.inr (.inr res))∧Fst a b p0 res)):=by
 have han:=T.a1.n2;have hbn:=T.b1.n2;have hI:=T.a1.i2;have hxr:=zpc T h1 h2 _ x (zkH hx)
 obtain ⟨r,hr,hq⟩:=zb1 (step:=fun (s:List (List Bool)×List zba×Nat)=>za8.s20 a b i (plC x) s.1 s.2.1 s.2.2) (fun s=>s.2.2≤a.Inputs.toNat∧s.2.1=(pB a b p0 (i*a.Inputs.toNat+s.2.2)).map plC∧SeenG a.Next.length b.Next.length s.1 ((pB a b p0 (i*a.Inputs.toNat+s.2.2)).map Prod.fst)∧∀ r,r<i*a.Inputs.toNat+s.2.2→difB a b p0 r=false) (fun s=>a.Inputs.toNat-s.2.2) (fun r=>(∃ y',r=.inl (y',(pB a b p0 ((i+1)*a.Inputs.toNat)).map plC)∧SeenG a.Next.length b.Next.length y' ((pB a b p0 ((i+1)*a.Inputs.toNat)).map Prod.fst)∧∀ r,r<(i+1)*a.Inputs.toNat→difB a b p0 r=false)∨(∃ res,r=.inr (.inr (.inr res))∧Fst a b p0 res)) (fun s ⟨q1,q2,q3,q4⟩=>by
  obtain ⟨y,l,c⟩:=s
  simp only at q1 q2 q3 q4
  subst q2
  simp only [za8.s20]
  by_cases g:c<a.Inputs.toNat
  ·have hxc:=pB_get hx (r:=i*a.Inputs.toNat+c) (by omega)
   obtain ⟨g1,_,_,ra,oa,e1,e2,e3,e4⟩:=T.a1.at hxr.1 g
   obtain ⟨f1,_,_,rb,ob,d1,d2,d3,d4⟩:=T.b1.at hxr.2.1 (a:=c) (by rw [← T.inp];exact g)
   have hbig:=big_sum (c:=c) hi han hbn (K:=a.Inputs.toNat) (by omega) (by omega)
   have hlen:=pB_len T h1 h2 (i*a.Inputs.toNat+c)
   have hnn:a.Next.length*b.Next.length≤128*128:=Nat.mul_le_mul han hbn
   rw [zkB (by omega),zkD,zcs (n:=(plC x).at_.s) (i:=x.1.1) rfl e2,zau e4,zcs (n:=(plC x).at_.t) (i:=x.1.2) rfl d2,zau d4]
   by_cases hne:ot a x.1.1 c≠ot b x.1.2 c
   ·right
    rw [zkB hne,zkD,zau (map_get hxc)]
    show ∃ r,((ze0 [x.2,[(↑c:Int)]]).bind _:Option _)=_∧_
    rw [zhh _ (by simp) (by simp;omega),zao]
    refine ⟨_,rfl,Or.inr ⟨_,rfl,Or.inl ⟨i,c,x,g,hxc,hne,q4,?_⟩⟩⟩
    simp
   ·left
    have heq:ot a x.1.1 c=ot b x.1.2 c:=Classical.byContradiction hne
    have hd':∀ r,r<i*a.Inputs.toNat+(c+1)→difB a b p0 r=false:=fun r hr=>by
     rcases Nat.lt_or_ge r (i*a.Inputs.toNat+c) with q | q
     ·exact q4 r q
     ·have:r=i*a.Inputs.toNat+c:=by omega
      rw [this,zqm g hxc,zkA hne]
    have hstep:=pB_step g hxc
    obtain ⟨row,r1,r2,r3⟩:=q3.at_ _ _ g1 f1
    have hxm:x.1∈(pB a b p0 (i*a.Inputs.toNat+c)).map Prod.fst:=List.mem_map.2 ⟨x,zkH hxc,rfl⟩
    have htest:((cond (!(decide ((↑(nx a x.1.1 c):Int)=(plC x).at_.s)&&(decide ((↑(nx b x.1.2 c):Int)=(plC x).at_.t)&&true))) (idx y (↑(nx a x.1.1 c):Int) fun e1288=>idx e1288 (↑(nx b x.1.2 c):Int) fun e1289=>some (!e1289)) (some false):Option Bool))=some (!decide (pE a b x.1 c∈(pB a b p0 (i*a.Inputs.toNat+c)).map Prod.fst)):=by
     by_cases z:pE a b x.1 c=x.1
     ·have z1:nx a x.1.1 c=x.1.1:=congrArg Prod.fst z
      have z2:nx b x.1.2 c=x.1.2:=congrArg Prod.snd z
      rw [zkB (show (↑(nx a x.1.1 c):Int)=(plC x).at_.s by rw [z1];rfl),zkB (show (↑(nx b x.1.2 c):Int)=(plC x).at_.t by rw [z2];rfl),z,zkB hxm]
      rfl
     ·have:(!(decide ((↑(nx a x.1.1 c):Int)=(plC x).at_.s)&&(decide ((↑(nx b x.1.2 c):Int)=(plC x).at_.t)&&true)))=true:=by
       by_cases z1:nx a x.1.1 c=x.1.1
       ·have z2:nx b x.1.2 c≠x.1.2:=fun q=>z (Prod.ext z1 q)
        rw [zkA (show ¬ (↑(nx b x.1.2 c):Int)=(plC x).at_.t from fun q=>z2 (Int.ofNat_inj.1 q))]
        simp
       ·rw [zkA (show ¬ (↑(nx a x.1.1 c):Int)=(plC x).at_.s from fun q=>z1 (Int.ofNat_inj.1 q))]
        rfl
      rw [this,zkD,zcs rfl r1,zcs rfl r3]
      rfl
    rw [zkA hne,zkC,zcs (n:=(plC x).at_.s) (i:=x.1.1) rfl e1,zau e3,zcs (n:=(plC x).at_.t) (i:=x.1.2) rfl d1,zau d3,htest,zao]
    by_cases hm:pE a b x.1 c∈(pB a b p0 (i*a.Inputs.toNat+c)).map Prod.fst
    ·rw [if_pos hm] at hstep
     refine ⟨(y,(pB a b p0 (i*a.Inputs.toNat+c)).map plC,c+1),by rw [zkB hm,Bool.not_true,zkC,zar (by unfold inR;omega)],⟨g,by simp only;rw [hstep],by simp only;rw [hstep];exact q3,hd'⟩,by simp only;omega⟩
    ·rw [if_neg hm] at hstep
     refine ⟨(y.set (nx a x.1.1 c) (row.set (nx b x.1.2 c) true),(pB a b p0 (i*a.Inputs.toNat+c)).map plC++[plC (pE a b x.1 c,x.2++[(↑c:Int)])],c+1),?_,⟨g,by simp only;rw [hstep,List.map_append];rfl,by simp only;rw [hstep,List.map_append];exact q3.push g1 f1 r1,hd'⟩,by simp only;omega⟩
     rw [zkA hm,Bool.not_false,zkD,zcs rfl r1,zcs rfl r3,zau (map_get hxc)]
     show (ze0 [x.2,[(↑c:Int)]]).bind _=_
     rw [zhh _ (by simp) (by simp;omega),zao,zar (by unfold zbh;rw [zkK];omega),zar (by unfold inR;omega),Int.toNat_natCast,Int.toNat_natCast]
     simp [plC,pE]
  ·right
   have e':c=a.Inputs.toNat:=by omega
   subst e'
   rw [pB_next] at q3 ⊢
   exact ⟨_,by rw [zkA (by omega),zkC],Or.inl ⟨_,rfl,q3,by rw [Nat.succ_mul];exact q4⟩⟩) fuel (y,(pB a b p0 (i*a.Inputs.toNat)).map plC,0) ⟨Nat.zero_le _,rfl,S,hd⟩ (by have:=zbg;simp only;omega)
 exact ⟨r,hr,hq⟩
theorem zh4 (T:Two a b) {p0:Nat×Nat} (h1:p0.1<a.Next.length) (h2:p0.2<b.Next.length):∃ res,za8 a b (⟨(↑p0.1:Int),(↑p0.2:Int)⟩:zc0)=some res∧Fst a b p0 res:=by
 have han:=T.a1.n2;have hbn:=T.b1.n2;have hI:=T.a1.i2;have hnn:a.Next.length*b.Next.length≤128*128:=Nat.mul_le_mul han hbn;unfold za8
 have grid:=zgs (step:=fun (s:List (List Bool)×Nat)=>za8.s2 a b s.1 s.2) (r:=List.replicate a.Next.length (List.replicate b.Next.length false)) (fun s=>s.2≤a.Next.length∧s.1=List.replicate s.2 (List.replicate b.Next.length false)++List.replicate (a.Next.length-s.2) []) (fun s=>a.Next.length-s.2) (fun s ⟨q1,q2⟩=>by
  obtain ⟨y,k⟩:=s
  simp only at q1 q2
  subst q2
  simp only [za8.s2]
  by_cases g:k<a.Next.length
  ·left
   refine ⟨(List.replicate (k+1) (List.replicate b.Next.length false)++List.replicate (a.Next.length-(k+1)) [],k+1),?_,⟨g,rfl⟩,by simp only;omega⟩
   have hk:(List.replicate k (List.replicate b.Next.length false)++List.replicate (a.Next.length-k) [])[k]?=some []:=by
    rw [List.getElem?_append_right (by simp),List.length_replicate,Nat.sub_self,List.getElem?_replicate,if_pos (by omega)]
   rw [List.length_replicate,zkB (by omega),zkD,zar ⟨by omega,by omega,by unfold zbh;omega⟩,zau hk,zar (by unfold inR;omega)]
   congr 4
   rw [List.set_append_right _ _ (by simp),List.length_replicate,Nat.sub_self,show a.Next.length-k=(a.Next.length-(k+1))+1 by omega,List.replicate_succ,List.set_cons_zero,List.replicate_succ' (n:=k)]
   simp
  ·right
   have:k=a.Next.length:=by omega
   subst this
   rw [List.length_replicate,zkA (by omega),zkC]
   simp) (n:=fuel) (s:=(List.replicate a.Next.length [],0)) ⟨Nat.zero_le _,by simp⟩ (by have:=zbg;simp only;omega)
 obtain ⟨row,r1,r2,r3⟩:=(seenG_nil a.Next.length b.Next.length).at_ _ _ h1 h2;have hS:=(seenG_nil a.Next.length b.Next.length).push h1 h2 r1;rw [zar ⟨by omega,by omega,by unfold zbh;omega⟩,grid,zao];simp only;rw [zcs rfl r1,zcs rfl r3,Int.toNat_natCast,Int.toNat_natCast]
 obtain ⟨r,hr,hq⟩:=zb1 (step:=fun (s:List (List Bool)×List zba×Nat)=>za8.s22 a b s.1 s.2.1 s.2.2) (fun s=>s.2.2≤(pB a b p0 (s.2.2*a.Inputs.toNat)).length∧s.2.1=(pB a b p0 (s.2.2*a.Inputs.toNat)).map plC∧SeenG a.Next.length b.Next.length s.1 ((pB a b p0 (s.2.2*a.Inputs.toNat)).map Prod.fst)∧∀ r,r<s.2.2*a.Inputs.toNat→difB a b p0 r=false) (fun s=>a.Next.length*b.Next.length+1-s.2.2) (fun r=>(r=.inl ()∧Fst a b p0 ([],false))∨∃ res,r=.inr res∧Fst a b p0 res) (fun s ⟨q1,q2,q3,q4⟩=>by
  obtain ⟨y,l,i⟩:=s
  simp only at q1 q2 q3 q4
  subst q2
  simp only [za8.s22]
  have hlen:=pB_len T h1 h2 (i*a.Inputs.toNat)
  by_cases g:i<(pB a b p0 (i*a.Inputs.toNat)).length
  ·have hx:=get_at g
   generalize (pB a b p0 (i*a.Inputs.toNat))[i]=x at hx
   obtain ⟨r,z1,z2⟩:=search_row T h1 h2 (by omega) hx q3 q4
   rw [zkB (by rw [zkK];omega),zkD,zau (map_get hx),z1,zao]
   rcases z2 with ⟨y',rfl,z3,z4⟩ | ⟨res,rfl,z3⟩
   ·left
    have hmono:=(zkp (e:=pE a b) (K:=a.Inputs.toNat) (s0:=p0) (show i*a.Inputs.toNat≤(i+1)*a.Inputs.toNat by rw [Nat.succ_mul];omega)).length_le
    exact ⟨(y',(pB a b p0 ((i+1)*a.Inputs.toNat)).map plC,i+1),rfl,⟨by simp only;unfold pB at g ⊢;omega,rfl,z3,z4⟩,by simp only;omega⟩
   ·right
    exact ⟨.inr res,rfl,Or.inr ⟨res,rfl,z3⟩⟩
  ·right
   refine ⟨.inl (),by rw [zkA (by rw [zkK];omega),zkC],Or.inl ⟨rfl,Or.inr ⟨pB a b p0 (i*a.Inputs.toNat),⟨?_⟩,?_,rfl⟩⟩⟩
   ·rw [show (pB a b p0 (i*a.Inputs.toNat)).length=i by omega]
    rfl
   ·rw [show (pB a b p0 (i*a.Inputs.toNat)).length=i by omega]
    exact q4) fuel ((List.replicate a.Next.length (List.replicate b.Next.length false)).set p0.1 (row.set p0.2 true),[(⟨(⟨(↑p0.1:Int),(↑p0.2:Int)⟩:zc0),[]⟩:zba)],0) ⟨Nat.zero_le _,by simp only;rw [Nat.zero_mul];simp [pB,bfsB,plC],by
    simp only
    rw [Nat.zero_mul]
    exact hS,fun r hr=>by simp only at hr;omega⟩ (by have:=zbg;simp only;omega)
 rw [hr,zao];rcases hq with ⟨rfl,hq⟩ | ⟨res,rfl,hq⟩
 ·exact ⟨_,rfl,hq⟩
 ·exact ⟨_,rfl,hq⟩
end
end
section
set_option maxRecDepth 100000
section
variable {a b:zaa}
theorem fst_word (T:Two a b) {p0:Nat×Nat} (h1:p0.1<a.Next.length) (h2:p0.2<b.Next.length) {w:List Int} (h:Fst a b p0 (w,true)):WOk a.Inputs w∧w.length≤1048640∧∃ (v:List Int) (c:Nat),w=v++[(↑c:Int)]∧c<a.Inputs.toNat∧ot a (dest a p0.1 v) c≠ot b (dest b p0.2 v) c:=by
 rcases h with ⟨i,c,x,g1,g2,g3,g4,g5⟩ | ⟨L,_,_,g⟩
 ·injection g5 with g5 _
  have hr:=zpc T h1 h2 _ x (zkH g2);have hlen:=pB_len T h1 h2 (i*a.Inputs.toNat+c);have hi:=(zkI.1 g2).1;have:=big_sum (c:=c+1) (i:=i) (by omega) T.a1.n2 T.b1.n2 (K:=a.Inputs.toNat) (by have:=T.a1.i2;omega) (by have:=T.a1.i2;omega);refine ⟨?_,?_,x.2,c,g5,g1,by rw [hr.2.2.2.1,hr.2.2.2.2.1];exact g3⟩
  ·rw [g5];refine WOk.append hr.2.2.2.2.2 fun z hz=>?_;have:z=(↑c:Int):=by simpa using hz
   omega
  ·rw [g5];simp;omega
 ·injection g with _ g
  cases g
theorem znq {m:zaa} {v:List Int} {c:Nat} {s:Nat}:outs m s (v++[(↑c:Int)])=outs m s v++[ot m (dest m s v) c]:=by
 rw [zfz];show _++[ot m (dest m s v) (Int.toNat ↑c)]=_;rw [Int.toNat_natCast]
theorem fst_ne (T:Two a b) {p0:Nat×Nat} (h1:p0.1<a.Next.length) (h2:p0.2<b.Next.length) {w:List Int} (h:Fst a b p0 (w,true)):outs a p0.1 w≠outs b p0.2 w:=by
 obtain ⟨_,_,v,c,rfl,_,h3⟩:=fst_word T h1 h2 h;intro he;rw [znq,znq] at he;have:=List.append_inj_right' he rfl;injection this with this _
 exact h3 this
theorem fst_none {p0:Nat×Nat} {w0:List Int} (h:Fst a b p0 (w0,false)):∀ w,WOk a.Inputs w→outs a p0.1 w=outs b p0.2 w:=by
 rcases h with ⟨i,c,x,_,_,_,_,g⟩ | ⟨L,g1,g2,_⟩
 ·injection g with _ g
  cases g
 ·have key:∀ (w:List Int) (i:Nat) (x:(Nat×Nat)×List Int),L[i]?=some x→WOk a.Inputs w→outs a x.1.1 w=outs b x.1.2 w:=by
   intro w
   induction w with
   | nil=>intro _ _ _ _;rfl
   | cons z w ih =>
    intro i x hx hw;have hz:=hw.head;have hc:z.toNat<a.Inputs.toNat:=by omega
    have hi:=(zkI.1 hx).1;obtain ⟨x',e1,e2⟩:=g1.long hi hc;rw [hx] at e1;injection e1 with e1
    subst e1;have hd:=g2 (i*a.Inputs.toNat+z.toNat) (znv hi hc);rw [zqm hc e2] at hd
    have hot:ot a x.1.1 z.toNat=ot b x.1.2 z.toNat:=Classical.byContradiction fun q=>by
     rw [zkB q] at hd;cases hd
    obtain ⟨j,y,f1,f2,_⟩:=g1.closed hx hc;have:=ih j y f1 hw.tail;rw [f2] at this;show ot a x.1.1 z.toNat::outs a (nx a x.1.1 z.toNat) w=ot b x.1.2 z.toNat::outs b (nx b x.1.2 z.toNat) w;rw [hot];congr 1
  exact fun w hw=>key w 0 _ g1.first hw
end
end
section
set_option maxRecDepth 100000
structure Can (M:zaa):Prop where
 c4:∀ i a u,i<M.Next.length→a<M.Inputs.toNat→0<u→u≤nx M i a→∃ i' a',a'<M.Inputs.toNat∧i'*M.Inputs.toNat+a'≤i*M.Inputs.toNat+a∧i'<u∧nx M i' a'=u
 c5:∀ u,0<u→u<M.Next.length→∃ i a,i<u∧a<M.Inputs.toNat∧nx M i a=u
def Eqv (a:zaa) (s:Nat) (b:zaa) (t:Nat):Prop:=∀ w,WOk a.Inputs w→outs a s w=outs b t w
structure zrj (m M:zaa):Prop where
 ok:zdx M
 inp:M.Inputs=m.Inputs
 start:M.Start=0
 eqv:Eqv M 0 m m.Start.toNat
 min:∀ i j,i<M.Next.length→j<M.Next.length→Eqv M i M j→i=j
 can:Can M
theorem Eqv.step {a b:zaa} (hi:a.Inputs=b.Inputs) {s t c:Nat} (h:Eqv a s b t) (hc:c<a.Inputs.toNat):ot a s c=ot b t c∧Eqv a (nx a s c) b (nx b t c):=by
 have key:∀ w,WOk a.Inputs w→ot a s c::outs a (nx a s c) w=ot b t c::outs b (nx b t c) w:=fun w hw=>by
  have:=h ((↑c:Int)::w) (fun x hx=>by
   rcases List.mem_cons.1 hx with rfl | hx
   ·omega
   ·exact hw x hx)
  exact this
 have h0:=key [] (fun x hx=>by cases hx);injection h0 with h0 _
 refine ⟨h0,fun w hw=>?_⟩;have:=key w hw;injection this with _ this
theorem Eqv.symm {a b:zaa} (hi:a.Inputs=b.Inputs) {s t:Nat} (h:Eqv a s b t):Eqv b t a s:=fun w hw=>(h w (by rw [hi];exact hw)).symm
theorem Eqv.trans {a b c:zaa} (hi:a.Inputs=b.Inputs) {s t u:Nat} (h:Eqv a s b t) (g:Eqv b t c u):Eqv a s c u:=fun w hw=>(h w hw).trans (g w (by rw [← hi];exact hw))
theorem Eqv.refl (a:zaa) (s:Nat):Eqv a s a s:=fun _ _=>rfl
theorem Eqv.dest {a b:zaa} (hi:a.Inputs=b.Inputs) {s t:Nat} (h:Eqv a s b t) {w:List Int} (hw:WOk a.Inputs w):Eqv a (dest a s w) b (dest b t w):=fun v hv=>by
 have:=h (w++v) (hw.append hv);rw [zfz,zfz] at this;exact List.append_inj_right this (by rw [zfg,zfg])
section
variable {M M':zaa}
end
structure Shape {A:Type} [DecidableEq A] (e:A→Nat→A) (o:A→Nat→Int) (L:List (A×List Int)) (M:zaa):Prop where
 len:M.Next.length=L.length
 row:∀ i x a,L[i]?=some x→a<M.Inputs.toNat→∃ y,L[nx M i a]?=some y∧y.1=e x.1 a∧ot M i a=o x.1 a
theorem nodup_at {A:Type} {l:List A} (h:l.Nodup) {i j:Nat} {x:A} (hi:l[i]?=some x) (hj:l[j]?=some x):i=j:=by
 have h1:=(zkI.1 hi);have h2:=(zkI.1 hj);obtain ⟨a1,a2⟩:=h1;obtain ⟨b1,b2⟩:=h2;rcases Nat.lt_trichotomy i j with q | q | q
 ·exact absurd (a2.trans b2.symm) (List.pairwise_iff_getElem.1 h i j a1 b1 q)
 ·exact q
 ·exact absurd (b2.trans a2.symm) (List.pairwise_iff_getElem.1 h j i b1 a1 q)
theorem shape_can {A:Type} [DecidableEq A] {e:A→Nat→A} {o:A→Nat→Int} {s0:A} {L:List (A×List Int)} {M:zaa} (hE:zfj e M.Inputs.toNat s0 L) (S:Shape e o L M) (hK:0<M.Inputs.toNat):Can M:=by
 have at_:∀ i a x y j,L[i]?=some x→a<M.Inputs.toNat→L[j]?=some y→y.1=e x.1 a→nx M i a=j:=fun i a x y j hx ha hj he=>by
  obtain ⟨y',h1,h2,_⟩:=S.row i x a hx ha;exact nodup_at hE.nodup (x:=e x.1 a) (by rw [List.getElem?_map,h1,← h2];rfl) (by rw [List.getElem?_map,hj,← he];rfl)
 refine ⟨fun i a u hi ha hu hle=>?_,fun u hu hlt=>?_⟩
 ·have hx:=get_at (l:=L) (i:=i) (by rw [← S.len];exact hi);obtain ⟨j,y,h1,h2,h3⟩:=hE.closed hx ha;rw [at_ i a _ y j hx ha h1 h2] at hle;obtain ⟨i',a',z,w,g1,g2,g3,g4,g5,g6⟩:=h3 u hu hle;exact ⟨i',a',g1,g2,g3,at_ i' a' z w u g4 g1 g5 g6⟩
 ·have hx:=get_at (l:=L) (i:=u) (by rw [← S.len];exact hlt);rcases hE.from hK hx with q | ⟨i,a,y,g1,g2,g3,g4⟩
  ·omega
  ·exact ⟨i,a,g1,g2,at_ i a y _ u g3 g2 hx (by rw [g4])⟩
end
section
set_option maxRecDepth 100000
section
variable {m:zaa}
theorem libclone_w {w:List Int} (h:w.length≤1000000):zbt w=some w:=zce (by unfold SmW;omega)
structure TrimOk (m t:zaa) (L:List (Nat×List Int)):Prop where
 end_:MEnd m m.Start.toNat L
 inp:t.Inputs=m.Inputs
 start:t.Start=0
 ok:zdx t
 shape:Shape (nx m) (ot m) L t
theorem zp4 (H:zdx m) {s0:Nat} {L:List (Nat×List Int)} (hs:s0<m.Next.length) (hE:MEnd m s0 L):L.length≤m.Next.length∧∀ x∈L,x.1<m.Next.length∧dest m s0 x.2=x.1∧WOk m.Inputs x.2:=by
 refine ⟨?_,fun x hx=>?_⟩
 ·rw [hE.eq];exact zt3 H hs _
 ·rw [hE.eq] at hx;have:=zn0 H hs _ x hx;exact ⟨this.1,this.2.2⟩
theorem mealy_Trim_eq (hv:zch m=0):∃ t L,zbn m=some (t,0)∧TrimOk m t L:=by
 have H:=zd0 hv;have hst:=H.st;have hn:=H.n2;have hI:=H.i2;have hI1:=H.i1;have hs:m.Start.toNat<m.Next.length:=by omega
 obtain ⟨L,hE,hR⟩:=zl7 hv;obtain ⟨hLn,hLr⟩:=zp4 H hs hE;have hnd:=hE.nodup;unfold zbn;rw [zbv,zao,hv,zkA (by decide),zkC,hR,zao,zar ⟨by omega,by omega,by unfold zbh;omega⟩]
 -- the numbers
 obtain ⟨num,hnum,hnl,hna⟩:=zb1 (step:=fun (s:List Int×Nat)=>zbn.s2 (natI (L.map Prod.fst)) s.1 s.2) (fun s=>s.2≤L.length∧s.1.length=m.Next.length∧∀ (j:Nat) (x:Nat×List Int),j<s.2→L[j]?=some x→s.1[x.1]?=some (↑j:Int)) (fun s=>L.length-s.2) (fun r=>r.length=m.Next.length∧∀ (j:Nat) (x:Nat×List Int),L[j]?=some x→r[x.1]?=some (↑j:Int)) (fun s ⟨q1,q2,q3⟩=>by
  obtain ⟨y,i⟩:=s
  simp only at q1 q2 q3
  simp only [zbn.s2]
  by_cases g:i<L.length
  ·left
   have hx:=get_at g
   generalize L[i]=x at hx
   have hxr:=(hLr x (zkH hx)).1
   have hy:=get_at (l:=y) (i:=x.1) (by omega)
   refine ⟨(y.set x.1 (↑i:Int),i+1),?_,⟨g,by simp [q2],fun j z hj hz=>?_⟩,by simp only;omega⟩
   ·rw [zkB (by rw [zg5,zkK];omega),zkD,zau (natI_at (i:=i) (u:=x.1) (by rw [List.getElem?_map,hx];rfl)),zcs rfl hy,Int.toNat_natCast]
   ·simp only
    by_cases e:x.1=z.1
    ·have:i=j:=nodup_at hnd (x:=x.1) (by rw [List.getElem?_map,hx];rfl) (by rw [List.getElem?_map,hz,e];rfl)
     subst this
     rw [← e,List.getElem?_set_self (by omega)]
    ·rw [List.getElem?_set_ne e]
     rcases Nat.lt_or_ge j i with h | h
     ·exact q3 j z h hz
     ·have:j=i:=by simp only at hj;omega
      subst this
      rw [hx] at hz
      injection hz with hz
      rw [hz] at e
      exact absurd rfl e
  ·right
   exact ⟨y,by rw [zkA (by rw [zg5,zkK];omega),zkC],q2,fun j x hx=>q3 j x (by have:=(zkI.1 hx).1;omega) hx⟩) fuel (List.replicate m.Next.length 0,0) ⟨Nat.zero_le _,by simp,fun j x h=>absurd h (Nat.not_lt_zero _)⟩ (by have:=zbg;simp only;omega)
 rw [hnum,zao]
 -- one row
 have row1:∀ (x:Nat×List Int) (row:List Int),x∈L→m.Next[x.1]?=some row→∃ r,iter (fun (s:List Int×Nat)=>zbn.s15 num row s.1 s.2) fuel (List.replicate (Int.toNat m.Inputs) 0,0)=some r∧r.length=m.Inputs.toNat∧∀ a,a<m.Inputs.toNat→∃ (j:Nat) (y:Nat×List Int),L[j]?=some y∧y.1=nx m x.1 a∧r[a]?=some (↑j:Int):=by
  intro x row hx hrow;have hxr:=(hLr x hx).1
  have hrl:row.length=m.Inputs.toNat:=by
   obtain ⟨x',y',h1,_,h3,_⟩:=H.row x.1 hxr;rw [hrow] at h1;injection h1 with h1
   subst h1;omega
  obtain ⟨i,hi⟩:=List.mem_iff_getElem?.1 hx
  exact zb1 (step:=fun (s:List Int×Nat)=>zbn.s15 num row s.1 s.2) (fun s=>s.2≤m.Inputs.toNat∧s.1.length=m.Inputs.toNat∧∀ a,a<s.2→∃ (j:Nat) (y:Nat×List Int),L[j]?=some y∧y.1=nx m x.1 a∧s.1[a]?=some (↑j:Int)) (fun s=>m.Inputs.toNat-s.2) (fun r=>r.length=m.Inputs.toNat∧∀ a,a<m.Inputs.toNat→∃ (j:Nat) (y:Nat×List Int),L[j]?=some y∧y.1=nx m x.1 a∧r[a]?=some (↑j:Int)) (fun s ⟨q1,q2,q3⟩=>by
   obtain ⟨y,a⟩:=s
   simp only at q1 q2 q3
   simp only [zbn.s15]
   by_cases g:a<m.Inputs.toNat
   ·left
    obtain ⟨h1,_,_,x',y',h2,_,h4,_⟩:=H.at hxr g
    rw [hrow] at h2
    injection h2 with h2
    subst h2
    obtain ⟨j,z,z1,z2,_⟩:=hE.closed hi g
    have hy:=get_at (l:=y) (i:=a) (by omega)
    have hnz:=hna j z z1
    rw [z2] at hnz
    refine ⟨(y.set a (↑j:Int),a+1),?_,⟨g,by simp [q2],fun b hb=>?_⟩,by simp only;omega⟩
    ·rw [zkB (by omega),zkD,zau h4,zcs rfl hnz,zau hy]
    ·simp only
     by_cases e:a=b
     ·subst e
      exact ⟨j,z,z1,z2,by rw [List.getElem?_set_self (by omega)]⟩
     ·obtain ⟨j',z',w1,w2,w3⟩:=q3 b (by simp only at hb;omega)
      exact ⟨j',z',w1,w2,by rw [List.getElem?_set_ne e,w3]⟩
   ·right
    have:a=m.Inputs.toNat:=by omega
    subst this
    exact ⟨y,by rw [zkA (by omega),zkC],q2,q3⟩) fuel (List.replicate (Int.toNat m.Inputs) 0,0) ⟨Nat.zero_le _,by simp,fun a h=>absurd h (Nat.not_lt_zero _)⟩ (by have:=zbg;simp only;omega)
 -- all rows
 obtain ⟨r,hr,P,Q,rfl,p1,p2,p3⟩:=zb1 (step:=fun (s:List (List Int)×List (List Int)×Nat)=>zbn.s16 m (natI (L.map Prod.fst)) num s.1 s.2.1 s.2.2) (fun s=>s.2.2≤L.length∧s.1.length=s.2.2∧s.2.1.length=s.2.2∧∀ (i:Nat) (x:Nat×List Int),i<s.2.2→L[i]?=some x→(∃ r,s.1[i]?=some r∧r.length=m.Inputs.toNat∧∀ a,a<m.Inputs.toNat→∃ (j:Nat) (y:Nat×List Int),L[j]?=some y∧y.1=nx m x.1 a∧r[a]?=some (↑j:Int))∧s.2.1[i]?=m.Out[x.1]?) (fun s=>L.length-s.2.2) (fun r=>∃ P Q,r=(P,Q)∧P.length=L.length∧Q.length=L.length∧∀ (i:Nat) (x:Nat×List Int),L[i]?=some x→(∃ r,P[i]?=some r∧r.length=m.Inputs.toNat∧∀ a,a<m.Inputs.toNat→∃ (j:Nat) (y:Nat×List Int),L[j]?=some y∧y.1=nx m x.1 a∧r[a]?=some (↑j:Int))∧Q[i]?=m.Out[x.1]?) (fun s ⟨q1,q2,q3,q4⟩=>by
  obtain ⟨P,Q,i⟩:=s
  simp only at q1 q2 q3 q4
  simp only [zbn.s16]
  by_cases g:i<L.length
  ·left
   have hx:=get_at g
   generalize L[i]=x at hx
   have hxm:=zkH hx
   have hxr:=(hLr x hxm).1
   obtain ⟨row,out,e1,e2,e3,e4,_⟩:=H.row x.1 hxr
   obtain ⟨r,f1,f2,f3⟩:=row1 x row hxm e1
   refine ⟨(P++[r],Q++[out],i+1),?_,⟨g,by simp [q2],by simp [q3],fun j z hj hz=>?_⟩,by simp only;omega⟩
   ·rw [zkB (by rw [zg5,zkK];omega),zkD,zau (natI_at (i:=i) (u:=x.1) (by rw [List.getElem?_map,hx];rfl)),zar ⟨by omega,by omega,by unfold zbh;omega⟩,zcs rfl e1,f1,zao,zar (by unfold zbh;omega),zcs rfl e2,libclone_w (by omega),zao,zar (by unfold zbh;omega)]
   ·simp only
    rcases Nat.lt_or_ge j i with h | h
    ·obtain ⟨⟨r',w1,w2⟩,w3⟩:=q4 j z h hz
     exact ⟨⟨r',by rw [List.getElem?_append_left (by omega),w1],w2⟩,by rw [List.getElem?_append_left (by omega),w3]⟩
    ·have:j=i:=by simp only at hj;omega
     subst this
     rw [hx] at hz
     injection hz with hz
     subst hz
     refine ⟨⟨r,?_,f2,f3⟩,?_⟩
     ·rw [List.getElem?_append_right (by omega),q2,Nat.sub_self]
      rfl
     ·rw [List.getElem?_append_right (by omega),q3,Nat.sub_self,e2]
      rfl
  ·right
   have:i=L.length:=by omega
   subst this
   exact ⟨_,by rw [zkA (by rw [zg5,zkK];omega),zkC],P,Q,rfl,q2,q3,fun j x hx=>q4 j x (zkI.1 hx).1 hx⟩) fuel ([],[],0) ⟨Nat.zero_le _,rfl,rfl,fun i x h=>absurd h (Nat.not_lt_zero _)⟩ (by have:=zbg;simp only;omega)
 rw [hr,zao];have hL0:0<L.length:=(zkI.1 hE.first).1
 have hsh:∀ i x a,L[i]?=some x→a<m.Inputs.toNat→∃ (j:Nat) (y:Nat×List Int),L[j]?=some y∧y.1=nx m x.1 a∧nx (⟨m.Inputs,0,P,Q⟩:zaa) i a=j∧ot (⟨m.Inputs,0,P,Q⟩:zaa) i a=ot m x.1 a:=fun i x a hx ha=>by
  obtain ⟨⟨r,w1,w2,w3⟩,w4⟩:=p3 i x hx;obtain ⟨j,y,z1,z2,z3⟩:=w3 a ha;refine ⟨j,y,z1,z2,?_,?_⟩
  ·unfold nx;simp only;rw [w1,Option.getD_some,z3,Option.getD_some,Int.toNat_natCast]
  ·unfold ot;simp only;rw [w4]
 refine ⟨⟨m.Inputs,0,P,Q⟩,L,rfl,hE,rfl,rfl,⟨hI1,hI,by simp only;omega,by simp only;omega,⟨Int.le_refl 0,by simp only;omega⟩,by simp only;omega,fun i hi=>?_⟩,⟨p1,fun i x a hx ha=>?_⟩⟩
 ·simp only at hi ⊢;have hx:=get_at (l:=L) (i:=i) (by omega);obtain ⟨⟨r,w1,w2,w3⟩,w4⟩:=p3 i _ hx;obtain ⟨row,out,e1,e2,e3,e4,e5,e6⟩:=H.row L[i].1 (hLr _ (zkH hx)).1;refine ⟨r,out,w1,by rw [w4,e2],by omega,e4,fun u hu=>?_,e6⟩;obtain ⟨a,ha,rfl⟩:=List.mem_iff_getElem.1 hu;obtain ⟨j,y,z1,z2,z3⟩:=w3 a (by omega);rw [get_at ha] at z3;injection z3 with z3
  have:=(zkI.1 z1).1;omega
 ·obtain ⟨j,y,z1,z2,z3,z4⟩:=hsh i x a hx ha;exact ⟨y,by rw [z3];exact z1,z2,z4⟩
theorem trim_outs {t:zaa} {L:List (Nat×List Int)} (T:TrimOk m t L):∀ (w:List Int) (i:Nat) (x:Nat×List Int),L[i]?=some x→WOk m.Inputs w→outs t i w=outs m x.1 w
 | [],_,_,_,_=>rfl
 | z::w,i,x,hx,hw=>by
  have hz:=hw.head;obtain ⟨y,h1,h2,h3⟩:=T.shape.row i x z.toNat hx (by rw [T.inp];omega);have:=trim_outs T w _ y h1 hw.tail;show ot t i z.toNat::outs t (nx t i z.toNat) w=ot m x.1 z.toNat::outs m (nx m x.1 z.toNat) w;rw [h3,this,h2]
end
end
section
set_option maxRecDepth 100000
section
variable {κ ν:Type} [BEq κ]
theorem mset_new {k:κ} {v:ν}:∀ {m:List (κ×ν)},mget k m=none→mset k v m=m++[(k,v)]
 | [],_=>rfl
 | p::m,h=>by
  unfold mget at h;unfold mset;cases e:k==p.1 with
  | true=>rw [e] at h;cases h
  | false =>
   rw [e] at h;show p::mset k v m=_;rw [mset_new h];rfl
end
theorem li_beq (a b:List Int):(a==b)=true↔a=b:=beq_iff_eq
section
variable {m:zaa} {c:List Int}
def sigV (m:zaa) (c:List Int) (s a p:Nat):Int:=if p<a then ot m s p else if 64≤p∧p-64<a then (c[nx m s (p-64)]?).getD 0 else 0
def sigA (m:zaa) (c:List Int) (s:Nat):List Int:=(List.range 128).map (sigV m c s m.Inputs.toNat)
theorem sigA_at (s:Nat) {p:Nat} (hp:p<128):(sigA m c s)[p]?=some (sigV m c s m.Inputs.toNat p):=by
 unfold sigA;rw [List.getElem?_map,List.getElem?_range hp];rfl
theorem sigA_len (s:Nat):(sigA m c s).length=128:=by simp [sigA]
theorem sigV_lo {s a K:Nat} (h:a<K):sigV m c s K a=ot m s a:=if_pos h
theorem sigV_hi {s a K:Nat} (h:a<K) (hK:K≤64):sigV m c s K (64+a)=(c[nx m s a]?).getD 0:=by
 unfold sigV;have h1:¬ 64+a<K:=by omega
 have h2:64≤64+a∧64+a-64<K:=by omega
 have h3:64+a-64=a:=by omega
 rw [if_neg h1,if_pos h2,h3]
theorem sigA_eq (hI:m.Inputs≤64) {s t:Nat}:sigA m c s=sigA m c t↔∀ a,a<m.Inputs.toNat→ot m s a=ot m t a∧(c[nx m s a]?).getD 0=(c[nx m t a]?).getD 0:=by
 constructor
 ·intro h a ha;have h1:=sigA_at (m:=m) (c:=c) s (p:=a) (by omega);rw [h,sigA_at t (by omega)] at h1;injection h1 with h1
  rw [sigV_lo ha,sigV_lo ha] at h1;have h2:=sigA_at (m:=m) (c:=c) s (p:=64+a) (by omega);rw [h,sigA_at t (by omega)] at h2;injection h2 with h2
  rw [sigV_hi ha (by omega),sigV_hi ha (by omega)] at h2;exact ⟨h1.symm,h2.symm⟩
 ·intro h;unfold sigA;refine List.map_congr_left fun p _=>?_;unfold sigV;by_cases h1:p<m.Inputs.toNat
  ·rw [if_pos h1,if_pos h1,(h p h1).1]
  ·rw [if_neg h1,if_neg h1];by_cases h2:64≤p∧p-64<m.Inputs.toNat
   ·rw [if_pos h2,if_pos h2,(h _ h2.2).2]
   ·rw [if_neg h2,if_neg h2]
theorem sig_loop (H:zdx m) (hc:c.length=m.Next.length) {s:Nat} (hs:s<m.Next.length):iter (fun (q:List Int×Nat)=>za6.s18 m c s q.1 q.2) fuel (List.replicate 128 0,0)=some (sigA m c s):=by
 have hI:=H.i2;refine zgs (fun q=>q.2≤m.Inputs.toNat∧q.1=(List.range 128).map (sigV m c s q.2)) (fun q=>m.Inputs.toNat-q.2) (fun q hq=>?_) ⟨Nat.zero_le _,?_⟩ (by have:=zbg;simp only;omega)
 ·obtain ⟨y,a⟩:=q;obtain ⟨q1,q2⟩:=hq;simp only at q1 q2;rw [q2];simp only [za6.s18];by_cases g:a<m.Inputs.toNat
  ·left;obtain ⟨h1,_,_,x,o,e1,e2,e3,e4⟩:=H.at hs g;have hcx:=get_at (l:=c) (i:=nx m s a) (by omega)
   have hr:∀ p,p<128→((List.range 128).map (sigV m c s a))[p]?=some (sigV m c s a p):=fun p hp=>by
    rw [List.getElem?_map,List.getElem?_range hp];rfl
   refine ⟨((List.range 128).map (sigV m c s (a+1)),a+1),?_,⟨g,rfl⟩,by simp only;omega⟩;rw [zkB (by omega),zkD,zau e2,zau e4,zar (by omega),zau (hr a (by omega)),zar (by unfold inR;omega),zau e1,zau e3,zcs rfl hcx,zar (by omega),zau (x:=sigV m c s a (64+a)) (by rw [List.getElem?_set_ne (by omega),hr _ (by omega)]),zar (by unfold inR;omega)];congr 4;refine List.ext_getElem? fun p=>?_;rcases Nat.lt_or_ge p 128 with hp | hp
   ·rw [List.getElem?_map (f:=sigV m c s (a+1)),List.getElem?_range hp,Option.map_some];by_cases p1:64+a=p
    ·subst p1;rw [List.getElem?_set_self (by simp;omega)];congr 1;unfold sigV;rw [if_neg (by omega),if_pos (by omega),show 64+a-64=a by omega,hcx,Option.getD_some]
    ·rw [List.getElem?_set_ne p1];by_cases p2:a=p
     ·subst p2;rw [List.getElem?_set_self (by simp;omega)];congr 1;unfold sigV;rw [if_pos (by omega)]
     ·rw [List.getElem?_set_ne p2,hr p hp];congr 1;unfold sigV;by_cases p3:p<a
      ·rw [if_pos p3,if_pos (by omega)]
      ·have p5:¬ p<a+1:=by omega
       rw [if_neg p3,if_neg p5];by_cases p4:64≤p∧p-64<a
       ·have p6:64≤p∧p-64<a+1:=by omega
        rw [if_pos p4,if_pos p6]
       ·have p6:¬ (64≤p∧p-64<a+1):=by omega
        rw [if_neg p4,if_neg p6]
   ·rw [List.getElem?_eq_none (by simp;omega),List.getElem?_eq_none (by simp;omega)]
  ·right;have:a=m.Inputs.toNat:=by omega
   subst this;rw [zkA (by omega),zkC];rfl
 ·simp only;refine List.ext_getElem? fun p=>?_;rcases Nat.lt_or_ge p 128 with hp | hp
  ·rw [List.getElem?_replicate,if_pos hp,List.getElem?_map,List.getElem?_range hp,Option.map_some];unfold sigV;rw [if_neg (by omega),if_neg (by omega)]
  ·rw [List.getElem?_eq_none (by simp;omega),List.getElem?_eq_none (by simp;omega)]
def FirstOcc (o:List Int):Prop:=∀ (s x:Nat),o[s]?=some (↑x:Int)→∀ u:Nat,u<x→∃ s',s'<s∧o[s']?=some (↑u:Int)
structure ClsF (m:zaa) (k:Nat) (c:List Int):Prop where
 cls:ClsOk m k c
 first:FirstOcc c
theorem E_of_next (H:zdx m):∀ {k s t:Nat},s<m.Next.length→t<m.Next.length→(∀ a,a<m.Inputs.toNat→ot m s a=ot m t a∧E m k (nx m s a) (nx m t a))→E m (k+1) s t
 | 0,_,_,_,_,h=>⟨trivial,h⟩
 | _+1,_,_,hs,ht,h=>⟨E_of_next H hs ht fun a ha=>⟨(h a ha).1,(h a ha).2.1⟩,h⟩
theorem sig_iff (H:zdx m) {k:Nat} (C:ClsOk m k c) {s t:Nat} (hs:s<m.Next.length) (ht:t<m.Next.length):sigA m c s=sigA m c t↔E m (k+1) s t:=by
 rw [sigA_eq H.i2]
 have hq:∀ a,a<m.Inputs.toNat→((c[nx m s a]?).getD 0=(c[nx m t a]?).getD 0↔E m k (nx m s a) (nx m t a)):=fun a ha=>by
  have h1:=(H.at hs ha).1;have h2:=(H.at ht ha).1;rw [← C.cls _ _ h1 h2];obtain ⟨x,x1,_⟩:=C.rng _ h1;obtain ⟨y,y1,_⟩:=C.rng _ h2;rw [x1,y1,Option.getD_some,Option.getD_some];exact ⟨fun h=>by rw [h],fun h=>by injection h⟩
 constructor
 ·exact fun h=>E_of_next H hs ht fun a ha=>⟨(h a ha).1,(hq a ha).1 (h a ha).2⟩
 ·exact fun h a ha=>⟨(h.2 a ha).1,(hq a ha).2 (h.2 a ha).2⟩
structure Giv (m:zaa) (c:List Int) (mp:List (List Int×Int)) (o:List Int) (s:Nat):Prop where
 len:o.length=m.Next.length
 keys:∀ p∈mp,p.1.length=128
 le:mp.length≤s
 get:∀ s',s'<s→∃ x:Nat,x<mp.length∧o[s']?=some (↑x:Int)∧mget (sigA m c s') mp=some (↑x:Int)
 org:∀ k v,mget k mp=some v→∃ s',s'<s∧sigA m c s'=k
 inj:∀ s' s'',s'<s→s''<s→o[s']?=o[s'']?→sigA m c s'=sigA m c s''
 first:∀ (s' x:Nat),s'<s→o[s']?=some (↑x:Int)→∀ u:Nat,u<x→∃ s'',s''<s'∧o[s'']?=some (↑u:Int)
 all:∀ u:Nat,u<mp.length→∃ s',s'<s∧o[s']?=some (↑u:Int)
open Classical in
theorem zpz (H:zdx m) {k:Nat} (C:ClsOk m k c):∃ (c':List Int) (n:Nat),za6 m c=some (c',(↑n:Int))∧ClsF m (k+1) c'∧n=nreps m (k+1):=by
 have hn:=H.n2;have hc:=C.len;unfold za6;rw [zar ⟨by omega,by omega,by unfold zbh;omega⟩]
 obtain ⟨r,hr,mp,o,rfl,G,hcnt⟩:=zb1 (step:=fun (s:(List (List Int×Int))×List Int×Nat)=>za6.s20 m c s.1 s.2.1 s.2.2) (fun s=>s.2.2≤m.Next.length∧Giv m c s.1 s.2.1 s.2.2∧s.1.length=(List.range s.2.2).countP fun s=>decide (Rep m (k+1) s)) (fun s=>m.Next.length-s.2.2) (fun r=>∃ mp o,r=(mp,o)∧Giv m c mp o m.Next.length∧mp.length=nreps m (k+1)) (fun s ⟨q1,G,q3⟩=>by
  obtain ⟨mp,o,s⟩:=s
  simp only at q1 G q3
  simp only [za6.s20]
  by_cases g:s<m.Next.length
  ·left
   have hlen:=sigA_len (m:=m) (c:=c) s
   have hmle:=G.le
   have ho:=get_at (l:=o) (i:=s) (by rw [G.len];exact g)
   rw [zkB (by omega),zkD,sig_loop H hc g,zao,zar hlen,zar ⟨hlen,G.keys⟩]
   have hrep:(mget (sigA m c s) mp=none)↔Rep m (k+1) s:=by
    constructor
    ·intro h t ht hE
     obtain ⟨x,_,_,x3⟩:=G.get t ht
     rw [← (sig_iff H C g (by omega)).2 hE,h] at x3
     cases x3
    ·intro h
     cases e:mget (sigA m c s) mp with
     | none=>rfl
     | some v =>
      obtain ⟨s',h1,h2⟩:=G.org _ _ e
      exact absurd ((sig_iff H C g (by omega)).1 h2.symm) (h s' h1)
   have hcount:(List.range (s+1)).countP (fun s=>decide (Rep m (k+1) s))=(List.range s).countP (fun s=>decide (Rep m (k+1) s))+if Rep m (k+1) s then 1 else 0:=by
    rw [List.range_succ,List.countP_append]
    congr 1
    by_cases h:Rep m (k+1) s
    ·rw [if_pos h,List.countP_singleton,zkB h]
     rfl
    ·rw [if_neg h,List.countP_singleton,zkA h]
     rfl
   have setlt:∀ {s':Nat} {v:Int},s'<s→(o.set s v)[s']?=o[s']?:=fun h=>List.getElem?_set_ne (by omega)
   have setat:∀ {v:Int},(o.set s v)[s]?=some v:=List.getElem?_set_self (by rw [G.len];exact g)
   cases e:mget (sigA m c s) mp with
   | none =>
    have hR:=hrep.1 e
    have hms:mset (sigA m c s) (↑mp.length:Int) mp=mp++[(sigA m c s,(↑mp.length:Int))]:=mset_new e
    refine ⟨(mset (sigA m c s) (↑mp.length:Int) mp,o.set s (↑mp.length:Int),s+1),?_,⟨g,?_,?_⟩,by simp only;omega⟩
    ·rw [Option.isSome_none,Bool.not_false,zkD,zar hlen,zar ⟨hlen,G.keys⟩,zao]
     simp only [za6.k19]
     rw [zau ho]
    ·simp only
     refine ⟨by simp [G.len],?_,by rw [hms];simp;omega,?_,?_,?_,?_,?_⟩
     ·intro p hp
      rw [hms] at hp
      rcases List.mem_append.1 hp with h | h
      ·exact G.keys p h
      ·have:p=(sigA m c s,(↑mp.length:Int)):=by simpa using h
       rw [this]
       exact hlen
     ·intro s' hs'
      by_cases h:s'<s
      ·obtain ⟨x,x1,x2,x3⟩:=G.get s' h
       refine ⟨x,by rw [hms];simp;omega,by rw [setlt h,x2],?_⟩
       rw [zik li_beq (fun q=>?_),x3]
       rw [q,e] at x3
       cases x3
      ·have:s'=s:=by omega
       subst this
       exact ⟨mp.length,by rw [hms];simp,setat,zg8 li_beq mp⟩
     ·intro kk v hv
      by_cases h:kk=sigA m c s
      ·exact ⟨s,by omega,h.symm⟩
      ·rw [zik li_beq h] at hv
       obtain ⟨s',h1,h2⟩:=G.org _ _ hv
       exact ⟨s',by omega,h2⟩
     ·have fresh:∀ s',s'<s→o[s']?≠some (↑mp.length:Int):=fun s' h q=>by
       obtain ⟨x,x1,x2,_⟩:=G.get s' h
       rw [x2] at q
       injection q with q
       omega
      intro s' s'' h1 h2 h3
      by_cases a1:s'<s<;>by_cases a2:s''<s
      ·rw [setlt a1,setlt a2] at h3
       exact G.inj _ _ a1 a2 h3
      ·have:s''=s:=by omega
       subst this
       rw [setlt a1,setat] at h3
       exact absurd h3 (fresh s' a1)
      ·have:s'=s:=by omega
       subst this
       rw [setlt a2,setat] at h3
       exact absurd h3.symm (fresh s'' a2)
      ·have:s'=s'':=by omega
       rw [this]
     ·intro s' x h1 h2 u hu
      by_cases a1:s'<s
      ·rw [setlt a1] at h2
       obtain ⟨s'',z1,z2⟩:=G.first s' x a1 h2 u hu
       exact ⟨s'',z1,by rw [setlt (by omega),z2]⟩
      ·have:s'=s:=by omega
       subst this
       rw [setat] at h2
       injection h2 with h2
       obtain ⟨s'',z1,z2⟩:=G.all u (by omega)
       exact ⟨s'',z1,by rw [setlt z1,z2]⟩
     ·intro u hu
      rw [hms] at hu
      simp at hu
      rcases Nat.lt_or_ge u mp.length with h | h
      ·obtain ⟨s',z1,z2⟩:=G.all u h
       exact ⟨s',by omega,by rw [setlt z1,z2]⟩
      ·have:u=mp.length:=by omega
       subst this
       exact ⟨s,by omega,setat⟩
    ·simp only
     rw [hcount,if_pos hR,hms,← q3]
     simp
   | some v =>
    have hR:¬ Rep m (k+1) s:=fun q=>by
     rw [hrep.2 q] at e
     cases e
    obtain ⟨t,ht,hts⟩:=G.org _ _ e
    obtain ⟨x,x1,x2,x3⟩:=G.get t ht
    have hv:v=(↑x:Int):=by
     rw [hts,e] at x3
     injection x3
    refine ⟨(mp,o.set s v,s+1),?_,⟨g,?_,?_⟩,by simp only;omega⟩
    ·rw [Option.isSome_some,Bool.not_true,zkC,Option.getD_some,zao]
     simp only [za6.k19]
     rw [zau ho]
    ·simp only
     refine ⟨by simp [G.len],G.keys,by omega,?_,?_,?_,?_,?_⟩
     ·intro s' hs'
      by_cases h:s'<s
      ·obtain ⟨x,y1,y2,y3⟩:=G.get s' h
       exact ⟨x,y1,by rw [setlt h,y2],y3⟩
      ·have:s'=s:=by omega
       subst this
       exact ⟨x,x1,by rw [setat,hv],by rw [e,hv]⟩
     ·intro kk v hv
      obtain ⟨s',h1,h2⟩:=G.org _ _ hv
      exact ⟨s',by omega,h2⟩
     ·intro s' s'' h1 h2 h3
      by_cases a1:s'<s<;>by_cases a2:s''<s
      ·rw [setlt a1,setlt a2] at h3
       exact G.inj _ _ a1 a2 h3
      ·have:s''=s:=by omega
       subst this
       rw [setlt a1,setat,hv,← x2] at h3
       rw [← hts]
       exact G.inj _ _ a1 ht h3
      ·have:s'=s:=by omega
       subst this
       rw [setlt a2,setat,hv,← x2] at h3
       rw [← hts]
       exact G.inj _ _ ht a2 h3
      ·have:s'=s'':=by omega
       rw [this]
     ·intro s' y h1 h2 u hu
      by_cases a1:s'<s
      ·rw [setlt a1] at h2
       obtain ⟨s'',z1,z2⟩:=G.first s' y a1 h2 u hu
       exact ⟨s'',z1,by rw [setlt (by omega),z2]⟩
      ·have:s'=s:=by omega
       subst this
       rw [setat] at h2
       injection h2 with h2
       obtain ⟨s'',z1,z2⟩:=G.first t x ht x2 u (by omega)
       exact ⟨s'',by omega,by rw [setlt (by omega),z2]⟩
     ·intro u hu
      obtain ⟨s',z1,z2⟩:=G.all u hu
      exact ⟨s',by omega,by rw [setlt z1,z2]⟩
    ·simp only
     rw [hcount,if_neg hR,← q3,Nat.add_zero]
  ·right
   have:s=m.Next.length:=by omega
   subst this
   exact ⟨_,by rw [zkA (by omega),zkC],mp,o,rfl,G,q3⟩) fuel ([],List.replicate c.length 0,0) ⟨Nat.zero_le _,⟨by simp [hc],fun p hp=>(by cases hp),Nat.le_refl _,fun s' h=>absurd h (Nat.not_lt_zero _),fun k v h=>(by cases h),fun s' _ h=>absurd h (Nat.not_lt_zero _),fun s' _ h=>absurd h (Nat.not_lt_zero _),fun u h=>absurd h (Nat.not_lt_zero _)⟩,rfl⟩ (by have:=zbg;simp only;omega)
 refine ⟨o,mp.length,by rw [hr,zao];rfl,⟨⟨G.len,fun s hs=>?_,fun s t hs ht=>?_⟩,fun s x hx=>G.first s x (by rw [← G.len];exact (zkI.1 hx).1) hx⟩,hcnt⟩
 ·obtain ⟨x,x1,x2,_⟩:=G.get s hs;have:=G.le;exact ⟨x,x2,by omega⟩
 ·rw [← sig_iff H C hs ht];constructor
  ·exact G.inj s t hs ht
  ·intro h;obtain ⟨x,_,x2,x3⟩:=G.get s hs;obtain ⟨y,_,y2,y3⟩:=G.get t ht;rw [h,y3] at x3;rw [x2,y2,x3]
open Classical in
theorem znd (H:zdx m):∃ c i,zcj m 128=some (c,i)∧ClsF m m.Next.length c:=by
 have hn:=H.n2;have hn1:=H.n1;have hmin:(min (max (128:Int) 0) (↑m.Next.length:Int))=(↑m.Next.length:Int):=by omega
 unfold zcj;rw [zar ⟨by omega,by omega,by unfold zbh;omega⟩]
 obtain ⟨r,hr,hq⟩:=zb1 (step:=fun (s:List Int×Int×Nat)=>zcj.s2 m 128 s.1 s.2.1 s.2.2) (fun s=>s.2.2≤m.Next.length∧ClsF m s.2.2 s.1∧s.2.1=(↑(nreps m s.2.2):Int)) (fun s=>m.Next.length-s.2.2) (fun r=>(∃ c,r=.inl c∧ClsF m m.Next.length c)∨∃ c i,r=.inr (c,i)∧ClsF m m.Next.length c) (fun s ⟨q1,q2,q3⟩=>by
  obtain ⟨c,n,i⟩:=s
  simp only at q1 q2 q3
  simp only [zcj.s2]
  rw [hmin]
  by_cases g:i<m.Next.length
  ·obtain ⟨c',n',h1,h2,h3⟩:=zpz H q2.cls
   rw [zkB (by omega),zkD,h1,zao]
   by_cases e:n'=nreps m i
   ·right
    rw [zkB (by simp only;omega),zkD]
    refine ⟨_,rfl,Or.inr ⟨c,_,rfl,⟨⟨q2.cls.len,q2.cls.rng,fun s t hs ht=>?_⟩,q2.first⟩⟩⟩
    rw [q2.cls.cls s t hs ht]
    have hS:Stab m i:=stab_of (by omega)
    constructor
    ·intro h
     have key:∀ j,E m (i+j) s t:=by
      intro j
      induction j with
      | zero=>exact h
      | succ j ih=>exact stab_add H hS j s t hs ht ih
     have:=key (m.Next.length-i)
     rwa [show i+(m.Next.length-i)=m.Next.length by omega] at this
    ·exact E_mono (by omega)
   ·left
    exact ⟨(c',(↑n':Int),i+1),by rw [zkA (by simp only;omega),zkC],⟨g,h2,by simp only;rw [h3]⟩,by simp only;omega⟩
  ·right
   have:i=m.Next.length:=by omega
   subst this
   exact ⟨_,by rw [zkA (by omega),zkC],Or.inl ⟨c,rfl,q2⟩⟩) fuel (List.replicate m.Next.length 0,1,0) ⟨Nat.zero_le _,⟨⟨by simp,fun s hs=>⟨0,by simp [hs],hn1⟩,fun s t hs ht=>⟨fun _=>trivial,fun _=>by simp [hs,ht]⟩⟩,fun s x hx u hu=>by
    have:=(zkI.1 hx).2
    simp at this
    omega⟩,by
    simp only
    have:nreps m 0=1:=by
     unfold nreps
     have h0:∀ n,0<n→(List.range n).countP (fun s=>decide (Rep m 0 s))=1:=by
      intro n
      induction n with
      | zero=>intro h;omega
      | succ n ih =>
       intro _
       rw [List.range_succ,List.countP_append,List.countP_singleton]
       by_cases hz:n=0
       ·subst hz
        rw [zkB (show Rep m 0 0 from fun t ht=>absurd ht (Nat.not_lt_zero _))]
        rfl
       ·rw [ih (by omega),zkA (show ¬ Rep m 0 n from fun q=>q 0 (by omega) trivial)]
        rfl
     exact h0 _ hn1
    rw [this]
    rfl⟩ (by have:=zbg;simp only;omega)
 rw [hr,zao];rcases hq with ⟨c,rfl,h⟩ | ⟨c,i,rfl,h⟩
 ·exact ⟨c,_,rfl,h⟩
 ·exact ⟨c,i,rfl,h⟩
theorem zmr (hv:zch m=0):∃ c,zez m=some (c,0)∧ClsF m m.Next.length c:=by
 obtain ⟨c,i,h1,h2⟩:=znd (zd0 hv);refine ⟨c,?_,h2⟩;unfold zez ze7;rw [zbv,zao,hv,zkA (by decide),zkC,h1,zao,zao]
end
end
section
set_option maxRecDepth 100000
section
variable {m t:zaa} {c:List Int}
def zkw (c:List Int) (s u:Nat):Prop:=c[s]?=some (↑u:Int)∧∀ s',s'<s→c[s']?≠some (↑u:Int)
theorem first_lt (F:FirstOcc c) {s u i v:Nat} (hs:zkw c s u) (hi:i<s) (hv:c[i]?=some (↑v:Int)):v<u:=by
 rcases Nat.lt_trichotomy v u with h | h | h
 ·exact h
 ·rw [h] at hv;exact absurd hv (hs.2 i hi)
 ·obtain ⟨s',h1,h2⟩:=F i v hv u h;exact absurd h2 (hs.2 s' (by omega))
theorem first_le (F:FirstOcc c) {s u i v:Nat} (hs:zkw c s u) (hv:c[i]?=some (↑v:Int)) (hu:u≤v):s≤i:=by
 rcases Nat.lt_or_ge i s with h | h
 ·have:=first_lt F hs h hv;omega
 ·exact h
structure Quo (t M:zaa) (c:List Int):Prop where
 inp:M.Inputs=t.Inputs
 start:M.Start=0
 len:M.Out.length=M.Next.length
 ub:∀ s,s<t.Next.length→∃ x:Nat,c[s]?=some (↑x:Int)∧x<M.Next.length
 row:∀ u,u<M.Next.length→∃ s r o,s<t.Next.length∧zkw c s u∧M.Next[u]?=some r∧M.Out[u]?=some o∧r.length=t.Inputs.toNat∧(∀ a,a<t.Inputs.toNat→r[a]?=c[nx t s a]?)∧t.Out[s]?=some o
 le:M.Next.length≤t.Next.length
variable {M:zaa}
theorem zq2 (H:zdx t) (Q:Quo t M c) {u:Nat} (hu:u<M.Next.length):∃ s,s<t.Next.length∧zkw c s u∧∀ a,a<t.Inputs.toNat→c[nx t s a]?=some (↑(nx M u a):Int)∧ot M u a=ot t s a:=by
 obtain ⟨s,r,o,h1,h2,h3,h4,h5,h6,h7⟩:=Q.row u hu;refine ⟨s,h1,h2,fun a ha=>?_⟩;obtain ⟨x,x1,_⟩:=Q.ub _ (H.at h1 ha).1;have hr:=h6 a ha;rw [x1] at hr;refine ⟨?_,?_⟩
 ·rw [x1];unfold nx;rw [h3,Option.getD_some,hr,Option.getD_some,Int.toNat_natCast]
 ·unfold ot;rw [h4,h7]
theorem quo_step (H:zdx t) (C:ClsF t t.Next.length c) {s s' a:Nat} (hs:s<t.Next.length) (hs':s'<t.Next.length) (h:c[s]?=c[s']?) (ha:a<t.Inputs.toNat):ot t s a=ot t s' a∧c[nx t s a]?=c[nx t s' a]?:=by
 have h1:=E_all H hs hs' ((C.cls.cls s s' hs hs').1 h) (t.Next.length+1);exact ⟨(h1.2 a ha).1,(C.cls.cls _ _ (H.at hs ha).1 (H.at hs' ha).1).2 (h1.2 a ha).2⟩
theorem zp9 (H:zdx t) (C:ClsF t t.Next.length c) (Q:Quo t M c):∀ (w:List Int) (s u:Nat),s<t.Next.length→c[s]?=some (↑u:Int)→WOk t.Inputs w→outs M u w=outs t s w
 | [],_,_,_,_,_=>rfl
 | z::w,s,u,hs,hu,hw=>by
  have hz:=hw.head;have ha:z.toNat<t.Inputs.toNat:=by omega
  obtain ⟨x,x1,x2⟩:=Q.ub s hs
  have hux:u<M.Next.length:=by
   rw [hu] at x1;injection x1 with x1
   omega
  obtain ⟨s',h1,h2,h3⟩:=zq2 H Q hux;obtain ⟨e1,e2⟩:=quo_step H C hs h1 (hu.trans h2.1.symm) ha;have h4:=h3 _ ha;have:=zp9 H C Q w (nx t s z.toNat) (nx M u z.toNat) (H.at hs ha).1 (by rw [e2,h4.1]) hw.tail;show ot M u z.toNat::outs M (nx M u z.toNat) w=ot t s z.toNat::outs t (nx t s z.toNat) w;rw [this,h4.2,e1]
theorem quo_ok (H:zdx t) (Q:Quo t M c):zdx M:=by
 have hn:=H.n1;have hn2:=H.n2;obtain ⟨x,_,x2⟩:=Q.ub 0 hn;have hle:=Q.le;refine ⟨by rw [Q.inp];exact H.i1,by rw [Q.inp];exact H.i2,by omega,by omega,by rw [Q.start];omega,Q.len,fun u hu=>?_⟩;have hi1:=H.i1;obtain ⟨s,r,o,h1,h2,h3,h4,h5,h6,h7⟩:=Q.row u hu;obtain ⟨x',y',e1,e2,e3,e4,e5,e6⟩:=H.row s h1;rw [h7] at e2;injection e2 with e2
 subst e2;refine ⟨r,o,h3,h4,by rw [Q.inp];omega,by rw [Q.inp];exact e4,fun v hv=>?_,e6⟩;obtain ⟨a,ha,rfl⟩:=List.mem_iff_getElem.1 hv;obtain ⟨z,z1,z2⟩:=Q.ub _ (H.at h1 (a:=a) (by omega)).1;have hr:=h6 a (by omega);rw [get_at ha,z1] at hr;injection hr with hr
 omega
theorem quo_can (H:zdx t) (C:ClsF t t.Next.length c) (Q:Quo t M c) (K:Can t):Can M:=by
 have hzero:∀ s,zkw c s 0→s=0:=fun s hs=>by
  obtain ⟨x,x1,_⟩:=Q.ub 0 H.n1;have:=first_le C.first hs x1 (Nat.zero_le _);omega
 have hpos:∀ s u,zkw c s u→0<u→0<s:=fun s u hs hu=>by
  rcases Nat.eq_zero_or_pos s with h | h
  ·subst h;obtain ⟨s',h1,_⟩:=C.first 0 u hs.1 0 hu;omega
  ·exact h
 have back:∀ {i a s u:Nat},i<s→i<t.Next.length→a<t.Inputs.toNat→zkw c s u→nx t i a=s→∃ v:Nat,c[i]?=some (↑v:Int)∧v<u∧nx M v a=u:=fun {i a s u} h1 h2 h3 h4 h5=>by
  obtain ⟨v,v1,v2⟩:=Q.ub i h2;refine ⟨v,v1,first_lt C.first h4 h1 v1,?_⟩;obtain ⟨s',g1,g2,g3⟩:=zq2 H Q v2;have e:=(quo_step H C h2 g1 (v1.trans g2.1.symm) h3).2;have g4:=(g3 a h3).1;rw [← e,h5,h4.1] at g4;injection g4 with g4
  omega
 refine ⟨fun i a u hi ha hu hle=>?_,fun u hu hlt=>?_⟩
 ·rw [Q.inp] at ha ⊢;obtain ⟨s,h1,h2,h3⟩:=zq2 H Q hi;have hD:=(h3 a ha).1;have hn1:=(H.at h1 ha).1
  have huM:u<M.Next.length:=by
   have:=(quo_ok H Q).at hi (a:=a) (by rw [Q.inp];exact ha);omega
  obtain ⟨su,g1,g2,g3⟩:=zq2 H Q huM;have hsu:=first_le C.first g2 hD hle;obtain ⟨i',a',z1,z2,z3,z4⟩:=K.c4 s a su h1 ha (hpos su u g2 hu) hsu;obtain ⟨v,v1,v2,v3⟩:=back z3 (by omega) z1 g2 z4;refine ⟨v,a',z1,?_,v2,v3⟩
  have hle':i'≤s:=by
   rcases Nat.lt_or_ge s i' with q | q
   ·have:=znv q ha;omega
   ·exact q
  rcases Nat.lt_or_ge i' s with q | q
  ·have:=first_lt C.first h2 q v1;have:=znv this z1;omega
  ·have e:i'=s:=by omega
   subst e;have hv:=h2.1;rw [v1] at hv;injection hv with hv
   have:v=i:=by omega
   subst this;omega
 ·rw [Q.inp];obtain ⟨su,g1,g2,g3⟩:=zq2 H Q hlt;obtain ⟨i,a,z1,z2,z3⟩:=K.c5 su (hpos su u g2 hu) g1;obtain ⟨v,v1,v2,v3⟩:=back z1 (by omega) z2 g2 z3;exact ⟨v,a,v2,z2,v3⟩
theorem quo_min (H:zdx t) (C:ClsF t t.Next.length c) (Q:Quo t M c) {i j:Nat} (hi:i<M.Next.length) (hj:j<M.Next.length) (h:Eqv M i M j):i=j:=by
 obtain ⟨s,h1,h2,_⟩:=zq2 H Q hi;obtain ⟨s',g1,g2,_⟩:=zq2 H Q hj
 have he:E t t.Next.length s s':=zq7 fun w _ hw=>by
  rw [← zp9 H C Q w s i h1 h2.1 hw,← zp9 H C Q w s' j g1 g2.1 hw];exact h w (by rw [Q.inp];exact hw)
 have:=(C.cls.cls s s' h1 g1).2 he;rw [h2.1,g2.1] at this;injection this with this
 omega
theorem quo_sem {L:List (Nat×List Int)} (T:TrimOk m t L) (C:ClsF t t.Next.length c) (Q:Quo t M c):zrj m M:=by
 have H:=T.ok;have hK:0<t.Inputs.toNat:=by have:=H.i1;omega
 have hE:zfj (nx m) t.Inputs.toNat m.Start.toNat L:=by rw [T.inp];exact T.end_
 have hcan:=shape_can hE T.shape hK
 have h0:c[0]?=some (↑(0:Nat):Int):=by
  obtain ⟨x,x1,_⟩:=Q.ub 0 H.n1;rcases Nat.eq_zero_or_pos x with h | h
  ·rw [x1,h]
  ·obtain ⟨s',h1,_⟩:=C.first 0 x x1 0 h;omega
 refine ⟨quo_ok H Q,Q.inp.trans T.inp,Q.start,fun w hw=>?_,fun i j hi hj h=>quo_min H C Q hi hj h,quo_can H C Q hcan⟩;have hw':WOk t.Inputs w:=by rw [← Q.inp];exact hw
 rw [zp9 H C Q w 0 0 H.n1 h0 hw',trim_outs T w 0 _ T.end_.first (by rw [← T.inp];exact hw')]
theorem min_loop (H:zdx t) (C:ClsF t t.Next.length c) (e e2:Int):∃ P R,iter (fun (s:List (List Int)×List (List Int)×Nat)=>za0.s32 (t,e) (c,e2) s.1 s.2.1 s.2.2) fuel ([],[],0)=some (P,R)∧Quo t (⟨t.Inputs,0,P,R⟩:zaa) c:=by
 have hn:=H.n2;have hn1:=H.n1;have hI:=H.i2;have hI1:=H.i1;have hc:=C.cls.len
 obtain ⟨r,hr,P,R,rfl,hQ⟩:=zb1 (step:=fun (s:List (List Int)×List (List Int)×Nat)=>za0.s32 (t,e) (c,e2) s.1 s.2.1 s.2.2) (fun s=>s.2.2≤t.Next.length∧s.2.1.length=s.1.length∧s.1.length≤s.2.2∧(∀ s',s'<s.2.2→∃ x:Nat,c[s']?=some (↑x:Int)∧x<s.1.length)∧∀ u,u<s.1.length→∃ s' r o,s'<s.2.2∧zkw c s' u∧s.1[u]?=some r∧s.2.1[u]?=some o∧r.length=t.Inputs.toNat∧(∀ a,a<t.Inputs.toNat→r[a]?=c[nx t s' a]?)∧t.Out[s']?=some o) (fun s=>t.Next.length-s.2.2) (fun r=>∃ P R,r=(P,R)∧Quo t (⟨t.Inputs,0,P,R⟩:zaa) c) (fun s ⟨q1,q2,q3,q4,q5⟩=>by
  obtain ⟨P,R,s⟩:=s
  simp only at q1 q2 q3 q4 q5
  simp only [za0.s32]
  by_cases g:s<t.Next.length
  ·left
   obtain ⟨x,x1,x2⟩:=C.cls.rng s g
   rw [zkB (by omega),zkD,zau x1]
   by_cases hx:x<P.length
   ·refine ⟨(P,R,s+1),?_,⟨g,q2,by simp only;omega,fun s' hs'=>?_,fun u hu=>?_⟩,by simp only;omega⟩
    ·rw [zkB (by omega),zkD,zao]
     rfl
    ·simp only at hs' ⊢
     rcases Nat.lt_or_ge s' s with h | h
     ·exact q4 s' h
     ·have:s'=s:=by omega
      subst this
      exact ⟨x,x1,hx⟩
    ·obtain ⟨s',r,o,z1,z2⟩:=q5 u hu
     exact ⟨s',r,o,by simp only;omega,z2⟩
   ·have hxe:x=P.length:=by
     rcases Nat.lt_or_ge P.length x with h | h
     ·obtain ⟨s',h1,h2⟩:=C.first s x x1 P.length h
      obtain ⟨y,y1,y2⟩:=q4 s' h1
      rw [h2] at y1
      injection y1 with y1
      omega
     ·omega
    subst hxe
    obtain ⟨row,out,e1,e2',e3,e4,e5,e6⟩:=H.row s g
    obtain ⟨r,hr,hrl,hra⟩:=zb1 (step:=fun (q:List Int×Nat)=>za0.s30 (c,e2) row q.1 q.2) (fun q=>q.2≤t.Inputs.toNat∧q.1.length=q.2∧∀ a,a<q.2→q.1[a]?=c[nx t s a]?) (fun q=>t.Inputs.toNat-q.2) (fun r=>r.length=t.Inputs.toNat∧∀ a,a<t.Inputs.toNat→r[a]?=c[nx t s a]?) (fun q ⟨w1,w2,w3⟩=>by
     obtain ⟨y,a⟩:=q
     simp only at w1 w2 w3
     simp only [za0.s30]
     by_cases f:a<t.Inputs.toNat
     ·left
      obtain ⟨h1,_,_,x',y',h2,_,h4,_⟩:=H.at g f
      rw [e1] at h2
      injection h2 with h2
      subst h2
      have hcx:=get_at (l:=c) (i:=nx t s a) (by omega)
      refine ⟨(y++[c[nx t s a]'(by omega)],a+1),?_,⟨f,by simp [w2],fun b hb=>?_⟩,by simp only;omega⟩
      ·rw [zkB (by omega),zkD,zau h4,zcs rfl hcx,zar (by unfold zbh;omega)]
      ·simp only at hb ⊢
       rcases Nat.lt_or_ge b a with h | h
       ·rw [List.getElem?_append_left (by omega),w3 b h]
       ·have:b=a:=by omega
        subst this
        rw [List.getElem?_append_right (by omega),w2,Nat.sub_self,hcx]
        rfl
     ·right
      have:a=t.Inputs.toNat:=by omega
      subst this
      exact ⟨y,by rw [zkA (by omega),zkC],w2,w3⟩) fuel ([],0) ⟨Nat.zero_le _,rfl,fun a h=>absurd h (Nat.not_lt_zero _)⟩ (by have:=zbg;simp only;omega)
    refine ⟨(P++[r],R++[out],s+1),?_,⟨g,by simp [q2],by simp;omega,fun s' hs'=>?_,fun u hu=>?_⟩,by simp only;omega⟩
    ·rw [zkA (by omega),zkC,zau e1,hr,zao,zar (by unfold zbh;omega),zau e2',zar (by unfold zbh;simp;omega),zar (by unfold zbh;omega),zao]
     rfl
    ·simp only at hs' ⊢
     rw [zkJ,List.length_singleton]
     rcases Nat.lt_or_ge s' s with h | h
     ·obtain ⟨y,y1,y2⟩:=q4 s' h
      exact ⟨y,y1,by omega⟩
     ·have:s'=s:=by omega
      subst this
      exact ⟨_,x1,by omega⟩
    ·simp only at hu ⊢
     rw [zkJ,List.length_singleton] at hu
     rcases Nat.lt_or_ge u P.length with h | h
     ·obtain ⟨s',r',o,z1,z2,z3,z4,z5⟩:=q5 u h
      exact ⟨s',r',o,by omega,z2,by rw [List.getElem?_append_left h,z3],by rw [List.getElem?_append_left (by omega),z4],z5⟩
     ·have:u=P.length:=by omega
      subst this
      refine ⟨s,r,out,by omega,⟨x1,fun s' hs' q=>?_⟩,by simp,?_,hrl,hra,e2'⟩
      ·obtain ⟨y,y1,y2⟩:=q4 s' hs'
       rw [q] at y1
       injection y1 with y1
       omega
      ·rw [List.getElem?_append_right (by omega),q2,Nat.sub_self]
       rfl
  ·right
   have:s=t.Next.length:=by omega
   subst this
   exact ⟨_,by rw [zkA (by omega),zkC],P,R,rfl,⟨rfl,rfl,q2,q4,q5,q3⟩⟩) fuel ([],[],0) ⟨Nat.zero_le _,rfl,Nat.le_refl _,fun s' h=>absurd h (Nat.not_lt_zero _),fun u h=>absurd h (Nat.not_lt_zero _)⟩ (by have:=zbg;simp only;omega)
 exact ⟨P,R,hr,hQ⟩
theorem validM_of (H:zdx m):zch m=0:=by
 have:=zlw H;rw [zbv] at this;injection this
theorem zh7 (hv:zch m=0):∃ M,za0 m=some (M,0)∧zrj m M:=by
 obtain ⟨t,L,h1,T⟩:=mealy_Trim_eq hv;obtain ⟨c,h2,C⟩:=zmr (validM_of T.ok);obtain ⟨P,R,h3,Q⟩:=min_loop T.ok C 0 0;refine ⟨⟨t.Inputs,0,P,R⟩,?_,quo_sem T C Q⟩;unfold za0;rw [h1,zao,zkA (fun h=>h rfl),zkC,h2,zao,zkA (fun h=>h rfl),zkC,h3,zao];rfl
theorem zpl (hv:zch m≠0):za0 m=some (⟨0,0,[],[]⟩,zch m):=by
 unfold za0 zbn;rw [zbv,zao,zkB hv,zkD,zao,zkB (by exact hv),zkD]
end
end
section
set_option maxRecDepth 100000
section
variable {m:zaa} {c:List Int}
def clN (c:List Int) (s:Nat):Nat:=((c[s]?).getD 0).toNat
open Classical in
theorem clN_at (C:ClsOk m m.Next.length c) {s:Nat} (hs:s<m.Next.length):c[s]?=some (↑(clN c s):Int)∧clN c s<m.Next.length:=by
 obtain ⟨x,x1,x2⟩:=C.rng s hs;unfold clN;rw [x1,Option.getD_some,Int.toNat_natCast];exact ⟨rfl,x2⟩
structure Nums (m:zaa) (c:List Int) (ord:List Nat) (num:List Int) (B:List (Nat×List Int)):Prop where
 ol:ord.length=B.length
 oc:∀ (j u:Nat) (x:Nat×List Int),ord[j]?=some u→B[j]?=some x→u<m.Next.length∧clN c u=x.1
 nl:num.length=m.Next.length
 n1:∀ (j:Nat) (x:Nat×List Int),B[j]?=some x→num[x.1]?=some (↑j:Int)
 n2:∀ x:Nat,x<m.Next.length→x∉B.map Prod.fst→num[x]?=some (-1:Int)
theorem Nums.push {ord:List Nat} {num:List Int} {B:List (Nat×List Int)} {u:Nat} {w:List Int} (N:Nums m c ord num B) (C:ClsOk m m.Next.length c) (hu:u<m.Next.length) (hn:clN c u∉B.map Prod.fst) (hB:(B.map Prod.fst).Nodup):Nums m c (ord++[u]) (num.set (clN c u) (↑B.length:Int)) (B++[(clN c u,w)]):=by
 have hcl:=(clN_at C hu).2;refine ⟨by simp [N.ol],fun j v x hj hx=>?_,by simp [N.nl],fun j x hx=>?_,fun x hx hm=>?_⟩
 ·rcases Nat.lt_or_ge j B.length with h | h
  ·rw [List.getElem?_append_left (by rw [N.ol];exact h)] at hj;rw [List.getElem?_append_left h] at hx;exact N.oc j v x hj hx
  ·have hl:=(zkI.1 hx).1;rw [zkJ,List.length_singleton] at hl;have:j=B.length:=by omega
   subst this;rw [List.getElem?_append_right (by rw [N.ol];exact Nat.le_refl _),N.ol,Nat.sub_self] at hj;rw [List.getElem?_append_right (Nat.le_refl _),Nat.sub_self] at hx;injection hj with hj
   injection hx with hx
   subst hj;subst hx;exact ⟨hu,rfl⟩
 ·rcases Nat.lt_or_ge j B.length with h | h
  ·rw [List.getElem?_append_left h] at hx;rw [List.getElem?_set_ne (fun q=>hn (by rw [q];exact List.mem_map.2 ⟨x,zkH hx,rfl⟩)),N.n1 j x hx]
  ·have hl:=(zkI.1 hx).1;rw [zkJ,List.length_singleton] at hl;have:j=B.length:=by omega
   subst this;rw [List.getElem?_append_right (Nat.le_refl _),Nat.sub_self] at hx;injection hx with hx
   subst hx;rw [List.getElem?_set_self (by rw [N.nl];exact hcl)]
 ·rw [List.map_append,List.mem_append,not_or] at hm;have h1:clN c u≠x:=fun q=>hm.2 (by simp [q]);rw [List.getElem?_set_ne h1];exact N.n2 x hx hm.1
end
end
section
set_option maxRecDepth 100000
theorem zru {α:Type} [DecidableEq α] {l l':List α} (h:l.Nodup) (hs:∀ x∈l,x∈l') (hl:l'.length≤l.length):∀ x∈l',x∈l:=fun x hx=>Classical.byContradiction fun hn=>by
 have:=zhs (l:=x::l) (l':=l') (List.nodup_cons.2 ⟨hn,h⟩) fun y hy=>by
  rcases List.mem_cons.1 hy with rfl | hy
  ·exact hx
  ·exact hs y hy
 simp only [zkL] at this;omega
section
variable {m M:zaa}
theorem zdx.two (H:zdx m):Two m m:=⟨H,H,rfl⟩
open Classical in
noncomputable def sepR (m:zaa) (s t:Nat):List Int×Bool:=if h:∃ res,Fst m m (s,t) res then Classical.choose h else ([],false)
noncomputable def sepW (m:zaa) (s t:Nat):List Int:=(sepR m s t).1
noncomputable def sepB (m:zaa) (s t:Nat):Bool:=(sepR m s t).2
theorem sepR_of {s t:Nat} {res:List Int×Bool} (h:Fst m m (s,t) res):Fst m m (s,t) (sepW m s t,sepB m s t):=by
 have h':∃ res,Fst m m (s,t) res:=⟨res,h⟩;have:sepR m s t=Classical.choose h':=dif_pos h';show Fst m m (s,t) (sepR m s t);rw [this];exact Classical.choose_spec h'
theorem zss (H:zdx m) {s t:Nat} (hs:s<m.Next.length) (ht:t<m.Next.length):Fst m m (s,t) (sepW m s t,sepB m s t):=by
 obtain ⟨res,_,h⟩:=zh4 H.two (p0:=(s,t)) hs ht;exact sepR_of h
theorem States_prog (hv:zch m=0) {s t:Nat} (hs:s<m.Next.length) (ht:t<m.Next.length):zha m (↑s:Int) (↑t:Int)=some (sepW m s t,sepB m s t,0):=by
 have H:=zd0 hv;have hK:0<m.Inputs.toNat:=by have:=H.i1;omega
 obtain ⟨res,h1,h2⟩:=zh4 H.two (p0:=(s,t)) hs ht;have:=fst_uniq hK h2 (sepR_of h2);unfold zha;rw [zbv,zao,hv,zkA (by decide),zkC,zkA (by omega),zkC,zkA (by omega),zkC,zkA (by omega),zkC,zkA (by omega),zao,zkC,h1,zao,this]
theorem pB_swap (r:Nat) (s t:Nat):pB m m (t,s) r=(pB m m (s,t) r).map fun x=>((x.1.2,x.1.1),x.2):=by
 induction r with
 | zero=>rfl
 | succ r ih =>
  have e1:∀ p0,pB m m p0 (r+1)=match (pB m m p0 r)[r / m.Inputs.toNat]? with
    | none=>pB m m p0 r
    | some x=>if pE m m x.1 (r%m.Inputs.toNat)∈(pB m m p0 r).map Prod.fst then pB m m p0 r else pB m m p0 r++[(pE m m x.1 (r%m.Inputs.toNat),x.2++[(↑(r%m.Inputs.toNat):Int)])]:=fun p0=>by
   unfold pB;rw [bfsB];cases (bfsB (pE m m) m.Inputs.toNat p0 r)[r / m.Inputs.toNat]? with
   | none=>rfl
   | some x =>
    simp only;by_cases h:pE m m x.1 (r%m.Inputs.toNat)∈(bfsB (pE m m) m.Inputs.toNat p0 r).map Prod.fst
    ·rw [if_pos h,if_pos h]
    ·rw [if_neg h,if_neg h]
  rw [e1,e1,ih,List.getElem?_map];cases (pB m m (s,t) r)[r / m.Inputs.toNat]? with
  | none=>rfl
  | some x =>
   simp only [Option.map_some]
   have hm:pE m m (x.1.2,x.1.1) (r%m.Inputs.toNat)∈((pB m m (s,t) r).map fun x=>((x.1.2,x.1.1),x.2)).map Prod.fst↔pE m m x.1 (r%m.Inputs.toNat)∈(pB m m (s,t) r).map Prod.fst:=by
    rw [List.map_map];constructor
    ·intro h;obtain ⟨y,hy,he⟩:=List.mem_map.1 h;refine List.mem_map.2 ⟨y,hy,?_⟩;have he:((y.1.2,y.1.1):Nat×Nat)=(nx m x.1.2 (r%m.Inputs.toNat),nx m x.1.1 (r%m.Inputs.toNat)):=he;injection he with h1 h2
     exact Prod.ext h2 h1
    ·intro h;obtain ⟨y,hy,he⟩:=List.mem_map.1 h;refine List.mem_map.2 ⟨y,hy,?_⟩;have h1:=congrArg Prod.fst he;have h2:=congrArg Prod.snd he;exact Prod.ext h2 h1
   by_cases h:pE m m x.1 (r%m.Inputs.toNat)∈(pB m m (s,t) r).map Prod.fst
   ·rw [if_pos (hm.2 h),if_pos h]
   ·rw [if_neg (fun q=>h (hm.1 q)),if_neg h,List.map_append];rfl
theorem dif_swap (r:Nat) (s t:Nat):difB m m (t,s) r=difB m m (s,t) r:=by
 unfold difB;rw [pB_swap,List.getElem?_map];cases (pB m m (s,t) r)[r / m.Inputs.toNat]? with
 | none=>rfl
 | some x =>
  show decide (ot m x.1.2 _≠ot m x.1.1 _)=decide (ot m x.1.1 _≠ot m x.1.2 _);exact decide_eq_decide.2 ⟨fun h q=>h q.symm,fun h q=>h q.symm⟩
theorem fst_swap {s t:Nat} {res:List Int×Bool} (h:Fst m m (s,t) res):Fst m m (t,s) res:=by
 rcases h with ⟨i,c,x,h1,h2,h3,h4,h5⟩ | ⟨L,h1,h2,h3⟩
 ·exact Or.inl ⟨i,c,((x.1.2,x.1.1),x.2),h1,by rw [pB_swap,List.getElem?_map,h2];rfl,fun q=>h3 q.symm,fun r hr=>by rw [dif_swap];exact h4 r hr,h5⟩
 ·refine Or.inr ⟨L.map fun x=>((x.1.2,x.1.1),x.2),⟨?_⟩,fun r hr=>by rw [dif_swap];exact h2 r (by rwa [zkK] at hr),h3⟩;rw [zkK];have:=pB_swap (m:=m) (L.length*m.Inputs.toNat) s t;unfold pB at this;rw [this,← h1.eq]
theorem sepW_symm (H:zdx m) {s t:Nat} (hs:s<m.Next.length) (ht:t<m.Next.length):sepW m t s=sepW m s t:=by
 have hK:0<m.Inputs.toNat:=by have:=H.i1;omega
 have:=fst_uniq hK (zss H ht hs) (fst_swap (zss H hs ht));injection this
theorem sepW_sm (H:zdx m) {s t:Nat} (hs:s<m.Next.length) (ht:t<m.Next.length):WOk m.Inputs (sepW m s t)∧(sepW m s t).length≤m.Next.length*m.Next.length*m.Inputs.toNat:=by
 have h:=zss H hs ht;rcases h with ⟨i,c,x,g1,g2,g3,g4,g5⟩ | ⟨L,_,_,g⟩
 ·injection g5 with g5 _
  have hr:=zpc H.two (p0:=(s,t)) hs ht _ x (zkH g2);have hlen:=pB_len H.two (p0:=(s,t)) hs ht (i*m.Inputs.toNat+c);have hi:=(zkI.1 g2).1;have:=znv (show i<m.Next.length*m.Next.length by omega) g1;refine ⟨?_,?_⟩
  ·rw [g5];refine WOk.append hr.2.2.2.2.2 fun z hz=>?_;have:z=(↑c:Int):=by simpa using hz
   omega
  ·rw [g5];simp;omega
 ·injection g with g _
  rw [g];exact ⟨fun a ha=>(by cases ha),Nat.zero_le _⟩
structure zgp (m:zaa):Prop where
 reach:∀ s,s<m.Next.length→∃ w,WOk m.Inputs w∧dest m m.Start.toNat w=s
 apart:∀ i j,i<m.Next.length→j<m.Next.length→Eqv m i m j→i=j
theorem sepB_of (H:zdx m) (P:zgp m) {s t:Nat} (hs:s<m.Next.length) (ht:t<m.Next.length) (hne:s≠t):sepB m s t=true:=by
 cases e:sepB m s t with
 | true=>rfl
 | false =>
  have h:=zss H hs ht;rw [e] at h;exact absurd (P.apart s t hs ht (fst_none h)) hne
theorem sepW_sep (H:zdx m) (P:zgp m) {s t:Nat} (hs:s<m.Next.length) (ht:t<m.Next.length) (hne:s≠t):outs m s (sepW m s t)≠outs m t (sepW m s t):=by
 have h:=zss H hs ht;rw [sepB_of H P hs ht hne] at h;exact fst_ne H.two (p0:=(s,t)) hs ht h
theorem can_reach (K:Can M) (hK:0<M.Inputs.toNat):∀ u,u<M.Next.length→∃ w,WOk M.Inputs w∧dest M 0 w=u:=by
 intro u
 induction u using Nat.strongRecOn with
 | ind u ih =>
  intro hu;by_cases hz:u=0
  ·subst hz;exact ⟨[],fun a ha=>(by cases ha),rfl⟩
  ·obtain ⟨i,a,h1,h2,h3⟩:=K.c5 u (by omega) hu;obtain ⟨w,w1,w2⟩:=ih i h1 (by omega);refine ⟨w++[(↑a:Int)],w1.append fun z hz=>?_,?_⟩
   ·have:z=(↑a:Int):=by simpa using hz
    omega
   ·rw [ze9,w2];show nx M i (Int.toNat ↑a)=u;rw [Int.toNat_natCast,h3]
theorem sem_minimal (S:zrj m M):zgp M:=⟨fun s hs=>by
 have hK:0<M.Inputs.toNat:=by have:=S.ok.i1;omega
 rw [S.start]
 exact can_reach S.can hK s hs,S.min⟩
theorem sem_le (H:zdx m) (S:zrj m M):M.Next.length≤m.Next.length∧(M.Next.length=m.Next.length↔zgp m):=by
 have hK:0<M.Inputs.toNat:=by have:=S.ok.i1;omega
 have hst:=H.st;have hreach:=can_reach S.can hK
 have hf:∀ u,∃ s,u<M.Next.length→s<m.Next.length∧Eqv M u m s∧∃ w,WOk m.Inputs w∧dest m m.Start.toNat w=s:=fun u=>by
  by_cases hu:u<M.Next.length
  ·obtain ⟨w,w1,w2⟩:=hreach u hu;have hw:WOk m.Inputs w:=by rw [← S.inp];exact w1
   refine ⟨dest m m.Start.toNat w,fun _=>⟨H.dest hw (by omega),?_,w,hw,rfl⟩⟩;have:=S.eqv.dest S.inp w1
   rwa [w2] at this
  ·exact ⟨0,fun h=>absurd h hu⟩
 obtain ⟨f,hf⟩:=Classical.axiomOfChoice hf
 have hinj:((List.range M.Next.length).map f).Nodup:=by
  refine List.pairwise_map.2 (List.Pairwise.imp_of_mem (fun {a b} ha hb hne he=>hne ?_) (List.nodup_range (n:=M.Next.length)));have h1:=hf a (List.mem_range.1 ha);have h2:=hf b (List.mem_range.1 hb);rw [← he] at h2;exact S.min a b (List.mem_range.1 ha) (List.mem_range.1 hb) (h1.2.1.trans S.inp (h2.2.1.symm S.inp))
 have hsub:∀ x∈(List.range M.Next.length).map f,x∈List.range m.Next.length:=fun x hx=>by
  obtain ⟨u,hu,rfl⟩:=List.mem_map.1 hx;exact List.mem_range.2 (hf u (List.mem_range.1 hu)).1
 have hle:=zhs hinj hsub;rw [zkK,List.length_range,List.length_range] at hle;refine ⟨hle,fun he=>⟨fun s hs=>?_,fun i j hi hj hij=>?_⟩,fun P=>?_⟩
 ·have:=zru hinj hsub (by simp [he]) s (List.mem_range.2 hs);obtain ⟨u,hu,rfl⟩:=List.mem_map.1 this;exact (hf u (List.mem_range.1 hu)).2.2
 ·obtain ⟨u,hu,rfl⟩:=List.mem_map.1 (zru hinj hsub (by simp [he]) i (List.mem_range.2 hi));obtain ⟨v,hv,rfl⟩:=List.mem_map.1 (zru hinj hsub (by simp [he]) j (List.mem_range.2 hj));have h1:=hf u (List.mem_range.1 hu);have h2:=hf v (List.mem_range.1 hv);have:=S.min u v (List.mem_range.1 hu) (List.mem_range.1 hv) ((h1.2.1.trans S.inp hij).trans S.inp (h2.2.1.symm S.inp));rw [this]
 ·have hg:∀ s,∃ u,s<m.Next.length→u<M.Next.length∧Eqv M u m s:=fun s=>by
   by_cases hs:s<m.Next.length
   ·obtain ⟨w,w1,w2⟩:=P.reach s hs;have hw:WOk M.Inputs w:=by rw [S.inp];exact w1
    refine ⟨dest M 0 w,fun _=>⟨S.ok.dest hw S.ok.n1,?_⟩⟩;have:=S.eqv.dest S.inp hw
    rwa [w2] at this
   ·exact ⟨0,fun h=>absurd h hs⟩
  obtain ⟨g,hg⟩:=Classical.axiomOfChoice hg
  have ginj:((List.range m.Next.length).map g).Nodup:=by
   refine List.pairwise_map.2 (List.Pairwise.imp_of_mem (fun {a b} ha hb hne he=>hne ?_) (List.nodup_range (n:=m.Next.length)));have h1:=hg a (List.mem_range.1 ha);have h2:=hg b (List.mem_range.1 hb);rw [← he] at h2;exact P.apart a b (List.mem_range.1 ha) (List.mem_range.1 hb) ((h1.2.symm S.inp).trans S.inp.symm h2.2)
  have:=zhs ginj (l':=List.range M.Next.length) fun x hx=>by
   obtain ⟨u,hu,rfl⟩:=List.mem_map.1 hx;exact List.mem_range.2 (hg u (List.mem_range.1 hu)).1
  rw [zkK,List.length_range,List.length_range] at this;omega
theorem zr6 {L:List (Nat×List Int)} {s0:Nat} (hE:MEnd m s0 L):∀ (w:List Int) (i:Nat) (x:Nat×List Int),L[i]?=some x→WOk m.Inputs w→∃ (j:Nat) (y:Nat×List Int),L[j]?=some y∧y.1=dest m x.1 w
 | [],i,x,hx,_=>⟨i,x,hx,rfl⟩
 | z::w,i,x,hx,hw=>by
  have hz:=hw.head;obtain ⟨j,y,h1,h2,_⟩:=hE.closed hx (a:=z.toNat) (by omega);obtain ⟨k,v,g1,g2⟩:=zr6 hE w j y h1 hw.tail;exact ⟨k,v,g1,by rw [g2,h2];rfl⟩
theorem minimal_prog (hv:zch m=0):∃ b,zet m=some b∧(b=true↔zgp m):=by
 have H:=zd0 hv;have hst:=H.st;obtain ⟨M,h1,S⟩:=zh7 hv;obtain ⟨hle,hiff⟩:=sem_le H S;obtain ⟨L,hE,hR⟩:=zl7 hv;obtain ⟨hLn,hLr⟩:=zp4 H (by omega) hE;refine ⟨decide (M.Next.length=m.Next.length),?_,by rw [decide_eq_true_iff];exact hiff⟩;unfold zet;rw [zbv,zao,hv,zkA (by decide),zkC,hR,zao,zao];by_cases hl:L.length=m.Next.length
 ·rw [zkA (by rw [zg5,zkK];omega),zkC,h1,zao,zkB rfl,zkD,zao];show some (decide ((↑M.Next.length:Int)=(↑m.Next.length:Int)))=_;congr 1;exact decide_eq_decide.2 (by omega)
 ·rw [zkB (by rw [zg5,zkK];omega),zkD,zkA];intro he;have P:=hiff.1 he
  have:=zhs (l:=List.range m.Next.length) (l':=L.map Prod.fst) List.nodup_range fun s hs=>by
   obtain ⟨w,w1,w2⟩:=P.reach s (List.mem_range.1 hs);obtain ⟨j,y,g1,g2⟩:=zr6 hE w 0 _ hE.first w1;exact List.mem_map.2 ⟨y,zkH g1,by rw [g2];exact w2⟩
  rw [List.length_range,zkK] at this;omega
open Classical in
noncomputable def chkM (m:zaa):Int:=if zch m≠0 then zch m else if zgp m then 0 else 1
open Classical in
theorem check_prog (m:zaa):zfu m=some (chkM m):=by
 unfold chkM zfu;rw [zbv,zao];by_cases hv:zch m=0
 ·obtain ⟨b,h1,h3⟩:=minimal_prog hv;rw [zkA (by omega),zkC,h1,zao,if_neg (fun h=>h hv)];cases b with
  | true=>rw [if_pos (h3.1 rfl)];rfl
  | false=>rw [if_neg (fun q=>by have:=h3.2 q;cases this)];rfl
 ·rw [zkB hv,zkD,if_pos hv]
open Classical in
noncomputable def idL (m:zaa) (u k:Nat):List (List Int):=((List.range k).filter fun v=>decide (v≠u)).map (sepW m u)
theorem idL_succ {u k:Nat} (h:k≠u):idL m u (k+1)=idL m u k++[sepW m u k]:=by
 unfold idL;rw [List.range_succ,List.filter_append,List.map_append];simp [h]
theorem idL_self (u:Nat):idL m u (u+1)=idL m u u:=by
 unfold idL;rw [List.range_succ,List.filter_append,List.map_append];simp
theorem idL_len (u k:Nat):(idL m u k).length≤k:=by
 unfold idL;rw [zkK];have:=List.length_filter_le (fun v=>decide (v≠u)) (List.range k)
 rwa [List.length_range] at this
theorem idL_mem {u k:Nat} {w:List Int} (h:w∈idL m u k):∃ v,v<k∧v≠u∧w=sepW m u v:=by
 obtain ⟨v,hv,rfl⟩:=List.mem_map.1 h;obtain ⟨h1,h2⟩:=List.mem_filter.1 hv;exact ⟨v,List.mem_range.1 h1,of_decide_eq_true h2,rfl⟩
theorem idL_sm (H:zdx m) {u k:Nat} (hu:u<m.Next.length) (hk:k≤m.Next.length):SmL (idL m u k):=by
 have hn:=H.n2;have hI:=H.i2;refine ⟨by have:=idL_len (m:=m) u k;omega,fun w hw=>?_⟩;obtain ⟨v,h1,_,rfl⟩:=idL_mem hw;have h:=(sepW_sm H hu (t:=v) (by omega)).2;have h1:m.Next.length*m.Next.length≤128*128:=Nat.mul_le_mul hn hn;have h2:m.Next.length*m.Next.length*m.Inputs.toNat≤128*128*64:=Nat.mul_le_mul h1 (by omega);unfold SmW;omega
noncomputable def idsM (m:zaa):List (List (List Int)):=(List.range m.Next.length).map fun s=>sortW (idL m s m.Next.length)
def kU (n s t u:Nat):Nat:=if u<s then n else if u=s then t else if u<t then s+1 else s
theorem ids_row (hv:zch m=0) {s:Nat} (hs:s<m.Next.length) {S:List (List (List Int))} (hl:S.length=m.Next.length) (hS:∀ u,u<m.Next.length→S[u]?=some (idL m u (kU m.Next.length s (s+1) u))) :
  ∃ S',iter (fun (q:List (List (List Int))×Nat)=>zas.s13 m s q.1 q.2) fuel (S,s+1)=some (.inl S')∧S'.length=m.Next.length∧∀ u,u<m.Next.length→S'[u]?=some (idL m u (kU m.Next.length s m.Next.length u)):=by
 have H:=zd0 hv;have hn:=H.n2
 obtain ⟨r,hr,S',rfl,h1,h2⟩:=zb1 (step:=fun (q:List (List (List Int))×Nat)=>zas.s13 m s q.1 q.2) (fun q=>s<q.2∧q.2≤m.Next.length∧q.1.length=m.Next.length∧∀ u,u<m.Next.length→q.1[u]?=some (idL m u (kU m.Next.length s q.2 u))) (fun q=>m.Next.length-q.2) (fun r=>∃ S',r=.inl S'∧S'.length=m.Next.length∧∀ u,u<m.Next.length→S'[u]?=some (idL m u (kU m.Next.length s m.Next.length u))) (fun q ⟨q1,q2,q3,q4⟩=>by
  obtain ⟨S,t⟩:=q
  simp only at q1 q2 q3 q4
  simp only [zas.s13]
  by_cases g:t<m.Next.length
  ·left
   have e1:=q4 s hs
   have e2:=q4 t g
   have k1:kU m.Next.length s t s=t:=by unfold kU;rw [if_neg (by omega),if_pos rfl]
   have k2:kU m.Next.length s t t=s:=by unfold kU;rw [if_neg (by omega),if_neg (by omega),if_neg (by omega)]
   rw [k1] at e1
   rw [k2] at e2
   have l1:=idL_len (m:=m) s t
   have l2:=idL_len (m:=m) t s
   have e3:(S.set s (idL m s t++[sepW m s t]))[t]?=some (idL m t s):=by rw [List.getElem?_set_ne (by omega),e2]
   refine ⟨((S.set s (idL m s t++[sepW m s t])).set t (idL m t s++[sepW m s t]),t+1),?_,⟨by simp only;omega,g,by simp [q3],fun u hu=>?_⟩,by simp only;omega⟩
   ·rw [zkB (by omega),zkD,States_prog hv hs g,zao,zkA (fun h=>h rfl),zkC,zau e1,zar (by unfold zbh;omega),zau e1]
    simp only
    rw [zau e3,zar (by unfold zbh;omega),zau e3]
   ·simp only
    by_cases a1:t=u
    ·subst a1
     rw [List.getElem?_set_self (by simp [q3];omega)]
     have:kU m.Next.length s (t+1) t=s+1:=by unfold kU;rw [if_neg (by omega),if_neg (by omega),if_pos (by omega)]
     rw [this,idL_succ (by omega),sepW_symm H hs g]
    ·rw [List.getElem?_set_ne a1]
     by_cases a2:s=u
     ·subst a2
      rw [List.getElem?_set_self (by omega)]
      have:kU m.Next.length s (t+1) s=t+1:=by unfold kU;rw [if_neg (by omega),if_pos rfl]
      rw [this,idL_succ (by omega)]
     ·rw [List.getElem?_set_ne a2,q4 u hu]
      have:kU m.Next.length s (t+1) u=kU m.Next.length s t u:=by
       unfold kU
       by_cases b1:u<s
       ·rw [if_pos b1,if_pos b1]
       ·have b4:¬ u=s:=by omega
        rw [if_neg b1,if_neg b1,if_neg b4,if_neg b4]
        by_cases b2:u<t
        ·have b5:u<t+1:=by omega
         rw [if_pos b2,if_pos b5]
        ·have b5:¬ u<t+1:=by omega
         rw [if_neg b2,if_neg b5]
      rw [this]
  ·right
   have:t=m.Next.length:=by omega
   subst this
   exact ⟨_,by rw [zkA (by omega),zkC],S,rfl,q3,q4⟩) fuel (S,s+1) ⟨by simp only;omega,hs,hl,hS⟩ (by have:=zbg;simp only;omega)
 exact ⟨S',hr,h1,h2⟩
theorem separate_ids (hv:zch m=0) (P:zgp m):zas m=some (idsM m,0):=by
 have H:=zd0 hv;have hn:=H.n2;have hn1:=H.n1
 have hc:chkM m=0:=by
  unfold chkM;rw [if_neg (fun h=>h hv),if_pos P]
 unfold zas;rw [check_prog m,zao,hc,zkA (by decide),zkC,zar ⟨by omega,by omega,by unfold zbh;omega⟩]
 obtain ⟨r,hr,S,rfl,h1,h2⟩:=zb1 (step:=fun (q:List (List (List Int))×Nat)=>zas.s14 m q.1 q.2) (fun q=>q.2≤m.Next.length∧q.1.length=m.Next.length∧∀ u,u<m.Next.length→q.1[u]?=some (idL m u (kU m.Next.length q.2 (q.2+1) u))) (fun q=>m.Next.length-q.2) (fun r=>∃ S,r=.inl S∧S.length=m.Next.length∧∀ u,u<m.Next.length→S[u]?=some (idL m u m.Next.length)) (fun q ⟨q1,q3,q4⟩=>by
  obtain ⟨S,s⟩:=q
  simp only at q1 q3 q4
  simp only [zas.s14]
  by_cases g:s<m.Next.length
  ·left
   obtain ⟨S',z1,z2,z3⟩:=ids_row hv g q3 q4
   refine ⟨(S',s+1),by rw [zkB (by omega),zkD,z1,zao];rfl,⟨g,z2,fun u hu=>?_⟩,by simp only;omega⟩
   simp only
   rw [z3 u hu]
   by_cases b1:u<s
   ·rw [show kU m.Next.length s m.Next.length u=m.Next.length by unfold kU;rw [if_pos b1],show kU m.Next.length (s+1) (s+1+1) u=m.Next.length by unfold kU;rw [if_pos (by omega)]]
   ·by_cases b2:u=s
    ·rw [show kU m.Next.length s m.Next.length u=m.Next.length by unfold kU;rw [if_neg b1,if_pos b2],show kU m.Next.length (s+1) (s+1+1) u=m.Next.length by unfold kU;rw [if_pos (by omega)]]
    ·rw [show kU m.Next.length s m.Next.length u=s+1 by unfold kU;rw [if_neg b1,if_neg b2,if_pos hu]]
     by_cases b3:u=s+1
     ·rw [show kU m.Next.length (s+1) (s+1+1) u=s+1+1 by unfold kU;rw [if_neg (by omega),if_pos b3],b3,idL_self]
     ·rw [show kU m.Next.length (s+1) (s+1+1) u=s+1 by unfold kU;rw [if_neg (by omega),if_neg b3,if_neg (by omega)]]
  ·right
   have:s=m.Next.length:=by omega
   subst this
   refine ⟨_,by rw [zkA (by omega),zkC],S,rfl,q3,fun u hu=>?_⟩
   rw [q4 u hu]
   rw [show kU m.Next.length m.Next.length (m.Next.length+1) u=m.Next.length by unfold kU;rw [if_pos hu]]) fuel (List.replicate m.Next.length [],0) ⟨Nat.zero_le _,by simp,fun u hu=>by
    simp only
    rw [List.getElem?_replicate,if_pos hu]
    congr 1
    by_cases b:u=0
    ·subst b
     show []=idL m 0 1
     rw [idL_self]
     rfl
    ·rw [show kU m.Next.length 0 (0+1) u=0 by unfold kU;rw [if_neg (by omega),if_neg b,if_neg (by omega)]]
     rfl⟩ (by have:=zbg;simp only;omega)
 rw [hr,zao];show (chk _ _:Option _)=_;rw [zar ⟨by omega,by omega,by unfold zbh;omega⟩]
 have last:=zgs (step:=fun (q:List (List (List Int))×Nat)=>zas.s16 S q.1 q.2) (r:=idsM m) (fun q=>q.2≤m.Next.length∧q.1=(List.range q.2).map fun s=>sortW (idL m s m.Next.length)) (fun q=>m.Next.length-q.2) (fun q ⟨q1,q2⟩=>by
   obtain ⟨y,s⟩:=q
   simp only at q1 q2
   subst q2
   simp only [zas.s16]
   by_cases g:s<m.Next.length
   ·left
    refine ⟨((List.range (s+1)).map fun s=>sortW (idL m s m.Next.length),s+1),?_,⟨g,rfl⟩,by simp only;omega⟩
    rw [zkB (by omega),zkD,zau (h2 s g),zi4 (idL_sm H g (Nat.le_refl _)),zao,zar (by unfold zbh;simp;omega),List.range_succ,List.map_append]
    rfl
   ·right
    have:s=m.Next.length:=by omega
    subst this
    rw [zkA (by omega),zkC]
    rfl) (n:=fuel) (s:=([],0)) ⟨Nat.zero_le _,rfl⟩ (by have:=zbg;simp only;omega)
 rw [last,zao]
end
end
section
set_option maxRecDepth 100000
end
section
set_option maxRecDepth 100000
def zh1 (i n:Int):List (List Int):=((zdr i n).getD ([],0)).1
theorem upto_allP:∀ i∈[1,2,3,4],∀ n∈[1,2,3],zdr i n=some (zh1 i n,0)∧((zh1 i n).all fun w=>decide (w.length≤3)&&w.all fun a=>decide (0≤a∧a<i))=true∧(zh1 i n).length≤85:=by decide +kernel
theorem upto_eq {i n:Int} (h1:1≤i) (h2:i≤4) (h3:1≤n) (h4:n≤3):zdr i n=some (zh1 i n,0)∧(∀ w∈zh1 i n,WOk i w∧w.length≤3)∧(zh1 i n).length≤85:=by
 obtain ⟨a,c,d⟩:=upto_allP i (by simp;omega) n (by simp;omega);refine ⟨a,fun w hw=>?_,d⟩;have:=List.all_eq_true.1 c w hw;rw [Bool.and_eq_true] at this;exact ⟨fun x hx=>of_decide_eq_true (List.all_eq_true.1 this.2 x hx),of_decide_eq_true this.1⟩
theorem zsg {α β:Type} {f:α→List β} {k:Nat}:∀ {l:List α},(∀ x∈l,(f x).length≤k)→(l.flatMap f).length≤l.length*k
 | [],_=>by simp
 | x::l,h=>by
  have h1:=h x (by simp);have h2:=zsg (l:=l) fun y hy=>h y (List.mem_cons_of_mem _ hy);rw [List.flatMap_cons,zkJ,zkL,Nat.succ_mul];omega
theorem app_loop {α β R:Type} {step:List β×Nat→Option ((List β×Nat)⊕R)} {l:List α} {f:α→List β} {fin:List β→R} {acc:List β} (h1:∀ y i x,l[i]?=some x→y=acc++(l.take i).flatMap f→step (y,i)=some (.inl (y++f x,i+1)))
  (h2:step (acc++l.flatMap f,l.length)=some (.inr (fin (acc++l.flatMap f)))) (hl:l.length≤100000000000):iter step fuel (acc,0)=some (fin (acc++l.flatMap f)):=by
 refine zgs (fun s=>s.2≤l.length∧s.1=acc++(l.take s.2).flatMap f) (fun s=>l.length-s.2) (fun s hs=>?_) ⟨Nat.zero_le _,by simp⟩ (by have:=zbg;simp only;omega);obtain ⟨y,i⟩:=s;obtain ⟨q1,q2⟩:=hs;simp only at q1 q2;by_cases g:i<l.length
 ·left;have hx:=get_at g;refine ⟨(y++f l[i],i+1),h1 y i _ hx q2,⟨g,?_⟩,by simp only;omega⟩;simp only;rw [q2,zck hx,List.flatMap_append];simp
 ·right;have:i=l.length:=by omega
  subst this;rw [List.take_length] at q2;rw [q2,h2]
section
variable {m M:zaa} {ids:List (List (List Int))} {front middle:List (List Int)}
def zir (ids:List (List (List Int))):Nat:=ids.foldl (fun n l=>max n l.length) 1
theorem most_step (l:List (List (List Int))) (x:List (List Int)):zir (l++[x])=max (zir l) x.length:=by
 unfold zir;rw [List.foldl_append];rfl
theorem most_pos:∀ (l:List (List (List Int))) (n:Nat),n≤l.foldl (fun n l=>max n l.length) n
 | [],_=>Nat.le_refl _
 | x::l,n=>Nat.le_trans (Nat.le_max_left _ _) (most_pos l (max n x.length))
theorem most_mem:∀ {l:List (List (List Int))} {x:List (List Int)} {n:Nat},x∈l→x.length≤l.foldl (fun n l=>max n l.length) n
 | y::l,x,n,h=>by
  rcases List.mem_cons.1 h with rfl | h
  ·exact Nat.le_trans (Nat.le_max_right _ _) (most_pos l _)
  ·exact most_mem (n:=max n y.length) h
theorem most_le {k:Nat}:∀ {l:List (List (List Int))} {n:Nat},n≤k→(∀ x∈l,x.length≤k)→l.foldl (fun n l=>max n l.length) n≤k
 | [],_,h,_=>h
 | x::l,n,h,g=>most_le (l:=l) (n:=max n x.length) (Nat.max_le.2 ⟨h,g x (by simp)⟩) fun y hy=>g y (List.mem_cons_of_mem _ hy)
theorem ztl (hl:ids.length≤1000):zdv ids=some (↑(zir ids):Int):=by
 unfold zdv
 have key:=zgs (step:=fun (s:Int×Nat)=>zdv.s2 ids s.1 s.2) (r:=(↑(zir ids):Int)) (fun s=>s.2≤ids.length∧s.1=(↑(zir (ids.take s.2)):Int)) (fun s=>ids.length-s.2) (fun s ⟨q1,q2⟩=>by
  obtain ⟨n,i⟩:=s
  simp only at q1 q2
  subst q2
  simp only [zdv.s2]
  by_cases g:i<ids.length
  ·left
   have hx:=get_at g
   refine ⟨((↑(zir (ids.take (i+1))):Int),i+1),?_,⟨g,rfl⟩,by simp only;omega⟩
   rw [zkB (by omega),zkD,zau hx,zck hx,most_step]
   congr 4
   omega
  ·right
   have:i=ids.length:=by omega
   subst this
   rw [zkA (by omega),zkC,List.take_length]) (n:=fuel) (s:=(1,0)) ⟨Nat.zero_le _,rfl⟩ (by have:=zbg;simp only;omega)
 rw [key,zao]
structure zsm (M:zaa) (front middle:List (List Int)) (ids:List (List (List Int))):Prop where
 ok:zch M=0
 il:ids.length=M.Next.length
 is_:∀ l∈ids,l.length≤200∧∀ x∈l,x.length≤600
 f1:front.length≤200
 f2:∀ u∈front,WOk M.Inputs u∧u.length≤200
 m1:middle.length≤200
 m2:∀ v∈middle,WOk M.Inputs v∧v.length≤200
theorem check_of {w:List Int} (H:zdx M) (h:WOk M.Inputs w) (hl:w.length≤1024):zby w M.Inputs=0:=by
 have:=H.i1;have:=H.i2;unfold zby;rw [if_pos (by omega),if_neg (by omega),if_pos]
 exact List.all_eq_true.2 fun a ha=>by
  have:=h a ha;simp;omega
def rowS (M:zaa) (ids:List (List (List Int))) (u v:List Int):List (List Int):=(zo4 M ids (u++v)).map fun x=>u++v++x
def allS (M:zaa) (front middle:List (List Int)) (ids:List (List (List Int))):List (List Int):=front.flatMap fun u=>middle.flatMap fun v=>rowS M ids u v
theorem zm5 (P:zsm M front middle ids) (w:List Int):(zo4 M ids w).length≤zir ids∧∀ x∈zo4 M ids w,x.length≤600:=by
 unfold zo4;split
 ·exact ⟨by simp;exact most_pos ids 1,fun x hx=>by
   have:x=[]:=by simpa using hx
   rw [this]
   simp⟩
 ·cases e:ids[dest M M.Start.toNat w]? with
  | none=>exact ⟨Nat.zero_le _,fun x hx=>by cases hx⟩
  | some l =>
   have hm:=zkH e;exact ⟨most_mem hm,(P.is_ l hm).2⟩
theorem most_200 (P:zsm M front middle ids):zir ids≤200:=most_le (by omega) fun l hl=>(P.is_ l hl).1
theorem rowS_le (P:zsm M front middle ids) (u v:List Int):(rowS M ids u v).length≤zir ids:=by
 unfold rowS;rw [zkK];exact (zm5 P _).1
theorem mid_le (P:zsm M front middle ids) (u:List Int) (l:List (List Int)):(l.flatMap fun v=>rowS M ids u v).length≤l.length*zir ids:=zsg fun v _=>rowS_le P u v
theorem made_prog (P:zsm M front middle ids):iter (fun (s:List (List Int)×Nat)=>zbu.s14 (M,0) (front,0) (middle,0) (ids,0) s.1 s.2) fuel ([],0)=some (.inl (allS M front middle ids)):=by
 have H:=zd0 P.ok;have hms:=most_200 P
 have inner:∀ (u:List Int) (acc:List (List Int)),u∈front→acc.length≤10000000→iter (fun (s:List (List Int)×Nat)=>zbu.s13 (M,0) (middle,0) (ids,0) u s.1 s.2) fuel (acc,0)=some (.inl (acc++middle.flatMap fun v=>rowS M ids u v)):=by
  intro u acc hu hacc;have hfu:=P.f2 u hu;refine app_loop (l:=middle) (f:=fun v=>rowS M ids u v) (fin:=fun y=>Sum.inl y) (fun y i v hv hy=>?_) ?_ (by have:=P.m1;omega)
  ·have hi:=(zkI.1 hv).1;have hmv:=P.m2 v (zkH hv);have hc:zby (u++v) M.Inputs=0:=check_of H (hfu.1.append hmv.1) (by rw [zkJ];omega);have ht:=zm5 P (u++v)
   have hyl:y.length≤10000000+200*200:=by
    rw [hy,zkJ];have h1:=mid_le P u (middle.take i);have h2:(middle.take i).length*zir ids≤200*200:=Nat.mul_le_mul (by rw [List.length_take];have:=P.m1;omega) hms;omega
   have hrl:=rowS_le P u v;simp only [zbu.s13];rw [zkB (by omega),zkD,zau hv,zhh [u,v] (by simp) (by simp;omega),zao,show [u,v].flatten=u++v by simp,zqj ⟨by rw [P.il];have:=H.n2;omega,fun l hl=>⟨by have:=(P.is_ l hl).1;omega,fun x hx=>by have:=(P.is_ l hl).2 x hx;omega⟩⟩ (by unfold SmW;rw [zkJ];omega),zao]
   have hE:tailsE M ids (u++v)=(zo4 M ids (u++v),0):=by
    unfold tailsE;rw [if_neg (fun h=>h P.ok),if_neg (fun h=>h hc),if_neg (fun h=>h P.il)]
   rw [hE,zkA (fun h=>h rfl),zkC];simp only;rw [behind_eq (by rw [zkJ];omega) (by omega) (fun x hx=>by have:=ht.2 x hx;omega),zao,zar (by unfold zbh;rw [zkK];omega)];rfl
  ·simp only [zbu.s13];rw [zkA (by omega),zkC]
 refine app_loop (l:=front) (fin:=fun y=>Sum.inl y) (acc:=[]) (f:=fun u=>middle.flatMap fun v=>rowS M ids u v) (fun y i u hu hy=>?_) ?_ (by have:=P.f1;omega)
 ·have hi:=(zkI.1 hu).1
  have hyl:y.length≤10000000:=by
   rw [hy,List.nil_append];have h1:(((front.take i).flatMap fun u=>middle.flatMap fun v=>rowS M ids u v)).length≤(front.take i).length*(200*200):=zsg fun u _=>Nat.le_trans (mid_le P u middle) (Nat.mul_le_mul P.m1 hms);have h2:(front.take i).length*(200*200)≤200*(200*200):=Nat.mul_le_mul (by rw [List.length_take];have:=P.f1;omega) (Nat.le_refl _);omega
  simp only [zbu.s14];rw [zkB (by omega),zkD,zau hu,inner u y (zkH hu) hyl,zao];rfl
 ·simp only [zbu.s14];rw [zkA (by omega),zkC]
theorem allS_sm (P:zsm M front middle ids) (hl:front.length*middle.length*zir ids≤10000):SmL (allS M front middle ids):=by
 refine ⟨?_,fun w hw=>?_⟩
 ·have h1:(allS M front middle ids).length≤front.length*(middle.length*zir ids):=zsg fun u _=>mid_le P u middle;rw [← Nat.mul_assoc] at h1;omega
 ·obtain ⟨u,hu,hw⟩:=List.mem_flatMap.1 hw;obtain ⟨v,hv,hw⟩:=List.mem_flatMap.1 hw;obtain ⟨x,hx,rfl⟩:=List.mem_map.1 hw;have h1:=(P.f2 u hu).2;have h2:=(P.m2 v hv).2;have h3:=(zm5 P (u++v)).2 x hx;unfold SmW;simp;omega
def suiteH (M:zaa) (front middle:List (List Int)) (ids:List (List (List Int))):List (List Int)×Int :=
 if 10000<front.length*middle.length*zir ids then ([],11) else (maxR (allS M front middle ids),0)
theorem parts_of (hsm:ztx m=true) (hv:zch m=0) {extra:Int} (h1:0≤extra) (h2:extra≤2):∃ M L,za0 m=some (M,0)∧zrj m M∧zch M=0∧MEnd M 0 L∧zey M=some (L.map Prod.snd,0)∧zgp M∧M.Next.length≤8∧M.Inputs≤4∧M.Inputs=m.Inputs∧zsm M (L.map Prod.snd) (zh1 M.Inputs (extra+1)) (idsM M):=by
 have H:=zd0 hv;obtain ⟨_,hs8,hs4⟩:=smallM_of hsm;obtain ⟨M,e1,S⟩:=zh7 hv;have hM:=validM_of S.ok;have P:=sem_minimal S;obtain ⟨hle,_⟩:=sem_le H S;obtain ⟨L,hE,c1⟩:=zqf hM;have hst:M.Start.toNat=0:=by rw [S.start];rfl
 rw [hst] at hE;have hi:=S.inp;have hi1:=S.ok.i1;obtain ⟨_,u3,u4⟩:=upto_eq (i:=M.Inputs) (n:=extra+1) (by omega) (by omega) (by omega) (by omega);have hLn:=zp4 S.ok S.ok.n1 hE;have hnn:M.Next.length*M.Next.length≤8*8:=Nat.mul_le_mul (by omega) (by omega);have hnk:M.Next.length*M.Next.length*M.Inputs.toNat≤8*8*4:=Nat.mul_le_mul hnn (by omega);refine ⟨M,L,e1,S,hM,hE,by unfold zey;rw [c1,zao],P,by omega,by omega,hi,⟨hM,by simp [idsM],fun l hl=>?_,by rw [zkK];omega,fun u hu=>?_,by omega,fun v hv=>⟨(u3 v hv).1,by have:=(u3 v hv).2;omega⟩⟩⟩
 ·obtain ⟨s,hs,rfl⟩:=List.mem_map.1 hl;have hs:=List.mem_range.1 hs;refine ⟨?_,fun x hx=>?_⟩
  ·have h1:=zpf (idL M s M.Next.length);have h2:=idL_len (m:=M) s M.Next.length;omega
  ·obtain ⟨v,v1,_,rfl⟩:=idL_mem ((zhb _ _).1 hx);have:=(sepW_sm S.ok hs v1).2;omega
 ·obtain ⟨x,hx,rfl⟩:=List.mem_map.1 hu;refine ⟨(hLn.2 x hx).2.2,?_⟩;have hx2:=hx;rw [hE.eq] at hx2;have h1:=(zn0 S.ok S.ok.n1 _ x hx2).2.1;have h2:L.length*M.Inputs.toNat≤8*4:=Nat.mul_le_mul (by omega) (by omega);omega
theorem suite_prog (hsm:ztx m=true) (hv:zch m=0) {extra:Int} (h1:0≤extra) (h2:extra≤2):∃ M L,za0 m=some (M,0)∧zrj m M∧zch M=0∧MEnd M 0 L∧zgp M∧M.Next.length≤8∧M.Inputs≤4∧M.Inputs=m.Inputs∧zsm M (L.map Prod.snd) (zh1 M.Inputs (extra+1)) (idsM M)∧zbu m extra=some (suiteH M (L.map Prod.snd) (zh1 M.Inputs (extra+1)) (idsM M)):=by
 obtain ⟨M,L,e1,S,hM,hE,c1,PM,hn8,hi4,hi,P⟩:=parts_of hsm hv h1 h2;have hi1:=S.ok.i1;obtain ⟨u1,_,_⟩:=upto_eq (i:=M.Inputs) (n:=extra+1) (by omega) (by omega) (by omega) (by omega);have hms:=most_200 P;have b1:(L.map Prod.snd).length*(zh1 M.Inputs (extra+1)).length≤200*200:=Nat.mul_le_mul P.f1 P.m1;have b2:(L.map Prod.snd).length*(zh1 M.Inputs (extra+1)).length*zir (idsM M)≤200*200*200:=Nat.mul_le_mul b1 hms;refine ⟨M,L,e1,S,hM,hE,PM,hn8,hi4,hi,P,?_⟩;unfold zbu;rw [zbv,zao,zkA (by omega),zkC,zkA (by omega),zkC,zkA (by omega),zao,zkC,e1,zao,zkA (fun h=>h rfl),zkC];simp only;rw [c1,zao,zkA (fun h=>h rfl),zkC,zar (by unfold inR;omega),u1,zao,zkA (fun h=>h rfl),zkC,separate_ids hM PM,zao,zkA (fun h=>h rfl),zkC];simp only;rw [← Int.natCast_mul,zar (by unfold inR;omega),ztl (by rw [P.il];omega),zao,← Int.natCast_mul,zar (by unfold inR;omega)];unfold suiteH;by_cases h:10000<(L.map Prod.snd).length*(zh1 M.Inputs (extra+1)).length*zir (idsM M)
 ·rw [zkB (by omega),zkD,if_pos h]
 ·rw [zkA (by omega),zkC,if_neg h,made_prog P,zao];show (zb7 _).bind _=_;rw [znz (allS_sm P (by omega)),zao]
end
end
section
set_option maxRecDepth 100000
section
variable {M I:zaa} {sM sI k:Nat} {U:List (List Int)} {T:Nat→List (List Int)}
structure Pass (M I:zaa) (sM sI k:Nat) (U:List (List Int)) (T:Nat→List (List Int)):Prop where
 two:Two M I
 hM:sM<M.Next.length
 hI:sI<I.Next.length
 nil:[]∈U
 ok:∀ u∈U,WOk M.Inputs u
 cov:∀ s,s<M.Next.length→∃ u∈U,dest M sM u=s
 tne:∀ s,s<M.Next.length→∃ x,x∈T s
 tok:∀ s,∀ x∈T s,WOk M.Inputs x
 sep:∀ s s',s<M.Next.length→s'<M.Next.length→s≠s'→∃ x,x∈T s∧x∈T s'∧outs M s x≠outs M s' x
 pass:∀ u∈U,∀ v,WOk M.Inputs v→v.length≤k+1→∀ x∈T (dest M sM (u++v)),outs M sM (u++v++x)=outs I sI (u++v++x)
 few:∀ l:List Nat,l.Nodup→(∀ q∈l,∃ w,WOk M.Inputs w∧dest I sI w=q)→l.length≤M.Next.length+k
theorem zn8 {a b:zaa} {s t:Nat} {w v:List Int} (h:outs a s (w++v)=outs b t (w++v)):outs a s w=outs b t w∧outs a (dest a s w) v=outs b (dest b t w) v:=by
 rw [zfz,zfz] at h;exact List.append_inj h (by rw [zfg,zfg])
variable (P:Pass M I sM sI k U T)
include P
theorem Pass.at_ {u v:List Int} (hu:u∈U) (hv:WOk M.Inputs v) (hl:v.length≤k+1):outs M sM (u++v)=outs I sI (u++v)∧∀ x∈T (dest M sM (u++v)),outs M (dest M sM (u++v)) x=outs I (dest I sI (u++v)) x:=by
 have hd:dest M sM (u++v)<M.Next.length:=P.two.a1.dest ((P.ok u hu).append hv) P.hM;obtain ⟨x,hx⟩:=P.tne _ hd;exact ⟨(zn8 (P.pass u hu v hv hl x hx)).1,fun x hx=>(zn8 (P.pass u hu v hv hl x hx)).2⟩
theorem Pass.uniq {u v u' v':List Int} (hu:u∈U) (hv:WOk M.Inputs v) (hl:v.length≤k+1) (hu':u'∈U) (hv':WOk M.Inputs v') (hl':v'.length≤k+1) (h:dest I sI (u++v)=dest I sI (u'++v')):dest M sM (u++v)=dest M sM (u'++v'):=Classical.byContradiction fun hne=>by
 obtain ⟨x,x1,x2,x3⟩:=P.sep _ _ (P.two.a1.dest ((P.ok u hu).append hv) P.hM) (P.two.a1.dest ((P.ok u' hu').append hv') P.hM) hne;have h1:=(P.at_ hu hv hl).2 x x1;have h2:=(P.at_ hu' hv' hl').2 x x2;rw [h] at h1;exact x3 (h1.trans h2.symm)
omit P
def Vj (I:zaa) (sI:Nat) (U:List (List Int)) (K:Int) (j q:Nat):Prop:=∃ u∈U,∃ v,WOk K v∧v.length≤j∧q=dest I sI (u++v)
def Closed (I:zaa) (sI:Nat) (U:List (List Int)) (K:Int) (j:Nat):Prop:=∀ q,Vj I sI U K j q→∀ a,a<K.toNat→Vj I sI U K j (nx I q a)
theorem znr {m:zaa} {s a:Nat} {w:List Int}:dest m s (w++[(↑a:Int)])=nx m (dest m s w) a:=by
 rw [ze9];show nx m _ (Int.toNat ↑a)=_;rw [Int.toNat_natCast]
theorem wok_snoc {K:Int} {w:List Int} {a:Nat} (h:WOk K w) (ha:a<K.toNat):WOk K (w++[(↑a:Int)]):=h.append fun z hz=>by
 have:z=(↑a:Int):=by simpa using hz
 omega
include P
theorem Pass.grow:∀ j,j≤k+1→Closed I sI U M.Inputs j∨∃ l:List Nat,l.Nodup∧(∀ q∈l,Vj I sI U M.Inputs j q)∧M.Next.length+j≤l.length
 | 0,_=>by
  right
  have hc:∀ s,∃ u,s<M.Next.length→u∈U∧dest M sM u=s:=fun s=>by
   by_cases hs:s<M.Next.length
   ·obtain ⟨u,h1,h2⟩:=P.cov s hs;exact ⟨u,fun _=>⟨h1,h2⟩⟩
   ·exact ⟨[],fun h=>absurd h hs⟩
  obtain ⟨f,hf⟩:=Classical.axiomOfChoice hc;have hnil:WOk M.Inputs []:=fun a ha=>(by cases ha);refine ⟨(List.range M.Next.length).map fun s=>dest I sI (f s),?_,fun q hq=>?_,by simp⟩
  ·refine List.pairwise_map.2 (List.Pairwise.imp_of_mem (fun {a b} ha hb hne he=>hne ?_) (List.nodup_range (n:=M.Next.length)));have h1:=hf a (List.mem_range.1 ha);have h2:=hf b (List.mem_range.1 hb);have:=P.uniq (v:=[]) (v':=[]) h1.1 hnil (by simp) h2.1 hnil (by simp) (by rw [List.append_nil,List.append_nil];exact he)
   rwa [List.append_nil,List.append_nil,h1.2,h2.2] at this
  ·obtain ⟨s,hs,rfl⟩:=List.mem_map.1 hq;exact ⟨f s,(hf s (List.mem_range.1 hs)).1,[],hnil,Nat.le_refl _,by rw [List.append_nil]⟩
 | j+1,hj=>by
  by_cases hcl:Closed I sI U M.Inputs j
  ·left
   have hsub:∀ (v:List Int) (u:List Int),u∈U→WOk M.Inputs v→∀ q,Vj I sI U M.Inputs j q→Vj I sI U M.Inputs j (dest I q v):=by
    intro v
    induction v with
    | nil=>intro _ _ _ q hq;exact hq
    | cons z v ih =>
     intro u hu hv q hq;have hz:=hv.head;exact ih u hu hv.tail _ (hcl q hq z.toNat (by omega))
   have hall:∀ q,Vj I sI U M.Inputs (j+1) q→Vj I sI U M.Inputs j q:=fun q ⟨u,hu,v,hv,_,he⟩=>by
    rw [he,ze9];exact hsub v u hu hv _ ⟨u,hu,[],fun a ha=>(by cases ha),Nat.zero_le _,by rw [List.append_nil]⟩
   have hup:∀ q,Vj I sI U M.Inputs j q→Vj I sI U M.Inputs (j+1) q:=fun q ⟨u,hu,v,hv,hl,he⟩=>⟨u,hu,v,hv,by omega,he⟩;exact fun q hq a ha=>hup _ (hcl q (hall q hq) a ha)
  ·right;rcases Pass.grow j (by omega) with h | ⟨l,l1,l2,l3⟩
   ·exact absurd h hcl
   ·obtain ⟨q,hq⟩:=Classical.not_forall.1 hcl;obtain ⟨hq,hq2⟩:=Classical.not_imp.1 hq;obtain ⟨a,ha⟩:=Classical.not_forall.1 hq2;obtain ⟨ha,hn⟩:=Classical.not_imp.1 ha;refine ⟨nx I q a::l,List.nodup_cons.2 ⟨fun h=>hn (l2 _ h),l1⟩,fun x hx=>?_,by rw [zkL];omega⟩;rcases List.mem_cons.1 hx with rfl | hx
    ·obtain ⟨u,hu,v,hv,hl,he⟩:=hq;exact ⟨u,hu,v++[(↑a:Int)],wok_snoc hv ha,by simp;omega,by rw [← List.append_assoc,znr,← he]⟩
    ·obtain ⟨u,hu,v,hv,hl,he⟩:=l2 x hx;exact ⟨u,hu,v,hv,by omega,he⟩
theorem Pass.closed:Closed I sI U M.Inputs k:=Classical.byContradiction fun hcl=>by
 rcases P.grow k (by omega) with h | ⟨l,l1,l2,l3⟩
 ·exact hcl h
 ·obtain ⟨q,hq⟩:=Classical.not_forall.1 hcl;obtain ⟨hq,hq2⟩:=Classical.not_imp.1 hq;obtain ⟨a,ha⟩:=Classical.not_forall.1 hq2;obtain ⟨ha,hn⟩:=Classical.not_imp.1 ha;have hreach:∀ x,Vj I sI U M.Inputs k x→∃ w,WOk M.Inputs w∧dest I sI w=x:=fun x ⟨u,hu,v,hv,_,he⟩=>⟨u++v,(P.ok u hu).append hv,he.symm⟩
  have:=P.few (nx I q a::l) (List.nodup_cons.2 ⟨fun h=>hn (l2 _ h),l1⟩) fun x hx=>by
   rcases List.mem_cons.1 hx with rfl | hx
   ·obtain ⟨w,w1,w2⟩:=hreach q hq;exact ⟨w++[(↑a:Int)],wok_snoc w1 ha,by rw [znr,w2]⟩
   ·exact hreach x (l2 x hx)
  rw [zkL] at this;omega
theorem Pass.sim:∀ (w u v:List Int),WOk M.Inputs w→u∈U→WOk M.Inputs v→v.length≤k→outs M (dest M sM (u++v)) w=outs I (dest I sI (u++v)) w
 | [],_,_,_,_,_,_=>rfl
 | z::w,u,v,hw,hu,hv,hl=>by
  have hz:=hw.head;have ha:z.toNat<M.Inputs.toNat:=by omega
  have hv1:=wok_snoc hv ha;have h1:=(P.at_ hu hv1 (by simp;omega)).1;rw [← List.append_assoc,znq,znq] at h1;have h2:=List.append_inj_right' h1 rfl;injection h2 with h2 _
  obtain ⟨u',hu',v',hv',hl',he⟩:=P.closed _ ⟨u,hu,v,hv,hl,rfl⟩ z.toNat ha;have h3:=P.uniq hu hv1 (by simp;omega) hu' hv' (by omega) (by rw [← List.append_assoc,znr,he]);rw [← List.append_assoc,znr] at h3;have ih:=Pass.sim w u' v' hw.tail hu' hv' hl';show ot M _ z.toNat::outs M (nx M _ z.toNat) w=ot I _ z.toNat::outs I (nx I _ z.toNat) w;rw [h2,h3,he,ih]
theorem Pass.equiv {w:List Int} (hw:WOk M.Inputs w):outs M sM w=outs I sI w:=by
 have:=P.sim w [] [] hw P.nil (fun a ha=>(by cases ha)) (Nat.zero_le _);exact this
end
end
section
set_option maxRecDepth 100000
section
variable {m b M:zaa}
theorem common_ne {x y:List Int} (h:x.length=y.length) (hne:x≠y):zbk x y<x.length:=by
 induction x generalizing y with
 | nil=>exact absurd (List.length_eq_zero_iff.1 h.symm).symm hne
 | cons u x ih =>
  cases y with
  | nil=>cases h
  | cons v y =>
   by_cases e:u=v
   ·subst e;have:=ih (y:=y) (by simpa using h) (fun q=>hne (by rw [q]));simp [zbk];omega
   ·simp [zbk,e]
theorem zmf (x:List Int):zbk x x=x.length:=by
 induction x with
 | nil=>rfl
 | cons u x ih=>simp [zbk,ih]
abbrev outS (m:zaa) (w:List Int):List Int:=outs m m.Start.toNat w
theorem zpi (hv:zch m=0) {w:List Int} (hw:zby w m.Inputs=0):zi5 m w=some (outS m w,0):=by
 have hl:=zgz hw;have hst:=(zd0 hv).st;unfold zi5;rw [zm4 (by unfold SmW;omega),zao,zmq (by unfold SmW;omega) hv,if_neg (fun h=>h hw)]
theorem zth (c1:zch m=0) (c2:zch b=0) (c3:m.Inputs=b.Inputs):zdw m b=some 0:=by
 unfold zdw
 have key:=zgs (step:=fun (s:Nat)=>zdw.s2 m b s) (r:=(.inl ():Unit⊕Int)) (fun s=>s≤2) (fun s=>2-s) (fun s hs=>by
  simp only [zdw.s2]
  rcases Nat.lt_or_ge s 2 with h | h
  ·left
   rcases Nat.lt_or_ge s 1 with g | g
   ·have:s=0:=by omega
    subst this
    exact ⟨1,by rw [zkB (by omega),zkD,zkB (by omega),zkD,zbv,zao,c1];rfl,by omega,by omega⟩
   ·have:s=1:=by omega
    subst this
    exact ⟨2,by rw [zkB (by omega),zkD,zkA (by omega),zkC,zar (by omega),zbv,zao,c2];rfl,by omega,by omega⟩
  ·right
   rw [zkA (by omega),zkC]) (n:=fuel) (s:=0) (by omega) (by have:=zbg;omega)
 rw [key,zao];show (cond (decide (m.Inputs≠b.Inputs)) (some 15) (some 0):Option Int)=_;rw [zkA (fun h=>h c3),zkC]
theorem ztj (c1:zch m=0) (c2:zch b=0) (c3:m.Inputs=b.Inputs):∃ e,zh6 m b=some (e,0)∧(e=true↔Eqv m m.Start.toNat b b.Start.toNat):=by
 have T:Two m b:=⟨zd0 c1,zd0 c2,c3⟩;have h1:=T.a1.st;have h2:=T.b1.st;obtain ⟨⟨w,f⟩,h3,h4⟩:=zh4 T (p0:=(m.Start.toNat,b.Start.toNat)) (by simp only;omega) (by simp only;omega);refine ⟨!f,?_,?_⟩
 ·unfold zh6 zfh;simp only at h3;rw [show (↑m.Start.toNat:Int)=m.Start by omega,show (↑b.Start.toNat:Int)=b.Start by omega] at h3;rw [zth c1 c2 c3,zao,zkA (by decide),zkC,h3,zao,zao,zkB rfl,zkD,zao]
 ·cases f with
  | true =>
   refine ⟨fun h=>(by cases h),fun h=>absurd ?_ (fst_ne T (p0:=(m.Start.toNat,b.Start.toNat)) (by simp only;omega) (by simp only;omega) h4)⟩;exact h w (fst_word T (p0:=(m.Start.toNat,b.Start.toNat)) (by simp only;omega) (by simp only;omega) h4).1
  | false=>exact ⟨fun _=>fst_none h4,fun _=>rfl⟩
theorem max_above {l:List (List Int)} {N:Nat} (hN:∀ w∈l,w.length≤N):∀ (k:Nat) (w:List Int),w∈l→N-w.length≤k→∃ y∈maxR l,w <+: y:=by
 intro k
 induction k with
 | zero =>
  intro w hw hk;refine ⟨w,(zkt l w).2 ⟨hw,fun y hy=>?_⟩,List.prefix_refl _⟩;by_cases h:w <+: y
  ·have:=h.length_le;have:=hN y hy;exact Or.inl (h.eq_of_length (by omega)).symm
  ·exact Or.inr h
 | succ k ih =>
  intro w hw hk;by_cases h:∃ y∈l,y≠w∧w <+: y
  ·obtain ⟨y,h1,h2,h3⟩:=h;have hl:=h3.length_le;have hne:w.length≠y.length:=fun q=>h2 (h3.eq_of_length q).symm;obtain ⟨z,z1,z2⟩:=ih y h1 (by omega);exact ⟨z,z1,h3.trans z2⟩
  ·refine ⟨w,(zkt l w).2 ⟨hw,fun y hy=>?_⟩,List.prefix_refl _⟩;by_cases g:y=w
   ·exact Or.inl g
   ·exact Or.inr fun q=>h ⟨y,hy,g,q⟩
theorem outs_prefix {s t:Nat} {w y:List Int} (hp:w <+: y) (h:outs m s y=outs b t y):outs m s w=outs b t w:=by
 obtain ⟨v,rfl⟩:=hp;exact (zn8 h).1
def allW (i:Nat):Nat→List (List Int)
 | 0=>[[]]
 | k+1=>(List.range i).flatMap fun (a:Nat)=>(allW i k).map fun (w:List Int)=>Int.ofNat a::w
theorem mem_allW {i:Int}:∀ {w:List Int},WOk i w→w∈allW i.toNat w.length
 | [],_=>by simp [allW]
 | z::w,h=>by
  have hz:=h.head;refine List.mem_flatMap.2 ⟨z.toNat,List.mem_range.2 (by omega),List.mem_map.2 ⟨w,mem_allW h.tail,?_⟩⟩;have e:Int.ofNat z.toNat=z:=Int.toNat_of_nonneg hz.1;rw [e]
theorem upto_allW:∀ i∈[1,2,3,4],∀ n∈[1,2,3],∀ k∈List.range (n+1),((allW i k).all fun w=>decide (w∈zh1 (↑i:Int) (↑n:Int)))=true:=by decide +kernel
theorem upto_has {i n:Int} (h1:1≤i) (h2:i≤4) (h3:1≤n) (h4:n≤3) {w:List Int} (hw:WOk i w) (hl:(↑w.length:Int)≤n):w∈zh1 i n:=by
 have:=upto_allW i.toNat (by simp;omega) n.toNat (by simp;omega) w.length (List.mem_range.2 (by omega));have:=List.all_eq_true.1 this w (mem_allW hw);rw [Int.toNat_of_nonneg (by omega),Int.toNat_of_nonneg (by omega)] at this;exact of_decide_eq_true this
end
end
section
set_option maxRecDepth 100000
theorem zmu {α:Type} {l:List α} {i j:Nat} (h:i≤j):(l.take j).take i=l.take i:=by rw [List.take_take,Nat.min_eq_left h]
theorem zqp:∀ {u a b:List Int},u <+: a→u <+: b→u.length≤zbk a b
 | [],_,_,_,_=>Nat.zero_le _
 | x::u,a,b,⟨v,hv⟩,⟨w,hw⟩=>by
  subst hv;subst hw;have:=zqp (u:=u) (a:=u++v) (b:=u++w) ⟨v,rfl⟩ ⟨w,rfl⟩;show u.length+1≤zbk (x::(u++v)) (x::(u++w));simp only [zbk,if_true];omega
theorem agree_two {o:zaw} (hv:zj8 o) {a b:zab} (ha:a∈o.Traces) (hb:b∈o.Traces):Agree a b:=by
 obtain ⟨i,hi,rfl⟩:=List.getElem_of_mem ha;obtain ⟨j,hj,rfl⟩:=List.getElem_of_mem hb;rcases Nat.lt_trichotomy i j with h | h | h
 ·exact (hv.apart i j _ _ h (get_at hi) (get_at hj)).2
 ·subst h;unfold Agree;rfl
 ·exact (hv.apart j i _ _ h (get_at hj) (get_at hi)).2.symm
theorem agree_cut {a b:zab} {v:List Int} (h:Agree a b) (ha:v <+: a.In) (hb:v <+: b.In):a.Out.take v.length=b.Out.take v.length:=by
 have h2:=zqp ha hb;unfold Agree at h;rw [← zmu h2,h,zmu h2]
theorem ansO_at {o:zaw} (hv:zj8 o) {u:zab} {v:List Int} (hu:u∈o.Traces) (hp:v <+: u.In):ansO o v=some (u.Out.take v.length):=by
 unfold ansO;by_cases h0:v=[]
 ·subst h0;simp
 ·rw [if_neg h0];cases hb:o.Traces.find? fun t=>decide (v <+: t.In) with
  | none =>
   have:=List.find?_eq_none.1 hb u hu;simp [hp] at this
  | some b =>
   have hub:v <+: b.In:=by simpa using List.find?_some hb
   exact congrArg some (agree_cut (agree_two hv (List.mem_of_find?_eq_some hb) hu) hub hp)
theorem ansO_tr {o:zaw} {v r:List Int} (h:ansO o v=some r) (h0:v≠[]):∃ u∈o.Traces,v <+: u.In∧u.Out.take v.length=r:=by
 unfold ansO at h;rw [if_neg h0] at h;obtain ⟨a,ha,rfl⟩:=Option.map_eq_some_iff.1 h;exact ⟨a,List.mem_of_find?_eq_some ha,by simpa using List.find?_some ha,rfl⟩
theorem ansO_cut {o:zaw} (hv:zj8 o) {u w r:List Int} (h:ansO o w=some r) (hp:u <+: w):ansO o u=some (r.take u.length):=by
 by_cases h0:w=[]
 ·subst h0;have:u=[]:=by simpa using hp
  subst this;unfold ansO;simp
 ·obtain ⟨t,h1,h2,rfl⟩:=ansO_tr h h0;rw [ansO_at hv h1 (hp.trans h2),zmu hp.length_le]
theorem ans_keep {o:zaw} {t:zab} (hv:zj8 o) (h:(addO o t).2=0) {v x:List Int} (hx:ansO o v=some x):ansO (addO o t).1 v=some x:=by
 by_cases h0:v=[]
 ·subst h0;unfold ansO at hx ⊢;rw [if_pos rfl] at hx ⊢;exact hx
 obtain ⟨u,h1,h2,rfl⟩:=ansO_tr hx h0;have hv':zj8 (addO o t).1:=addO_ok hv;unfold addO at h hv' ⊢;by_cases g1:zpm t o.Inputs≠0
 ·rw [if_pos g1] at hv' ⊢;exact hx
 ·rw [if_neg g1] at h hv' ⊢;by_cases g2:zlx o.Traces t
  ·rw [if_pos g2] at h;cases h
  ·rw [if_neg g2] at h hv' ⊢;by_cases g3:10000<(addL o.Traces t).length
   ·rw [if_pos g3] at h;cases h
   ·rw [if_neg g3] at hv' ⊢;by_cases g4:zgv o.Traces t.In=true∨t.In=[]
    ·refine ansO_at hv' ?_ h2;show u∈addL o.Traces t;unfold addL;rw [if_pos g4];exact h1
    ·by_cases g5:u.In <+: t.In
     ·have hag:Agree u t:=Classical.byContradiction fun e=>g2 ⟨u,h1,e⟩
      rw [ansO_at hv' (u:=t) (by
       show t∈addL o.Traces t
       unfold addL
       rw [if_neg g4]
       exact zhu.2 (.inl rfl)) (h2.trans g5),agree_cut hag h2 (h2.trans g5)]
     ·refine ansO_at hv' ?_ h2;show u∈addL o.Traces t;unfold addL;rw [if_neg g4];refine zhu.2 (.inr (List.mem_filter.2 ⟨h1,?_⟩));rw [zkA g5];rfl
section
variable {q:zah} {w:List Int}
theorem askO_check (h:(askO q w).2.2=0):zby w q.Device.M.Inputs=0:=by
 refine Classical.byContradiction fun e=>?_;unfold askO at h;rw [if_pos e] at h;exact e h
theorem check_1024 (Q:OrOk q) (hw:zby w q.Device.M.Inputs=0):w.length≤1024:=by
 have i1:=Q.dev.mac.i1;have i2:=Q.dev.mac.i2;unfold zby at hw;rw [if_pos (by omega)] at hw;split at hw
 ·cases hw
 ·omega
theorem askO_ans (Q:OrOk q) (h:(askO q w).2.2=0):(askO q w).2.1.length=w.length∧ansO (askO q w).1.Obs w=some (askO q w).2.1∧∀ v x,ansO q.Obs v=some x→ansO (askO q w).1.Obs v=some x:=by
 have hw:=askO_check h;have hl:=check_1024 Q hw;unfold askO at h ⊢;rw [if_neg (by simpa using hw)] at h ⊢;cases ha:ansO q.Obs w with
 | some r=>exact ⟨ansO_len Q.obs ha,ha,fun _ _ h=>h⟩
 | none =>
  rw [ha] at h;have hk:q.Tries-0=(↑q.Tries.toNat:Int):=by have:=Q.v1;have:=Q.t1;omega
  obtain ⟨_,_,_,o4⟩:=zns Q hw hl q.Tries.toNat q.Device q.Asked [] 0 (znm Q) hk;simp only at h ⊢;unfold askR askE at h ⊢;generalize askL w q.Votes q.Tries.toNat q.Device q.Asked []=r at o4 h ⊢;obtain ⟨d',n',ys',res⟩:=r;simp only at o4 h ⊢;cases res with
  | none =>
   simp only at h;split at h<;>cases h
  | some out =>
   simp only at h ⊢;by_cases g:(addO q.Obs ⟨w,out⟩).2≠0
   ·rw [if_pos g] at h;exact absurd h g
   ·rw [if_neg g];have g:(addO q.Obs ⟨w,out⟩).2=0:=by simpa using g
    exact ⟨(o4 out rfl).1,ans_add Q.obs g,fun v x hx=>ans_keep Q.obs g hx⟩
end
def zj3 (l:List zab) (w:List Int):Bool:=l.any fun t=>decide (t.In <+: w)
def zpq (m:zaa) (r:zaf) (w out:List Int):zaf :=
 ⟨r.Run+1,if zbk (outS m w) out<w.length then r.Changes++[⟨w.take (zbk (outS m w) out+1),out.take (zbk (outS m w) out+1)⟩] else r.Changes⟩
def runL (m:zaa):zah→zaf→List (List Int)→zah×zaf×Int
 | q,r,[]=>(q,r,0)
 | q,r,w::ws=>if zj3 r.Changes w=true then runL m q r ws else if (askO q w).2.2≠0 then ((askO q w).1,⟨0,[]⟩,(askO q w).2.2) else runL m (askO q w).1 (zpq m r w (askO q w).2.1) ws
def runO (q:zah) (b:zco):zah×zaf×Int :=
 if zch b.M≠0 then (q,⟨0,[]⟩,zch b.M) else if 10000<b.Words.length then (q,⟨0,[]⟩,11) else
  match firstE b.M.Inputs b.Words with
  | some e=>(q,⟨0,[]⟩,e)
  | none=>if q.Obs.Inputs≠b.M.Inputs then (q,⟨0,[]⟩,15) else runL b.M q ⟨0,[]⟩ b.Words
def zpp (r:zaf) (n:Nat):Prop:=0≤r.Run∧r.Run≤(↑n:Int)∧r.Changes.length≤n
theorem zpp.note {m:zaa} {r:zaf} {n:Nat} {w out:List Int} (h:zpp r n):zpp (zpq m r w out) (n+1):=by
 obtain ⟨h1,h2,h3⟩:=h;unfold zpq;refine ⟨by simp only;omega,by simp only;omega,?_⟩;simp only;split
 ·simp only [zkJ,List.length_singleton];omega
 ·omega
theorem tcontains_eq {l:List zab} {f:zab→Option Bool} {p:zab→Bool} (hl:l.length≤100000000000000) (hf:∀ x∈l,f x=some (p x)) :
  zbj l f=some (l.any p):=by
 unfold zbj;rw [zre hl hf,zao];cases h:l.any p with
 | true=>rw [if_pos rfl,zkB (by omega)]
 | false=>rw [if_neg Bool.false_ne_true,zkA (by omega)]
theorem needed_eq {m:zaa} {r:zaf} {w:List Int} (hl:r.Changes.length≤1000000) (hw:SmW w) :
  zdb (⟨m,r⟩:zbb) w=some (!zj3 r.Changes w,(⟨m,r⟩:zbb)):=by
 unfold zdb
 rw [tcontains_eq (p:=fun t=>decide (t.In <+: w)) (by simp only;omega) fun x _=>by
  unfold zdg
  rw [zej _ _ hw,zao],zao]
 rfl
theorem cut_eq {l:List Int} {n:Int} (h1:1≤n) (h2:n≤(↑l.length:Int)) (hl:l.length≤100000):zg2 l n=some (l.take n.toNat):=by
 unfold zg2;rw [zar ⟨by omega,by omega,by unfold zbh;omega⟩,List.length_replicate,zar ⟨by omega,by omega⟩,List.drop_eq_nil_of_le (by rw [List.length_replicate];omega),List.append_nil]
theorem note_eq {m:zaa} {r:zaf} {w out:List Int} (hv:zch m=0) (hw:zby w m.Inputs=0) (ho:out.length=w.length) {n:Nat} (hr:zpp r n) (hn:n≤100000) :
  zdl (⟨m,r⟩:zbb) w out=some (0,(⟨m,zpq m r w out⟩:zbb)):=by
 obtain ⟨h1,h2,h3⟩:=hr;have hl:=zgz hw;have hol:(outS m w).length=w.length:=zfg _ _;have hc:=zks (outS m w) out;unfold zdl;simp only;rw [zpi hv hw,zao,zkA (fun h=>h rfl),zkC,zar (by unfold inR;omega)];simp only;rw [zg6 _ _ (by unfold SmW;omega),zao];unfold zpq;by_cases g:zbk (outS m w) out<w.length
 ·rw [zkB (by omega),zkD,zar (by unfold inR;omega),cut_eq (by omega) (by omega) (by omega),zao,zar (by unfold inR;omega),cut_eq (by omega) (by omega) (by omega),zao,zar (by unfold zbh;omega),zao,if_pos g];rfl
 ·rw [zkA (by omega),zkC,zao,if_neg g]
section
variable {σ ρ:Type} {tup:zah→zaf→Nat→σ} {fin:zah→zaf→ρ} {m:zaa} {L:List (List Int)}
def runF (fin:zah→zaf→ρ) (r:zah×zaf×Int):ρ⊕(zah×zaf×Int):=if r.2.2=0 then .inl (fin r.1 r.2.1) else .inr r
theorem run_iter {S2:σ→Option (σ⊕(ρ⊕(zah×zaf×Int)))}
  (h1:∀ (q:zah) (r:zaf) (i:Nat) (w:List Int),OrOk q→zpp r i→L[i]?=some w→S2 (tup q r i)=some (if zj3 r.Changes w=true then .inl (tup q r (i+1)) else if (askO q w).2.2≠0 then .inr (.inr ((askO q w).1,⟨0,[]⟩,(askO q w).2.2)) else .inl (tup (askO q w).1 (zpq m r w (askO q w).2.1) (i+1))))
  (h2:∀ q r,S2 (tup q r L.length)=some (.inr (.inl (fin q r)))) (hw:∀ w∈L,w.length≤100000) :
  ∀ (n i:Nat) (q:zah) (r:zaf),OrOk q→zpp r i→q.Obs.Traces.length+(L.length-i)≤900000→i≤L.length→L.length-i<n →
   iter S2 n (tup q r i)=some (runF fin (runL m q r (L.drop i)))∧OrOk (runL m q r (L.drop i)).1
 | 0,_,_,_,_,_,_,_,h=>absurd h (Nat.not_lt_zero _)
 | n+1,i,q,r,Q,R,hs,hi,hn=>by
  unfold iter;rcases Nat.lt_or_ge i L.length with h | h
  ·have hx:=get_at h;have R1:zpp r (i+1):=⟨R.1,by have:=R.2.1;omega,by have:=R.2.2;omega⟩;rw [h1 q r i _ Q R hx,List.drop_eq_getElem_cons h];obtain ⟨k1,k2,_⟩:=askO_ok (w:=L[i]) Q (by omega) (hw _ (List.getElem_mem h));unfold runL;by_cases g0:zj3 r.Changes L[i]=true
   ·rw [if_pos g0,if_pos g0];exact run_iter h1 h2 hw n (i+1) q r Q R1 (by omega) h (by omega)
   ·rw [if_neg g0,if_neg g0];by_cases g:(askO q L[i]).2.2≠0
    ·rw [if_pos g,if_pos g];unfold runF;rw [if_neg g];exact ⟨rfl,k1⟩
    ·rw [if_neg g,if_neg g];exact run_iter h1 h2 hw n (i+1) _ _ k1 R.note (by omega) h (by omega)
  ·have e:i=L.length:=by omega
   subst e;rw [h2,List.drop_length];exact ⟨rfl,Q⟩
end
abbrev tupG (m:zaa) (q:zah) (r:zaf) (i:Nat):=(q.Device.M.Inputs,q.Device.M.Start,q.Device.M.Next,q.Device.M.Out,q.Device.State,q.Device.Ready,q.Device.Latency.Step,q.Device.Latency.Reset,q.Device.Faults.Lost,q.Device.Faults.Wrong,q.Device.Faults.Crash,q.Device.Seed,q.Device.Steps,q.Device.Resets,q.Device.Time,q.Obs.Inputs,q.Obs.Traces,q.Votes,q.Tries,q.Asked,q.Hits,m.Inputs,m.Start,m.Next,m.Out,r.Run,r.Changes,i)
abbrev tupH (m:zaa) (q:zah) (r:zaf):=(q.Device.M.Inputs,q.Device.M.Start,q.Device.M.Next,q.Device.M.Out,q.Device.State,q.Device.Ready,q.Device.Latency.Step,q.Device.Latency.Reset,q.Device.Faults.Lost,q.Device.Faults.Wrong,q.Device.Faults.Crash,q.Device.Seed,q.Device.Steps,q.Device.Resets,q.Device.Time,q.Obs.Inputs,q.Obs.Traces,q.Votes,q.Tries,q.Asked,q.Hits,m.Inputs,m.Start,m.Next,m.Out,r.Run,r.Changes)
theorem or_eta (q':zah):(⟨⟨⟨q'.Device.M.Inputs,q'.Device.M.Start,q'.Device.M.Next,q'.Device.M.Out⟩,q'.Device.State,q'.Device.Ready,⟨q'.Device.Latency.Step,q'.Device.Latency.Reset⟩,⟨q'.Device.Faults.Lost,q'.Device.Faults.Wrong,q'.Device.Faults.Crash⟩,q'.Device.Seed,q'.Device.Steps,q'.Device.Resets,q'.Device.Time⟩,⟨q'.Obs.Inputs,q'.Obs.Traces⟩,q'.Votes,q'.Tries,q'.Asked,q'.Hits⟩:zah)=q':=rfl
theorem zs9 {q:zah} {b:zco} (Q:OrOk q) (hl:b.Words.length≤10000→q.Obs.Traces.length+b.Words.length≤900000) (hs:SmL b.Words):za9 q b=some (runO q b)∧OrOk (runO q b).1:=by
 have hf:=zbg;have hsl:=hs.1;unfold za9 runO;rw [zbv,zao];by_cases c1:zch b.M=0
 ·rw [zkA (fun h=>h c1),zkC,if_neg (fun h=>h c1)];by_cases c2:10000<b.Words.length
  ·rw [zkB (by omega),zkD,if_pos c2];exact ⟨rfl,Q⟩
  rw [zkA (by omega),zkC,if_neg c2];have hlt:=hl (by omega)
  have key1:=zfq (step:=fun s=>za9.s2 q b s) (l:=b.Words) (fun _ w=>if zby w b.M.Inputs≠0 then some (q,(⟨0,[]⟩:zaf),zby w b.M.Inputs) else none) (fun i x hx=>by
   simp only [za9.s2]
   rw [zfl hx,zkD,zau hx,zgg _ _ (hs.2 x (zkH hx)),zao]
   by_cases g:zby x b.M.Inputs≠0
   ·rw [if_pos g,zkB g]
    rfl
   ·rw [if_neg g,zkA g]
    rfl) (by
   simp only [za9.s2]
   rw [zfd]
   rfl) (by omega)
  have hsc:∀ (l:List (List Int)) (j:Nat),scan (fun _ w=>if zby w b.M.Inputs≠0 then some (q,(⟨0,[]⟩:zaf),zby w b.M.Inputs) else none) j l=(scan (fun _ w=>if zby w b.M.Inputs≠0 then some (zby w b.M.Inputs) else none) j l).map fun e=>(q,(⟨0,[]⟩:zaf),e):=by
   intro l
   induction l with
   | nil=>intro j;rfl
   | cons x l ih =>
    intro j;unfold scan;by_cases g:zby x b.M.Inputs≠0
    ·rw [if_pos g,if_pos g];rfl
    ·rw [if_neg g,if_neg g];exact ih _
  rw [key1,hsc];unfold firstE;cases hE:scan (fun _ w=>if zby w b.M.Inputs≠0 then some (zby w b.M.Inputs) else none) 0 b.Words with
  | some e=>exact ⟨rfl,Q⟩
  | none =>
   have hc:∀ w∈b.Words,zby w b.M.Inputs=0:=fun w hw=>firstE_none hE w hw;simp only [Option.map_none,zao,Sum.elim_inl];by_cases c3:q.Obs.Inputs=b.M.Inputs
   ·rw [zkA (fun h=>h c3),zkC,if_neg (fun h=>h c3)]
    have A:=run_iter (tup:=tupG b.M) (fin:=tupH b.M) (m:=b.M) (L:=b.Words) (S2:=fun s=>za9.s22 b s.1 s.2.1 s.2.2.1 s.2.2.2.1 s.2.2.2.2.1 s.2.2.2.2.2.1 s.2.2.2.2.2.2.1 s.2.2.2.2.2.2.2.1 s.2.2.2.2.2.2.2.2.1 s.2.2.2.2.2.2.2.2.2.1 s.2.2.2.2.2.2.2.2.2.2.1 s.2.2.2.2.2.2.2.2.2.2.2.1 s.2.2.2.2.2.2.2.2.2.2.2.2.1 s.2.2.2.2.2.2.2.2.2.2.2.2.2.1 s.2.2.2.2.2.2.2.2.2.2.2.2.2.2.1 s.2.2.2.2.2.2.2.2.2.2.2.2.2.2.2.1 s.2.2.2.2.2.2.2.2.2.2.2.2.2.2.2.2.1 s.2.2.2.2.2.2.2.2.2.2.2.2.2.2.2.2.2.1 s.2.2.2.2.2.2.2.2.2.2.2.2.2.2.2.2.2.2.1 s.2.2.2.2.2.2.2.2.2.2.2.2.2.2.2.2.2.2.2.1 s.2.2.2.2.2.2.2.2.2.2.2.2.2.2.2.2.2.2.2.2.1 s.2.2.2.2.2.2.2.2.2.2.2.2.2.2.2.2.2.2.2.2.2.1 s.2.2.2.2.2.2.2.2.2.2.2.2.2.2.2.2.2.2.2.2.2.2.1 s.2.2.2.2.2.2.2.2.2.2.2.2.2.2.2.2.2.2.2.2.2.2.2.1 s.2.2.2.2.2.2.2.2.2.2.2.2.2.2.2.2.2.2.2.2.2.2.2.2.1 s.2.2.2.2.2.2.2.2.2.2.2.2.2.2.2.2.2.2.2.2.2.2.2.2.2.1 s.2.2.2.2.2.2.2.2.2.2.2.2.2.2.2.2.2.2.2.2.2.2.2.2.2.2.1 s.2.2.2.2.2.2.2.2.2.2.2.2.2.2.2.2.2.2.2.2.2.2.2.2.2.2.2) (fun q' r i w Q' R hx=>by
     have hm:=zkH hx
     have hcw:=hc w hm
     have hwl:=zgz hcw
     have hin:i<b.Words.length:=(zkI.1 hx).1
     have r3:=R.2.2
     show za9.s22 b _ _ _ _ _ _ _ _ _ _ _ _ _ _ _ _ _ _ _ _ _ _ _ _ _ _ _ _=_
     unfold za9.s22
     simp only
     rw [or_eta,zfl hx,zkD,zau hx,needed_eq (by simp only;omega) (hs.2 w hm),zao]
     simp only
     by_cases g0:zj3 r.Changes w=true
     ·rw [g0,if_pos rfl]
      rfl
     ·rw [if_neg g0,Bool.not_eq_true _ |>.mp g0,Bool.not_false,Bool.not_true,zkC,Ask_p Q' (by omega),zao]
      by_cases g:(askO q' w).2.2≠0
      ·rw [if_pos g,zkA g,zkC,zao]
       simp only
       unfold za9.k20
       rw [zkB g]
       rfl
      ·have g':(askO q' w).2.2=0:=by simpa using g
       obtain ⟨a1,_,_⟩:=askO_ans Q' g'
       rw [if_neg g,zkB g',zkD,note_eq c1 hcw a1 R (by omega),zao,zao]
       rfl) (fun q' r=>by
     show za9.s22 b _ _ _ _ _ _ _ _ _ _ _ _ _ _ _ _ _ _ _ _ _ _ _ _ _ _ _ _=_
     unfold za9.s22
     rw [zfd,zkC]) (fun w hw=>by have:=zgz (hc w hw);omega) fuel 0 q ⟨0,[]⟩ Q ⟨by simp,by simp,by simp⟩ (by omega) (Nat.zero_le _) (by omega)
    rw [List.drop_zero] at A;refine ⟨(congrArg (fun z=>Option.bind z _) A.1).trans ?_,A.2⟩;rw [zao];unfold runF;generalize runL b.M q ⟨0,[]⟩ b.Words=x;obtain ⟨x1,x2,x3⟩:=x;by_cases g:x3=0
    ·rw [if_pos g,g];rfl
    ·rw [if_neg g];rfl
   ·rw [zkB c3,zkD,if_pos c3];exact ⟨rfl,Q⟩
 ·rw [zkB c1,zkD,if_pos c1];exact ⟨rfl,Q⟩
end
section
set_option maxRecDepth 100000
theorem awake50_true:zg9=some true:=by decide +kernel
end
section
set_option maxRecDepth 100000
theorem zif:∀ (a b:List Int),a.take (zbk a b)=b.take (zbk a b)
 | [],b=>by simp [zbk]
 | x::a,[]=>by simp [zbk]
 | x::a,y::b=>by
  unfold zbk;by_cases h:x=y
  ·rw [if_pos h,h,List.take_succ_cons,List.take_succ_cons,zif a b]
  ·rw [if_neg h];rfl
theorem commonR_off {a b:List Int} (ha:zbk a b<a.length) (hb:zbk a b<b.length):a[zbk a b]≠b[zbk a b]:=fun e=>by
 have h:a.take (zbk a b+1)=b.take (zbk a b+1):=by
  rw [List.take_succ,List.take_succ,zif,get_at ha,get_at hb,e]
 have:=zqp (u:=a.take (zbk a b+1)) (a:=a) (b:=b) (List.take_prefix _ _) (by rw [h];exact List.take_prefix _ _);rw [List.length_take] at this;omega
theorem zto {m:zaa}:∀ (w:List Int) (s k:Nat),outs m s (w.take k)=(outs m s w).take k
 | [],_,_=>by simp [outs]
 | a::w,s,0=>by simp [outs]
 | a::w,s,k+1=>by
  show ot m s a.toNat::outs m (nx m s a.toNat) (w.take k)=(ot m s a.toNat::outs m (nx m s a.toNat) w).take (k+1);rw [zto w,List.take_succ_cons]
theorem zi7 {m:zaa} {w:List Int} {k:Nat}:outS m (w.take k)=(outS m w).take k:=zto w _ k
structure ChgOk (m:zaa) (o:zaw) (c:zab):Prop where
 ck:zby c.In m.Inputs=0
 ne:c.In≠[]
 ans:ansO o c.In=some c.Out
 len:c.Out.length=c.In.length
 same:c.Out.take (c.In.length-1)=(outS m c.In).take (c.In.length-1)
 last:c.Out[c.In.length-1]?≠(outS m c.In)[c.In.length-1]?
structure zkr (m:zaa) (o:zaw) (r:zaf) (n:Nat):Prop where
 all:∀ c∈r.Changes,ChgOk m o c
 ord:r.Changes.Pairwise fun c d=>¬ c.In <+: d.In
 cnt:(↑r.Changes.length:Int)≤r.Run
 run:r.Run≤(↑n:Int)
theorem zkr.keep {m:zaa} {o o':zaw} {r:zaf} {n:Nat} (h:zkr m o r n) (hk:∀ v x,ansO o v=some x→ansO o' v=some x):zkr m o' r n :=
 ⟨fun c hc=>have H:=h.all c hc;⟨H.ck,H.ne,hk _ _ H.ans,H.len,H.same,H.last⟩,h.ord,h.cnt,h.run⟩
theorem zkr.note {m:zaa} {o:zaw} {r:zaf} {n:Nat} {w out:List Int} (h:zkr m o r n) (hm:1≤m.Inputs∧m.Inputs≤1024) (hv:zj8 o) (hw:zby w m.Inputs=0) (hn:zj3 r.Changes w=false) (ha:ansO o w=some out) (hl:out.length=w.length):zkr m o (zpq m r w out) (n+1):=by
 have hyl:(outS m w).length=w.length:=zfg _ _;unfold zpq;by_cases g:zbk (outS m w) out<w.length
 ·rw [if_pos g];have hc:=h.cnt;have hr:=h.run;have hil:(w.take (zbk (outS m w) out+1)).length=zbk (outS m w) out+1:=by rw [List.length_take];omega
  have hpre:w.take (zbk (outS m w) out+1) <+: w:=List.take_prefix _ _;refine ⟨fun c hc=>?_,?_,by simp only [zkJ,List.length_singleton];omega,by simp only;omega⟩
  ·rcases List.mem_append.1 hc with hc | hc
   ·exact h.all c hc
   ·rw [List.mem_singleton] at hc;subst hc;refine ⟨check_pre hpre hw hm,fun e=>?_,?_,?_,?_,?_⟩
    ·simp only at e;rw [e] at hil;simp at hil
    ·have:=ansO_cut hv ha hpre;rw [hil] at this;exact this
    ·simp only;rw [List.length_take,hil];omega
    ·simp only;rw [hil,Nat.add_sub_cancel,zi7,zmu (Nat.le_succ _),zmu (Nat.le_succ _)];exact (zif _ _).symm
    ·simp only;rw [hil,Nat.add_sub_cancel,zi7,List.getElem?_take,if_pos (Nat.lt_succ_self _),List.getElem?_take,if_pos (Nat.lt_succ_self _),get_at (l:=out) (by omega),get_at (l:=outS m w) (by omega)];exact fun e=>commonR_off (by omega) (by omega) (Option.some.inj e).symm
  ·refine List.pairwise_append.2 ⟨h.ord,List.pairwise_singleton _ _,fun c hc d hd=>?_⟩;rw [List.mem_singleton] at hd;subst hd;intro hp;have:zj3 r.Changes w=true:=List.any_eq_true.2 ⟨c,hc,zkB (hp.trans hpre)⟩;rw [hn] at this;cases this
 ·rw [if_neg g];have hc:=h.cnt;have hr:=h.run;exact ⟨h.all,h.ord,by simp only;omega,by simp only;omega⟩
theorem zkr.apart {m:zaa} {o:zaw} {r:zaf} {n:Nat} (h:zkr m o r n) (hv:zj8 o) {i k:Nat} {c d:zab} (hk:k<i) (hc:r.Changes[k]?=some c) (hd:r.Changes[i]?=some d):¬ c.In <+: d.In∧¬ d.In <+: c.In:=by
 have h1:¬ c.In <+: d.In:=by
  obtain ⟨k1,rfl⟩:=zkI.1 hc;obtain ⟨i1,rfl⟩:=zkI.1 hd;exact List.pairwise_iff_getElem.1 h.ord k i k1 i1 hk
 refine ⟨h1,fun hp=>?_⟩;have C:=h.all c (zkH hc);have D:=h.all d (zkH hd);have hle:=hp.length_le;have hdn:0<d.In.length:=List.length_pos_iff.2 D.ne
 have hlt:d.In.length<c.In.length:=by
  rcases Nat.lt_or_ge d.In.length c.In.length with e | e
  ·exact e
  ·have:d.In=c.In:=hp.eq_of_length (by omega);exact absurd (by rw [this];exact List.prefix_refl _) h1
 have e1:=ansO_cut hv C.ans hp;rw [D.ans] at e1;have e1:=Option.some.inj e1;have e2:d.In=c.In.take d.In.length:=(List.prefix_iff_eq_take.1 hp);apply D.last
 have e3:c.Out.take d.In.length=(outS m c.In).take d.In.length:=by
  have:=congrArg (List.take d.In.length) C.same
  rwa [zmu (by omega),zmu (by omega)] at this
 have e4:outS m d.In=(outS m c.In).take d.In.length:=by
  conv=>lhs;rw [e2]
  exact zi7
 rw [e4,← e3,← e1]
end
section
set_option maxRecDepth 100000
theorem zqu {l:zbf} (hl:l.Step.length≤100000000):zfa l=some (if costOk l then 0 else 2):=by
 by_cases h:costOk l
 ·rw [if_pos h];exact zkl hl h
 ·rw [if_neg h];unfold zfa zed;rw [zdc,zao,zao];by_cases h1:l.Reset<0∨1048576<l.Reset
  ·rw [zkB h1,zkD,zao,zkD]
  ·rw [zkA h1,zkC,zql (p:=fun n=>decide (n<0∨1048576<n)) (by omega) fun x _=>by rw [zdc,zao],zao]
   have:(l.Step.any fun n=>decide (n<0∨1048576<n))=true:=by
    refine Classical.byContradiction fun e=>h ⟨fun c hc=>?_,by omega,by omega⟩;have:=List.any_eq_false.1 (Bool.not_eq_true _ |>.mp e) c hc
    simp only [decide_eq_true_eq] at this;omega
   rw [this,zao,zkD]
theorem zoj {d:zae} (hf:d.Faults.Lost=0∧d.Faults.Wrong=0∧d.Faults.Crash=0) (hl:d.Latency.Step.length≤100000000):∃ e,zeo d=some e∧(e=0→zgo d):=by
 obtain ⟨f1,f2,f3⟩:=hf;unfold zeo;rw [zbv,zao];by_cases c1:zch d.M=0
 ·rw [zkA (fun h=>h c1),zkC];simp only [zdc,zao];by_cases g1:d.State<0∨(↑d.M.Next.length:Int)-1<d.State
  ·exact ⟨2,by rw [zkB g1];rfl,fun h=>by cases h⟩
  rw [zkA g1,zkC];by_cases g2:(↑d.Latency.Step.length:Int)=d.M.Inputs
  ·rw [zkA (fun h=>h g2),zkC,zqu hl,zao];by_cases g3:costOk d.Latency
   ·rw [if_pos g3,zkA (by decide),zkC,zkA (by omega),zkC,zkA (by omega),zkC,zkA (by omega),zkC,zar (by unfold inR;omega),zar (by unfold inR;omega),zkA (by omega),zkC,zk7,zao];simp only;by_cases g4:zfp d.Steps∧zfp d.Resets∧zfp d.Time
    ·exact ⟨0,by rw [zkB g4];rfl,fun _=>⟨by rw [zph,c1],by omega,g2,g3,by unfold faultOk;omega,g4.1,g4.2.1,g4.2.2⟩⟩
    ·exact ⟨2,by rw [zkA g4];rfl,fun h=>by cases h⟩
   ·exact ⟨2,by rw [if_neg g3,zkB (by decide),zkD],fun h=>by cases h⟩
  ·exact ⟨1,by rw [zkB g2,zkD],fun h=>by cases h⟩
 ·exact ⟨_,by rw [zkB c1,zkD],fun h=>absurd h c1⟩
theorem zr1 {d:zae} (hf:d.Faults.Lost=0∧d.Faults.Wrong=0∧d.Faults.Crash=0) (hl:d.Latency.Step.length≤100000000):∃ q e,zjh d 1 1=some (q,e)∧(e=0→zgo d∧q=⟨d,⟨d.M.Inputs,[]⟩,1,1,0,0⟩):=by
 obtain ⟨e,h,hz⟩:=zoj hf hl;unfold zjh;rw [h,zao];by_cases g:e=0
 ·have H:=hz g;have i1:=H.mac.i1;have i2:=H.mac.i2;rw [zkA (fun q=>q g),zkC];simp only [show decide ((1:Int)<1)=false from rfl,show decide ((9:Int)<1)=false from rfl,show decide ((64:Int)<1)=false from rfl,zkC,zao];unfold zjn;rw [zkA (by omega),zkC,zkA (by omega),zao,zkC,zao,zkA (fun q=>q rfl),zkC,zj6 H ⟨by simp,fun t ht=>by cases ht⟩,zao];exact ⟨_,_,rfl,fun _=>⟨H,rfl⟩⟩
 ·rw [zkB g,zkD];exact ⟨_,_,rfl,fun q=>absurd q g⟩
structure Free (M:zaa) (d:zae) (n:Nat):Prop where
 ok:zgo d
 seed:zhn d
 mac:d.M=M
 fl:d.Faults.Lost=0∧d.Faults.Wrong=0∧d.Faults.Crash=0
 s:d.Steps+↑n≤1125899906842624
 r:d.Resets+↑n≤1125899906842624
 t:d.Time+↑n*1048576≤1125899906842624
theorem stepF {M:zaa} {d:zae} {n:Nat} {a:Int} (F:Free M d (n+1)) (hr:d.Ready=true) (ha:0≤a∧a<M.Inputs) :
  (zde d a).2=(ot M d.State.toNat a.toNat,0)∧(zde d a).1.Ready=true∧(zde d a).1.State.toNat=nx M d.State.toNat a.toNat∧Free M (zde d a).1 n:=by
 obtain ⟨H,S,rfl,⟨f1,f2,f3⟩,hs,hr',ht⟩:=F;obtain ⟨k1,k2,k3,k4⟩:=stepD_ok H S ha
 have hc:0≤costD d a∧costD d a≤1048576:=by
  unfold costD;cases hx:d.Latency.Step[a.toNat]? with
  | none=>simp
  | some c=>exact H.lc.1 c (zkH hx)
 have c1:=H.c1;have c2:=H.c2;have c3:=H.c3;have hpos:zfp (d.Steps+1)∧zfp (d.Time+costD d a):=by unfold zfp;omega
 unfold zde at k1 k2 ⊢;rw [if_neg (by rw [hr];exact Bool.noConfusion),if_pos hpos] at k1 k2 ⊢;refine ⟨?_,?_,rfl,⟨k1,k2,rfl,⟨f1,f2,f3⟩,by simp only;omega,by simp only;omega,by simp only;omega⟩⟩
 ·simp only;unfold outD;rw [f1,f2,if_neg (by omega),if_neg (by omega)]
 ·simp only;unfold readyD;rw [f1,f2,f3,if_neg (by omega),if_neg (by omega)];exact hr
theorem qryF {M:zaa}:∀ (w ys:List Int) (d:zae) (n:Nat),Free M d (w.length+n)→d.Ready=true→WOk M.Inputs w→∃ d',qryD d ys w=(d',ys++outs M d.State.toNat w,0)∧Free M d' n
 | [],ys,d,n,F,_,_=>⟨d,by unfold qryD;simp [outs],by simpa using F⟩
 | a::w,ys,d,n,F,hr,hw=>by
  have ha:=hw a (by simp)
  have F':Free M d (w.length+n+1):=by
   have:(a::w).length+n=w.length+n+1:=by simp only [zkL];omega
   rwa [this] at F
  obtain ⟨e1,e2,e3,e4⟩:=stepF F' hr ha;have H:=F.ok.mac;rw [F.mac] at H;have st:=F.ok.st;rw [F.mac] at st;obtain ⟨_,o2,_,_⟩:=H.at (s:=d.State.toNat) (a:=a.toNat) (by omega) (by omega);obtain ⟨d',g1,g2⟩:=qryF w (ys++[ot M d.State.toNat a.toNat]) (zde d a).1 n e4 e2 fun x hx=>hw x (by simp [hx]);refine ⟨d',?_,g2⟩;unfold qryD;rw [e1];simp only
  have hneg:¬ (ot M d.State.toNat a.toNat<0∨((zde d a).1.Ready=false∧w≠[])):=by
   rw [e2];intro h;rcases h with h | h
   ·omega
   ·exact Bool.noConfusion h.1
  rw [if_neg (fun h=>h rfl),if_neg hneg,g1,e3];show (d',ys++[ot M d.State.toNat a.toNat]++outs M (nx M d.State.toNat a.toNat) w,(0:Int))=(d',ys++(ot M d.State.toNat a.toNat::outs M (nx M d.State.toNat a.toNat) w),0);rw [List.append_assoc];rfl
theorem queryF {M:zaa} {d:zae} {w:List Int} {n:Nat} (F:Free M d (1+(w.length+n))) (hw:WOk M.Inputs w):∃ d',zcg d w=(d',outS M w,0)∧Free M d' n:=by
 have k1:=zrh F.ok;obtain ⟨H,S,rfl,fl,hs,hr',ht⟩:=F;have c2:=H.c2;have c3:=H.c3;have lr:=H.lc.2;have hpos:zfp (d.Resets+1)∧zfp (d.Time+d.Latency.Reset):=by unfold zfp;omega
 unfold zcg;unfold zgd at k1 ⊢;rw [if_pos hpos] at k1 ⊢;simp only at k1 ⊢;rw [if_neg (fun h=>h rfl)];have F1:Free d.M (⟨d.M,d.M.Start,true,d.Latency,d.Faults,d.Seed,d.Steps,d.Resets+1,d.Time+d.Latency.Reset⟩:zae) (w.length+n):=⟨k1,S,rfl,fl,by simp only;omega,by simp only;omega,by simp only;omega⟩;obtain ⟨d',e1,e2⟩:=qryF w [] _ n F1 rfl hw;exact ⟨d',e1,e2⟩
structure FreeQ (M:zaa) (q:zah) (n:Nat):Prop where
 ok:OrOk q
 dev:Free M q.Device (n*1025)
 v:q.Votes=1
 t:q.Tries=1
 ex:∀ t∈q.Obs.Traces,t.Out=outS M t.In
 num:q.Obs.Traces.length+n≤10000
theorem Free.less {M:zaa} {d:zae} {n k:Nat} (h:Free M d n) (hk:k≤n):Free M d k :=
 ⟨h.ok,h.seed,h.mac,h.fl,by have:=h.s;omega,by have:=h.r;omega,by have:=h.t;omega⟩
theorem addO_free {M:zaa} {o:zaw} {w:List Int} (hi:o.Inputs=M.Inputs) (hw:zby w M.Inputs=0) (hr:∀ y∈outS M w,0≤y∧y≤1048576) (hex:∀ t∈o.Traces,t.Out=outS M t.In) (hn:o.Traces.length<10000) :
  (addO o ⟨w,outS M w⟩).2=0∧∀ t∈(addO o ⟨w,outS M w⟩).1.Traces,t.Out=outS M t.In:=by
 have hl:=zq6 o.Traces ⟨w,outS M w⟩;unfold addO
 rw [if_neg (by
  rw [Classical.not_not]
  exact zla.2 ⟨by rw [hi];exact hw,zfg _ _,hr⟩),if_neg (by
  rintro ⟨u,hu,hne⟩
  apply hne
  unfold Agree
  rw [hex u hu]
  simp only
  rw [← zi7,← zi7,zif]),if_neg (by omega)]
 refine ⟨rfl,fun t ht=>?_⟩;have ht:t∈addL o.Traces ⟨w,outS M w⟩:=ht;unfold addL at ht;split at ht
 ·exact hex t ht
 ·rcases zhu.1 ht with e | e
  ·rw [e]
  ·exact hex t (List.filter_sublist.subset e)
theorem askFree {M:zaa} {q:zah} {w:List Int} {n:Nat} (F:FreeQ M q (n+1)) (hw:zby w M.Inputs=0):(askO q w).2=(outS M w,0)∧FreeQ M (askO q w).1 n:=by
 have hwl:=zgz hw;have hm:=F.dev.mac;have hnum:=F.num;obtain ⟨K,_,_⟩:=askO_ok (w:=w) F.ok (by omega) (by omega);have hi:q.Obs.Inputs=M.Inputs:=by rw [F.ok.inp,hm]
 unfold askO at K ⊢;rw [if_neg (by rw [hm];exact fun h=>h hw)] at K ⊢;cases ha:ansO q.Obs w with
 | some r =>
  rw [ha] at K;simp only at K ⊢;refine ⟨?_,K,F.dev.less (by omega),F.v,F.t,F.ex,by simp only;omega⟩
  have:r=outS M w:=by
   by_cases h0:w=[]
   ·subst h0;unfold ansO at ha;rw [if_pos rfl] at ha;exact (Option.some.inj ha).symm
   ·obtain ⟨u,u1,u2,rfl⟩:=ansO_tr ha h0;rw [F.ex u u1,← zi7,← List.prefix_iff_eq_take.1 u2]
  rw [this]
 | none =>
  rw [ha] at K;simp only at K ⊢;have hD:=F.dev;have F1:Free M q.Device (1+(w.length+n*1025)):=hD.less (by omega);obtain ⟨d',e1,e2⟩:=queryF F1 (zm1 hw);have hQ:=(zrw (w:=w) hD.ok hD.seed (by rw [hm];exact hw)).2.2.2;rw [e1] at hQ;obtain ⟨_,hrng⟩:=hQ rfl
  have hk:askR q w=(d',mdI (q.Asked+1),[outS M w],some (outS M w)):=by
   unfold askR;rw [F.v,F.t];show askL w 1 1 q.Device q.Asked []=_;unfold askL;rw [e1];simp only;rw [if_neg (fun h=>h rfl),if_neg (by simp)];rfl
  obtain ⟨g1,g2⟩:=addO_free (o:=q.Obs) hi hw hrng F.ex (by omega);rw [hk] at K ⊢;unfold askE at K ⊢;simp only at K ⊢;rw [if_neg (fun h=>h g1)] at K ⊢;refine ⟨rfl,K,e2,F.v,F.t,g2,?_⟩;have:=addO_len (o:=q.Obs) (t:=⟨w,outS M w⟩);simp only;omega
def cmpL (m b:zaa):zaf→List (List Int)→zaf
 | r,[]=>r
 | r,w::ws=>cmpL m b (if zj3 r.Changes w=true then r else zpq m r w (outS b w)) ws
theorem run_free {m b:zaa}:∀ (ws:List (List Int)) (q:zah) (r:zaf),FreeQ b q ws.length→(∀ w∈ws,zby w b.Inputs=0)→∃ q',runL m q r ws=(q',cmpL m b r ws,0)
 | [],q,r,_,_=>⟨q,rfl⟩
 | w::ws,q,r,F,hc=>by
  have F:FreeQ b q (ws.length+1):=F;unfold runL cmpL;by_cases g:zj3 r.Changes w=true
  ·rw [if_pos g,if_pos g];exact run_free ws q r ⟨F.ok,F.dev.less (by omega),F.v,F.t,F.ex,by have:=F.num;omega⟩ fun v hv=>hc v (by simp [hv])
  ·rw [if_neg g,if_neg g];obtain ⟨e1,e2⟩:=askFree F (hc w (by simp));rw [e1,if_neg (fun h=>h rfl)];exact run_free ws _ _ e2 fun v hv=>hc v (by simp [hv])
section
variable {σ ρ:Type} {tup:zaf→Nat→σ} {fin:zaf→ρ} {m b:zaa} {L:List (List Int)}
theorem cmp_iter {S2:σ→Option (σ⊕ρ)}
  (h1:∀ (r:zaf) (i:Nat) (w:List Int),zpp r i→L[i]?=some w→S2 (tup r i)=some (.inl (tup (if zj3 r.Changes w=true then r else zpq m r w (outS b w)) (i+1))))
  (h2:∀ r,S2 (tup r L.length)=some (.inr (fin r))) :
  ∀ (n i:Nat) (r:zaf),zpp r i→i≤L.length→L.length-i<n→iter S2 n (tup r i)=some (fin (cmpL m b r (L.drop i)))
 | 0,_,_,_,_,h=>absurd h (Nat.not_lt_zero _)
 | n+1,i,r,R,hi,hn=>by
  unfold iter;rcases Nat.lt_or_ge i L.length with h | h
  ·have hx:=get_at h;have R1:zpp r (i+1):=⟨R.1,by have:=R.2.1;omega,by have:=R.2.2;omega⟩;rw [h1 r i _ R hx,List.drop_eq_getElem_cons h];unfold cmpL;refine cmp_iter h1 h2 n (i+1) _ ?_ h (by omega);split
   ·exact R1
   ·exact R.note
  ·have e:i=L.length:=by omega
   subst e;rw [h2,List.drop_length];rfl
end
theorem cmpL_rep {m b:zaa}:∀ (ws:List (List Int)) (r:zaf) (n:Nat),zpp r n→(∀ w∈ws,w.length≤1024)→(∀ c∈r.Changes,SmX c)→zpp (cmpL m b r ws) (n+ws.length)∧∀ c∈(cmpL m b r ws).Changes,SmX c
 | [],r,n,R,_,hc=>⟨R,hc⟩
 | w::ws,r,n,R,hw,hc=>by
  have hwl:=hw w (by simp);unfold cmpL;rw [zkL,show n+(ws.length+1)=n+1+ws.length by omega];refine cmpL_rep ws _ (n+1) ?_ (fun v hv=>hw v (by simp [hv])) ?_
  ·split
   ·exact ⟨R.1,by have:=R.2.1;omega,by have:=R.2.2;omega⟩
   ·exact R.note
  ·split
   ·exact hc
   ·unfold zpq;simp only;split
    ·intro c h;rcases List.mem_append.1 h with h | h
     ·exact hc c h
     ·rw [List.mem_singleton] at h;rw [h];have hbl:(outS b w).length=w.length:=zfg _ _;refine ⟨?_,?_⟩<;>(unfold SmW;simp only [List.length_take];omega)
    ·exact hc
theorem cmpL_nil {m b:zaa}:∀ (ws:List (List Int)) (r:zaf),(cmpL m b r ws).Changes=[]↔r.Changes=[]∧∀ w∈ws,outS m w=outS b w
 | [],r=>by simp [cmpL]
 | w::ws,r=>by
  unfold cmpL;rw [cmpL_nil ws];have h1:(outS m w).length=w.length:=zfg _ _;have h2:(outS b w).length=w.length:=zfg _ _;by_cases g:zj3 r.Changes w=true
  ·rw [if_pos g];constructor
   ·rintro ⟨e,_⟩;rw [e] at g;cases g
   ·rintro ⟨e,_⟩;rw [e] at g;cases g
  ·rw [if_neg g];unfold zpq;simp only;by_cases e:outS m w=outS b w
   ·rw [e,zmf,if_neg (by omega)];simp [e]
   ·have:=common_ne (h1.trans h2.symm) e;rw [if_pos (by omega)];simp [e]
end
section
set_option maxRecDepth 100000
section
variable {m b M:zaa}
noncomputable def tlS (M:zaa) (s:Nat):List (List Int):=if (((idsM M)[s]?).getD []).length=0 then [[]] else ((idsM M)[s]?).getD []
theorem tlS_eq (w:List Int):zo4 M (idsM M) w=tlS M (dest M M.Start.toNat w):=rfl
theorem ids_at {s:Nat} (hs:s<M.Next.length):(idsM M)[s]?=some (sortW (idL M s M.Next.length)):=by
 unfold idsM;rw [List.getElem?_map,List.getElem?_range hs];rfl
theorem tlS_mem {s:Nat} {x:List Int} (hx:x∈tlS M s):x=[]∨∃ v,s<M.Next.length∧v<M.Next.length∧x=sepW M s v:=by
 unfold tlS at hx;split at hx
 ·exact Or.inl (by simpa using hx)
 ·by_cases hs:s<M.Next.length
  ·rw [ids_at hs,Option.getD_some] at hx;obtain ⟨v,v1,_,rfl⟩:=idL_mem ((zhb _ _).1 hx);exact Or.inr ⟨v,hs,v1,rfl⟩
  ·rw [List.getElem?_eq_none (by simp [idsM];omega)] at hx;cases hx
theorem tlS_sep {s t:Nat} (hs:s<M.Next.length) (ht:t<M.Next.length) (hne:s≠t):sepW M s t∈tlS M s:=by
 have hw:sepW M s t∈sortW (idL M s M.Next.length):=(zhb _ _).2 (List.mem_map.2 ⟨t,List.mem_filter.2 ⟨List.mem_range.2 ht,zkB (fun q=>hne q.symm)⟩,rfl⟩);unfold tlS;rw [ids_at hs,Option.getD_some,if_neg (by have:=List.length_pos_of_mem hw;omega)];exact hw
theorem tlS_ne (s:Nat):∃ x,x∈tlS M s:=by
 unfold tlS;split
 ·exact ⟨[],by simp⟩
 ·rename_i h;cases e:((idsM M)[s]?).getD [] with
  | nil=>rw [e] at h;exact absurd rfl h
  | cons x l=>exact ⟨x,by simp⟩
theorem suite_all {front middle:List (List Int)} {ids:List (List (List Int))} (P:zsm M front middle ids) (hl:front.length*middle.length*zir ids≤10000) {s t:Nat} (h:∀ w∈maxR (allS M front middle ids),outs m s w=outs b t w):∀ w∈allS M front middle ids,outs m s w=outs b t w:=fun w hw=>by
 obtain ⟨y,h1,h2⟩:=max_above (N:=2000000) (fun x hx=>(allS_sm P hl).2 x hx) 2000000 w hw (by omega);exact outs_prefix h2 (h y h1)
theorem pass_of {L:List (Nat×List Int)} {extra:Int} (h1:0≤extra) (h2:extra≤2) (hM:zdx M) (hst:M.Start=0) (hE:MEnd M 0 L) (PM:zgp M) (hi4:M.Inputs≤4) (hb:zdx b) (hi:M.Inputs=b.Inputs)
  (hp:∀ w∈allS M (L.map Prod.snd) (zh1 M.Inputs (extra+1)) (idsM M),outs M 0 w=outs b b.Start.toNat w)
  (hf:∀ l:List Nat,l.Nodup→(∀ q∈l,∃ w,WOk M.Inputs w∧dest b b.Start.toNat w=q)→l.length≤M.Next.length+extra.toNat):Pass M b 0 b.Start.toNat extra.toNat (L.map Prod.snd) (tlS M):=by
 have hi1:=hM.i1;have hbs:=hb.st;have hLr:=zp4 hM hM.n1 hE;have hst':M.Start.toNat=0:=by rw [hst];rfl
 refine ⟨⟨hM,hb,hi⟩,hM.n1,by omega,List.mem_map.2 ⟨_,zkH hE.first,rfl⟩,fun u hu=>?_,fun s hs=>?_,fun s _=>tlS_ne s,fun s x hx=>?_,fun s s' hs hs' hne=>⟨sepW M s s',tlS_sep hs hs' hne,?_,sepW_sep hM PM hs hs' hne⟩,fun u hu v hv hl x hx=>hp _ ?_,hf⟩
 ·obtain ⟨x,hx,rfl⟩:=List.mem_map.1 hu;exact (hLr.2 x hx).2.2
 ·obtain ⟨w,w1,w2⟩:=PM.reach s hs;rw [hst'] at w2;obtain ⟨j,y,g1,g2⟩:=zr6 hE w 0 _ hE.first w1;refine ⟨y.2,List.mem_map.2 ⟨y,zkH g1,rfl⟩,?_⟩;rw [(hLr.2 y (zkH g1)).2.1,g2];exact w2
 ·rcases tlS_mem hx with rfl | ⟨v,v1,v2,rfl⟩
  ·exact fun a ha=>(by cases ha)
  ·exact (sepW_sm hM v1 v2).1
 ·rw [← sepW_symm hM hs hs'];exact tlS_sep hs' hs (fun q=>hne q.symm)
 ·refine List.mem_flatMap.2 ⟨u,hu,List.mem_flatMap.2 ⟨v,upto_has (by omega) hi4 (by omega) (by omega) hv (by omega),?_⟩⟩;unfold rowS;refine List.mem_map.2 ⟨x,?_,rfl⟩;rw [tlS_eq,hst'];exact hx
theorem suite_words {front middle:List (List Int)} (P:zsm M front middle (idsM M)):∀ w∈allS M front middle (idsM M),zby w M.Inputs=0:=fun w hw=>by
 have H:=zd0 P.ok;obtain ⟨u,hu,hw⟩:=List.mem_flatMap.1 hw;obtain ⟨v,hv,hw⟩:=List.mem_flatMap.1 hw;obtain ⟨x,hx,rfl⟩:=List.mem_map.1 hw;have h1:=P.f2 u hu;have h2:=P.m2 v hv;have h3:=(zm5 P (u++v)).2 x hx
 have h4:WOk M.Inputs x:=by
  rw [tlS_eq] at hx;rcases tlS_mem hx with rfl | ⟨v,v1,v2,rfl⟩
  ·exact fun a ha=>(by cases ha)
  ·exact (sepW_sm H v1 v2).1
 exact check_of H ((h1.1.append h2.1).append h4) (by simp;omega)
end
end
section
set_option maxRecDepth 100000
theorem small_ok {m:zaa} (hv:zch m=0) (h1:m.Next.length≤6) (h2:m.Inputs≤3):ztx m=true:=by
 have H:=zd0 hv;have ol:=H.ol
 have hg:greatM m=false:=zkA (by
  rintro (h | h | h | ⟨x,hx,h⟩ | ⟨x,hx,h⟩)
  ·omega
  ·omega
  ·omega
  ·obtain ⟨s,hs⟩:=List.mem_iff_getElem?.1 hx
   have hl:=(zkI.1 hs).1
   obtain ⟨u,v,r1,r2,r3,r4,_⟩:=H.row s (by omega)
   rw [hs] at r1
   injection r1 with r1
   subst r1
   omega
  ·obtain ⟨s,hs⟩:=List.mem_iff_getElem?.1 hx
   have hl:=(zkI.1 hs).1
   obtain ⟨u,v,r1,r2,r3,r4,_⟩:=H.row s (by omega)
   rw [hs] at r2
   injection r2 with r2
   subst r2
   omega)
 unfold ztx;rw [hg,zkB (by omega),zkB (by omega)];rfl
structure NewOk (a:zaa) (extra:Int) (M:zaa) (L:List (Nat×List Int)):Prop where
 va:zch a=0
 sem:zrj a M
 vm:zch M=0
 fin:MEnd M 0 L
 min:zgp M
 i4:M.Inputs≤4
 inp:M.Inputs=a.Inputs
 parts:zsm M (L.map Prod.snd) (zh1 M.Inputs (extra+1)) (idsM M)
 few:(L.map Prod.snd).length*(zh1 M.Inputs (extra+1)).length*zir (idsM M)≤10000
 e1:0≤extra
 run:za0 a=some (M,0)
noncomputable abbrev wordsN (extra:Int) (M:zaa) (L:List (Nat×List Int)):List (List Int):=maxR (allS M (L.map Prod.snd) (zh1 M.Inputs (extra+1)) (idsM M))
theorem zs0 {a:zaa} {extra:Int} (h6:a.Next.length≤6) (h3:a.Inputs≤3) (hx:extra≤2) :
  (∃ e c,zep a extra=some (⟨⟨0,0,[],[]⟩,[]⟩,e)∧e≠0∧za0 a=some c)∨∃ M L,NewOk a extra M L∧zep a extra=some (⟨M,wordsN extra M L⟩,0):=by
 unfold zep;by_cases hv:zch a=0
 ·obtain ⟨M0,f1,_⟩:=zh7 hv;by_cases hn:extra<0
  ·left;refine ⟨2,_,?_,by decide,f1⟩;unfold zbu;rw [zbv,zao,zkA (by omega),zkC,zkB hn];rfl
  ·obtain ⟨M,L,e1,S,hM,hE,PM,hn8,hi4,hi,P,hs⟩:=suite_prog (small_ok hv h6 h3) hv (extra:=extra) (by omega) hx;rw [hs,zao];unfold suiteH;by_cases hbig:10000<(L.map Prod.snd).length*(zh1 M.Inputs (extra+1)).length*zir (idsM M)
   ·left;rw [if_pos hbig];exact ⟨11,_,rfl,by decide,e1⟩
   ·right;rw [if_neg hbig,zkA (fun h=>h rfl),zkC,e1,zao,zkA (fun h=>h rfl),zkC];exact ⟨M,L,⟨hv,S,hM,hE,PM,hi4,hi,P,by omega,by omega,e1⟩,rfl⟩
 ·left;refine ⟨zch a,_,?_,hv,zpl hv⟩;unfold zbu;rw [zbv,zao,zkB hv,zkD,zao,zkB hv,zkD]
section
variable {a M b:zaa} {extra:Int} {L:List (Nat×List Int)}
theorem NewOk.sm (N:NewOk a extra M L):SmL (wordsN extra M L)∧(wordsN extra M L).length≤10000∧∀ w∈wordsN extra M L,zby w M.Inputs=0:=by
 have h:=allS_sm N.parts N.few;have h1:(allS M (L.map Prod.snd) (zh1 M.Inputs (extra+1)) (idsM M)).length≤(L.map Prod.snd).length*((zh1 M.Inputs (extra+1)).length*zir (idsM M)):=zsg fun u _=>mid_le N.parts u _;rw [← Nat.mul_assoc] at h1;have h2:=maxR_length (allS M (L.map Prod.snd) (zh1 M.Inputs (extra+1)) (idsM M));have h3:=N.few;exact ⟨⟨Nat.le_trans h2 h.1,fun x hx=>h.2 x (mem_maxR hx)⟩,by unfold wordsN;omega,fun w hw=>suite_words N.parts w (mem_maxR hw)⟩
abbrev tupC6 (m:zaa) (r:zaf) (i:Nat):=(m.Inputs,m.Start,m.Next,m.Out,r.Run,r.Changes,i)
theorem zmy (N:NewOk a extra M L) (hN:zep a extra=some (⟨M,wordsN extra M L⟩,0)) :
  zav a b extra=some (if zch b≠0 then (⟨0,[]⟩,zch b) else if a.Inputs≠b.Inputs then (⟨0,[]⟩,15) else (cmpL M b ⟨0,[]⟩ (wordsN extra M L),0)):=by
 have hf:=zbg;obtain ⟨s1,s2,s3⟩:=N.sm;unfold zav;rw [hN,zao,zkA (fun h=>h rfl),zkC,zbv,zao];by_cases c1:zch b=0
 ·rw [zkA (fun h=>h c1),zkC,if_neg (fun h=>h c1)];by_cases c2:a.Inputs=b.Inputs
  ·rw [zkA (fun h=>h c2),zkC,if_neg (fun h=>h c2)];have hib:b.Inputs=M.Inputs:=by rw [N.inp,c2]
   have A:=cmp_iter (tup:=tupC6 M) (m:=M) (b:=b) (L:=wordsN extra M L) (fin:=fun r=>(.inl (M.Inputs,M.Start,M.Next,M.Out,r.Run,r.Changes):(Int×Int×List (List Int)×List (List Int)×Int×List zab)⊕(zaf×Int))) (S2:=fun s=>zav.s20 b (⟨M,wordsN extra M L⟩,0) s.1 s.2.1 s.2.2.1 s.2.2.2.1 s.2.2.2.2.1 s.2.2.2.2.2.1 s.2.2.2.2.2.2) (fun r i w R hx=>by
    have hm:=zkH hx
    have hcw:=s3 w hm
    have hcb:zby w b.Inputs=0:=by rw [hib];exact hcw
    have hin:i<(wordsN extra M L).length:=(zkI.1 hx).1
    have r3:=R.2.2
    show zav.s20 b (⟨M,wordsN extra M L⟩,0) _ _ _ _ _ _ _=_
    unfold zav.s20
    simp only
    rw [zfl hx,zkD,zau hx,needed_eq (by simp only;omega) (s1.2 w hm),zao]
    simp only
    by_cases g0:zj3 r.Changes w=true
    ·rw [g0,if_pos rfl]
     rfl
    ·rw [if_neg g0,Bool.not_eq_true _ |>.mp g0,Bool.not_false,Bool.not_true,zkC,zpi c1 hcb,zao,zkB rfl,zkD]
     simp only
     rw [note_eq N.vm hcw (zfg _ _) R (by omega),zao,zao]
     rfl) (fun r=>by
    show zav.s20 b (⟨M,wordsN extra M L⟩,0) _ _ _ _ _ _ _=_
    unfold zav.s20
    rw [zfd,zkC]) fuel 0 ⟨0,[]⟩ ⟨by simp,by simp,by simp⟩ (Nat.zero_le _) (by omega)
   rw [List.drop_zero] at A;refine (congrArg (fun z=>Option.bind z _) A).trans ?_;rfl
  ·rw [zkB c2,zkD,if_pos c2]
 ·rw [zkB c1,zkD,if_pos c1]
theorem New_far (N:NewOk a extra M L) (hx:extra≤2) (hb:zch b=0) (hi:a.Inputs=b.Inputs) (hle:(↑b.Next.length:Int)≤(↑M.Next.length:Int)+extra) (h:∀ w∈wordsN extra M L,outS M w=outS b w):Eqv a a.Start.toNat b b.Start.toNat:=by
 have Hb:=zd0 hb;have hbs:=Hb.st;have h0:=N.e1
 have hp:∀ w∈allS M (L.map Prod.snd) (zh1 M.Inputs (extra+1)) (idsM M),outs M 0 w=outs b b.Start.toNat w:=fun w hw=>by
  have:=suite_all N.parts N.few (m:=M) (b:=b) (s:=M.Start.toNat) (t:=b.Start.toNat) h w hw;rw [N.sem.start] at this;exact this
 have hP:=pass_of h0 hx N.sem.ok N.sem.start N.fin N.min N.i4 Hb (N.inp.trans hi) hp fun l l1 l2=>by
  have:=zhs l1 (l':=List.range b.Next.length) fun q hq=>by
   obtain ⟨w,w1,w2⟩:=l2 q hq;rw [← w2];exact List.mem_range.2 (Hb.dest (by rw [← hi,← N.inp];exact w1) (by omega))
  rw [List.length_range] at this;omega
 intro w hw;have hw':WOk M.Inputs w:=by rw [N.inp];exact hw
 rw [← hP.equiv hw',N.sem.eqv w hw']
theorem New_same (N:NewOk a extra M L) (hE:Eqv a a.Start.toNat b b.Start.toNat):∀ w∈wordsN extra M L,outS M w=outS b w:=fun w hw=>by
 have hw1:=zm1 (N.sm.2.2 w hw);have:=N.sem.eqv w hw1;show outs M M.Start.toNat w=outs b b.Start.toNat w;rw [N.sem.start];exact this.trans (hE w (by rw [← N.inp];exact hw1))
end
theorem zln {a:zaa} {d:zae} {extra:Int} (hS:zhn d):zd9 a d extra=some true:=by
 have hA:=awake50_true;have d00:decide ((0:Int)≠0)=false:=rfl;unfold zd9 zmz;rw [hA];by_cases s1:(↑a.Next.length:Int)≤6
 ·by_cases s2:a.Inputs≤3
  ·by_cases s3:extra≤2
   ·by_cases s4:9<(↑d.M.Next.length:Int)
    ·rw [zkB s1,zkD,zkB s2,zkD,zkB s3,zkB s4];rfl
    by_cases s5:20<(↑d.Latency.Step.length:Int)
    ·rw [zkB s1,zkD,zkB s2,zkD,zkB s3,zkA s4,zkB s5];rfl
    rw [zkB s1,zkD,zkB s2,zkD,zkB s3,zkA s4,zkA s5,zao,zao,Bool.not_true,zkC,zkC,zkC];unfold zmx;by_cases s6:d.Steps<562949953421312∧d.Resets<562949953421312∧d.Time<562949953421312
    ·obtain ⟨t1,t2,t3⟩:=s6;rw [zkB t1,zkD,zkB t2,zkD,zkB t3,zao,zao,Bool.not_true,zkC];by_cases s7:d.Faults.Lost=0∧d.Faults.Wrong=0∧d.Faults.Crash=0
     ·rw [zkB s7.1,zkB s7.2.1,zkB s7.2.2,zao];simp only [Bool.and_self,Bool.not_true,zkC];obtain ⟨q,eo,hq,hqz⟩:=zr1 s7 (by omega);rcases zs0 (a:=a) (extra:=extra) (by omega) s2 s3 with ⟨e,c,hN,he,hm⟩ | ⟨M,L,N,hN⟩
      ·have hC:zav a d.M extra=some (⟨0,[]⟩,e):=by
        unfold zav;rw [hN,zao,zkB he,zkD]
       rw [hN,zao,hC,zao,hq,zao,hm,zao,zkB he,zkD,zao,zkD]
      ·have hC:=zmy (b:=d.M) N hN;obtain ⟨w1,w2,w3⟩:=N.sm;rw [hN,zao,hC,zao,hq,zao,N.run,zao];simp only [d00,zkC];by_cases c1:zch d.M=0
       ·rw [if_neg (fun h=>h c1)];by_cases c2:a.Inputs=d.M.Inputs
        ·rw [if_neg (fun h=>h c2)];simp only [d00,zkC];by_cases c3:eo=0
         ·obtain ⟨H,rfl⟩:=hqz c3;rw [c3];simp only [d00,zkC,zao];have hI:=H.mac.i1;have hI2:=H.mac.i2;have k1:=H.c1;have k2:=H.c2;have k3:=H.c3;have Q:OrOk (⟨d,⟨d.M.Inputs,[]⟩,1,1,0,0⟩:zah):=⟨H,hS,⟨⟨hI,hI2⟩,by simp,fun t ht=>(by cases ht),fun i j x y _ hx=>(by simp at hx),fun i j x y _ hx=>(by simp at hx)⟩,⟨by simp,fun t ht=>(by cases ht)⟩,rfl,by simp,by simp,by simp,by simp⟩;have F:FreeQ d.M (⟨d,⟨d.M.Inputs,[]⟩,1,1,0,0⟩:zah) (wordsN extra M L).length:=⟨Q,⟨H,hS,rfl,s7,by simp only;omega,by simp only;omega,by simp only;omega⟩,rfl,rfl,fun t ht=>(by cases ht),by simp only [List.length_nil];omega⟩;have hib:M.Inputs=d.M.Inputs:=N.inp.trans c2;obtain ⟨q',hr⟩:=run_free (m:=M) (wordsN extra M L) _ ⟨0,[]⟩ F fun w hw=>by rw [← hib];exact w3 w hw
          obtain ⟨r1,_⟩:=zs9 (b:=⟨M,wordsN extra M L⟩) Q (fun _=>by simp only [List.length_nil];omega) w1
          have hrun:runO (⟨d,⟨d.M.Inputs,[]⟩,1,1,0,0⟩:zah) ⟨M,wordsN extra M L⟩=(q',cmpL M d.M ⟨0,[]⟩ (wordsN extra M L),0):=by
           unfold runO;rw [if_neg (fun h=>h N.vm),if_neg (by simp only;omega)]
           have hE:firstE M.Inputs (wordsN extra M L)=none:=by
            unfold firstE;refine zhd.2 fun i w hw=>?_;rw [if_neg (fun h=>h (w3 w (zkH hw)))]
           simp only;rw [hE];simp only;rw [if_neg (fun h=>h hib.symm)];exact hr
          rw [r1,hrun,zao];obtain ⟨e,g1,g2⟩:=ztj N.va c1 c2;obtain ⟨p1,p2⟩:=cmpL_rep (m:=M) (b:=d.M) (wordsN extra M L) ⟨0,[]⟩ 0 ⟨by simp,by simp,by simp⟩ (fun w hw=>zgz (w3 w hw)) (fun c hc=>by cases hc);have hnil:=cmpL_nil (m:=M) (b:=d.M) (wordsN extra M L) ⟨0,[]⟩;generalize cmpL M d.M ⟨0,[]⟩ (wordsN extra M L)=R at p1 p2 hnil ⊢;have p3:=p1.2.2
          have hsame:zfn R R=some true:=by
           unfold zfn;rw [zkB rfl,zkD,zma ⟨by omega,p2⟩];rfl
          rw [g1,zao];simp only [d00,zkC];rw [hsame,zao,Bool.not_true,zkC];cases e with
          | true =>
           have hz:=hnil.2 ⟨rfl,New_same N (g2.1 rfl)⟩;rw [zkD,hz];rfl
          | false =>
           rw [zkC,zao,zkC,zkC];by_cases hch:R.Changes=[]
           ·have hall:=(hnil.1 hch).2
            have hfar:¬ (↑d.M.Next.length:Int)≤(↑M.Next.length:Int)+extra:=fun hle=>by
             have:=g2.2 (New_far N s3 c1 c2 hle hall);cases this
            have hm2:=N.sem.ok.n2;have e1:=N.e1;rw [hch,zkA (by simp),zkC,zar (by unfold inR;omega),zkB (by omega)];rfl
           ·have:=List.length_pos_iff.2 hch;rw [zkB (by omega)];rfl
         ·rw [zkB c3,zkD];rfl
        ·rw [if_pos c2,zkB (by decide),zkD];rfl
       ·rw [if_pos c1,zkB c1,zkD];rfl
     ·have:(decide (d.Faults.Lost=0)&&(decide (d.Faults.Wrong=0)&&(decide (d.Faults.Crash=0)&&true)))=false:=by
       rw [Bool.and_true];rcases Classical.em (d.Faults.Lost=0) with h1 | h1
       ·rcases Classical.em (d.Faults.Wrong=0) with h2 | h2
        ·rw [zkB h1,zkB h2,zkA fun h3=>s7 ⟨h1,h2,h3⟩];rfl
        ·rw [zkB h1,zkA h2];rfl
       ·rw [zkA h1];rfl
      rw [this];rfl
    ·have:(cond (decide (d.Steps<562949953421312)) (cond (decide (d.Resets<562949953421312)) (some (decide (d.Time<562949953421312))) (some false)) (some false):Option Bool)=some false:=by
      by_cases t1:d.Steps<562949953421312
      ·by_cases t2:d.Resets<562949953421312
       ·rw [zkB t1,zkD,zkB t2,zkD,zkA fun t3=>s6 ⟨t1,t2,t3⟩]
       ·rw [zkB t1,zkD,zkA t2,zkC]
      ·rw [zkA t1,zkC]
     rw [this];rfl
   ·rw [zkB s1,zkD,zkB s2,zkD,zkA s3];rfl
  ·rw [zkB s1,zkD,zkA s2];rfl
 ·rw [zkA s1];rfl
end
section
theorem zj7 (x0:zaa) (x1:zae) (x2:Int) (_:zkv x0) (_:zkh x0≤1048576) (k1:znk x1) (_:zm2 x1≤1048576) (_:inR x2):zd9 x0 x1 x2=some true :=
 zln k1.2.2.2.2.2.1
end
end Go.Proofs.YtcneaiejdidooaaGreatDoor.Sym

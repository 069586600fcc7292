/-
  Parts of the proof, behind each other.
-/
import Derived.Test.YtedabpfahmealaaGreatDoorM2
import Derived.Laws.OwnMore
import Derived.Lib.BufferRead
import Derived.Lib.Hide
import Derived.WalkSmall
import Derived.Shelf.SlSortCmp.Whole1
import Derived.Shelf.SlSortCmp.WholeK
import Derived.Ground.SlsfProg
import Derived.Test.YtedabpfahmealaaGreatDoorProg
import Derived.Lib.AppendZerosOnto
import Derived.Lib.Overlaps
import Derived.Lib.Walk
import Derived.Shelf.RegionOpenPlain
import Derived.Laws.NewBlocks
import Derived.Deep.WholeRow
set_option linter.all false
namespace Go.Proofs.YtedabpfahmealaaGreatDoor
section
def zjr (d:Nat):UInt8:=if d<10 then UInt8.ofNat (48+d) else UInt8.ofNat (87+d)
def digsF:Nat→Nat→List UInt8
 | 0,u=>[zjr u]
 | f+1,u=>if u<36 then [zjr u] else digsF f (u / 36)++[zjr (u%36)]
theorem zx3:∀ (f g u:Nat),u≤f→u≤g→digsF f u=digsF g u
 | 0,0,_,_,_=>rfl
 | 0,g+1,u,h,_=>by
  have h0:u=0:=by omega
  subst h0;rfl
 | f+1,0,u,_,h=>by
  have h0:u=0:=by omega
  subst h0;rfl
 | f+1,g+1,u,h1,h2=>by
  unfold digsF;by_cases h:u<36
  ·rw [if_pos h,if_pos h]
  ·rw [if_neg h,if_neg h,zx3 f g (u / 36) (by omega) (by omega)]
def digs (u:Nat):List UInt8:=digsF u u
theorem zii {u:Nat} (h:u<36):digs u=[zjr u]:=by
 unfold digs;cases u with
 | zero=>rfl
 | succ u=>unfold digsF;rw [if_pos h]
theorem zrg {u:Nat} (h:36≤u):digs u=digs (u / 36)++[zjr (u%36)]:=by
 obtain ⟨v,rfl⟩:∃ v,u=v+1:=⟨u-1,by omega⟩;show digsF (v+1) (v+1)=digsF ((v+1) / 36) ((v+1) / 36)++[zjr ((v+1)%36)];rw [digsF,if_neg (by omega),zx3 v ((v+1) / 36) ((v+1) / 36) (by omega) (Nat.le_refl _)]
theorem digs_len:∀ (k u:Nat),u<36^(k+1)→(digs u).length≤k+1
 | 0,u,h=>by rw [zii (by simpa using h)];simp
 | k+1,u,h=>by
  by_cases h1:u<36
  ·rw [zii h1];simp
  ·rw [zrg (by omega),List.length_append];have:=digs_len k (u / 36) (by rw [Nat.div_lt_iff_lt_mul (by omega),← Nat.pow_succ];exact h);simp;omega
theorem zyn {u:Nat} (h:u<18446744073709551616):(digs u).length≤13 :=
 digs_len 12 u (Nat.lt_of_lt_of_le h (by decide))
theorem digs_pos (u:Nat):0<(digs u).length:=by
 by_cases h1:u<36
 ·rw [zii h1];simp
 ·rw [zrg (by omega)];simp
def undig (c:UInt8):Nat:=if c.toNat<58 then c.toNat-48 else c.toNat-87
theorem undig_dig {d:Nat} (h:d<36):undig (zjr d)=d:=by
 have:∀ d:Fin 36,undig (zjr d.1)=d.1:=by decide
 exact this ⟨d,h⟩
theorem dig_char {d:Nat} (h:d<36):48≤(zjr d).toNat:=by
 have:∀ d:Fin 36,48≤(zjr d.1).toNat:=by decide
 exact this ⟨d,h⟩
def undigs (l:List UInt8):Nat:=l.foldl (fun n c=>n*36+undig c) 0
theorem zu8 (u:Nat):undigs (digs u)=u:=by
 induction u using Nat.strongRecOn with
 | _ u ih =>
  by_cases h1:u<36
  ·rw [zii h1];simp [undigs,undig_dig h1]
  ·rw [zrg (by omega),undigs,List.foldl_append];have:=ih (u / 36) (by omega);rw [undigs] at this;simp only [List.foldl_cons,List.foldl_nil,this,undig_dig (Nat.mod_lt u (by omega))];omega
theorem digs_inj {u v:Nat} (h:digs u=digs v):u=v:=by rw [← zu8 u,h,zu8]
theorem zn3 (u:Nat):∀ c∈digs u,48≤c.toNat:=by
 induction u using Nat.strongRecOn with
 | _ u ih =>
  by_cases h1:u<36
  ·rw [zii h1];intro c hc;simp at hc;rw [hc];exact dig_char h1
  ·rw [zrg (by omega)];intro c hc;rw [List.mem_append] at hc;rcases hc with hc | hc
   ·exact ih (u / 36) (by omega) c hc
   ·simp at hc;rw [hc];exact dig_char (Nat.mod_lt u (by omega))
def zm8 (a:Int):List UInt8:=if a<0 then 45::digs a.natAbs else digs a.natAbs
theorem zyj (a:Int):∀ c∈zm8 a,c≠32:=by
 intro c hc e;subst e;unfold zm8 at hc;split at hc
 ·simp only [List.mem_cons] at hc;rcases hc with hc | hc
  ·exact absurd hc (by decide)
  ·have:=zn3 _ _ hc;exact absurd this (by decide)
 ·have:=zn3 _ _ hc;exact absurd this (by decide)
theorem enc36_inj {a b:Int} (h:zm8 a=zm8 b):a=b:=by
 have hne:∀ u v:Nat,45::digs u≠digs v:=fun u v e=>by
  have:=zn3 v 45 (by rw [← e];simp);exact absurd this (by decide)
 unfold zm8 at h;split at h<;>split at h
 ·injection h with _ h
  have:=digs_inj h;omega
 ·exact absurd h (hne _ _)
 ·exact absurd h.symm (hne _ _)
 ·have:=digs_inj h;omega
theorem enc36_len {a:Int} (h1:-9223372036854775808≤a) (h2:a≤9223372036854775807):(zm8 a).length≤14:=by
 have:=zyn (u:=a.natAbs) (by omega);unfold zm8;split<;>simp<;>omega
def keyL:List Int→List UInt8
 | []=>[]
 | a::xs=>zm8 a++32::keyL xs
theorem zuf:∀ xs ys:List Int,keyL (xs++ys)=keyL xs++keyL ys
 | [],_=>rfl
 | a::xs,ys=>by simp [keyL,zuf xs ys]
theorem split_at {c:UInt8}:∀ {xs ys rs ss:List UInt8},(∀ d∈xs,d≠c)→(∀ d∈ys,d≠c)→xs++c::rs=ys++c::ss→xs=ys∧rs=ss
 | [],[],rs,ss,_,_,h=>by simpa using h
 | [],y::ys,rs,ss,_,h2,h=>by
  simp at h;exact absurd h.1.symm (h2 y (by simp))
 | x::xs,[],rs,ss,h1,_,h=>by
  simp at h;exact absurd h.1 (h1 x (by simp))
 | x::xs,y::ys,rs,ss,h1,h2,h=>by
  simp only [List.cons_append,List.cons.injEq] at h;obtain ⟨e1,e2⟩:=split_at (fun d hd=>h1 d (by simp [hd])) (fun d hd=>h2 d (by simp [hd])) h.2;exact ⟨by rw [h.1,e1],e2⟩
theorem keyL_inj:∀ {xs ys:List Int},keyL xs=keyL ys→xs=ys
 | [],[],_=>rfl
 | [],a::ys,h=>by simp [keyL] at h
 | a::xs,[],h=>by simp [keyL] at h
 | a::xs,b::ys,h=>by
  simp only [keyL] at h;obtain ⟨e1,e2⟩:=split_at (zyj a) (zyj b) h;rw [enc36_inj e1,keyL_inj e2]
theorem zt4:∀ {xs:List Int},(∀ x∈xs,-9223372036854775808≤x∧x≤9223372036854775807)→(keyL xs).length≤15*xs.length
 | [],_=>by simp [keyL]
 | a::xs,h=>by
  have h1:=zt4 (xs:=xs) fun x hx=>h x (by simp [hx]);have h2:=h a (by simp);have h3:=enc36_len h2.1 h2.2;simp only [keyL,List.length_append,List.length_cons];omega
end
section
open Go.RowKit
theorem Tryz.infoByte:(Tryz.prog.info? 5).map (fun i=>(i.zero,i.size,i.bytes))=some (some (.int .u8 0),1,1):=by kernel_rfl
def zi2 (l:List UInt8):List Value:=l.map fun b=>.int .u8 (b.toNat:Int)
theorem zq2 (l:List UInt8):(zi2 l).length=l.length:=by simp [zi2]
theorem zml (l m:List UInt8):zi2 (l++m)=zi2 l++zi2 m:=by simp [zi2]
theorem bcells_one (l:List UInt8):∀ u∈zi2 l,u.oneCell'=true:=by
 intro u hu;simp only [zi2,List.mem_map] at hu;obtain ⟨b,_,rfl⟩:=hu;rfl
def OwnB (w:World) (base:Nat) (v:Value) (l:List UInt8):Prop:=w.ownsRow base 5 1 v l.length (zi2 l)
theorem OwnB.lt {w:World} {base:Nat} {v:Value} {l:List UInt8} (h:OwnB w base v l):∀ k,v.ownBlock=some k→base≤k∧k<w.heap.size:=World.ownsRow.lt h
theorem OwnB.nil_ (w:World) (base:Nat):OwnB w base (.slice none 0 0) []:=World.ownsRow_nil _ _ _ _
def MoreB (w:World) (base:Nat) (l:List UInt8) (e:Ending) (w':World):Prop:=∃ v',e=.returned v'∧OwnB w' base v' l∧Below base w w'
theorem idx36 (k:IntKind) (z:Int) (d:Nat) (hz:z=(d:Int)) (hd:d<36) (w:World) :
  (Instr.index 9 (.string { data:=#[48,49,50,51,52,53,54,55,56,57,97,98,99,100,101,102,103,104,105,106,107,108,109,110,111,112,113,114,115,116,117,118,119,120,121,122] }) (.int k z)).run Tryz.prog w=.ok (.int .u8 ((zjr d).toNat:Int)) w:=by
 subst hz;rw [run_index_string w 9 _ k _ Tryz.underlying9,dif_pos ⟨by omega,by show (d:Int)<((36:Nat):Int);omega⟩];have:∀ d:Fin 36,(({ data:=#[48,49,50,51,52,53,54,55,56,57,97,98,99,100,101,102,103,104,105,106,107,108,109,110,111,112,113,114,115,116,117,118,119,120,121,122] }:ByteArray)[d.1]'(by show d.1<36;exact d.2))=zjr d.1:=by decide
 have h:=this ⟨d,hd⟩;simp only [Int.toNat_natCast];rw [h]
def Dig (zs:List Value) (i:Nat) (l:List UInt8):Prop:=zs.length=65∧zs.drop i=zi2 l
theorem Dig.push {zs:List Value} {j:Nat} {m:List UInt8} (h:Dig zs (j+1) m) (hj:j<65) (c:UInt8):Dig (zs.set j (.int .u8 (c.toNat:Int))) j (c::m):=by
 obtain ⟨h1,h2⟩:=h;refine ⟨by simpa using h1,?_⟩;rw [List.drop_eq_getElem_cons (by simp;omega),List.getElem_set_self,List.drop_set_of_lt (by omega),h2];rfl
set_option maxRecDepth 100000 in
set_option maxHeartbeats 1600000 in
theorem zxn {B u:Nat} {sv:Value} {l:List UInt8} {w:World} (hu:u<18446744073709551616) (hown:OwnB w B sv l) (hB:B≤w.heap.size) (hl:l.length≤1000000000) :
  Calls Tryz.prog 272 #[sv,.int .u64 u,.int .i64 36,.bool false,.bool true] w (fun e w'=>∃ v',e=.returned (.tuple #[v',.string ByteArray.empty])∧OwnB w' B v' (l++digs u)∧Below B w w'):=by
 obtain ⟨i0,hi,hz0,hz1,hz2⟩:=info_parts Tryz.infoByte;have HOWN:=Lib.hid hown;clear hown;have hbits:(bits BinOp.and IntKind.i64 36 35==0)=false:=by decide
 go_enter Tryz.func272,Tryz.ntmps272
 go_wp2
 go_loopw [1,13,18] (fun v i _ wr=>∃ k j:Nat,∃ m:List UInt8,∃ zs,v=.int .u64 k∧i=.int .i64 j∧k<18446744073709551616∧j+m.length=65∧Hid (digs k++m=digs u)∧Hid (Dig zs j m)∧wr.ownsRow w.heap.size 315 1 (.slice (some ⟨w.heap.size,0,none⟩) 65 65) 65 zs∧Below w.heap.size w wr) (fun v _ _ _=>(intOf v).toNat)
 case atStart=>exact ⟨u,65,[],_,rfl,rfl,hu,rfl,Lib.hid (by simp),Lib.hid ⟨rfl,rfl⟩,World.ownsRow_lit w _ 65 (Nat.le_refl _) (by unfold maxLen;omega) rfl,(Below.refl _ _).alloc (Nat.le_refl _) _⟩
 case round =>
  obtain ⟨k,j,m,zs,rfl,rfl,hk,hj,HD,HZ,hrow,hbel⟩:=hrel
  have hlen:m.length≤12:=by
   have h1:=congrArg List.length HD.out;rw [List.length_append] at h1;have h2:=digs_pos k;have h3:=zyn hu;omega
  obtain ⟨j,rfl⟩:∃ j':Nat,j=j'+1:=⟨j-1,by omega⟩;have hzl:j<zs.length:=by rw [HZ.out.1];omega
  have q1:wr.cell? ⟨w.heap.size,j,none⟩=some (zs[j]):=by rw [hrow.cellAt j (by omega)];exact List.getElem?_eq_getElem hzl
  have q2:wr.frozen? ⟨w.heap.size,j,none⟩=false:=hrow.frozenAt j;generalize zs[j]=z0 at q1;have HR:=Lib.hid hrow;have HB:=Lib.hid hbel;clear hrow hbel hzl;by_cases h1:36≤k
  ·have e0:((j+1:Nat):Int)-1=(j:Int):=by omega
   have hix:=fun W=>idx36 .u64 ((k:Int)-(k:Int) / 36*36) (k%36) (by omega) (by omega) W
   go_wp2
   go_roundw
   case rel =>
    obtain ⟨s1,s2⟩:=HR.out.stored j (.int .u8 ((zjr (k%36)).toNat:Int));exact ⟨k / 36,j,zjr (k%36)::m,_,by go_num,rfl,by omega,by simp;omega,Lib.hid (by rw [← HD.out,zrg h1];simp),Lib.hid (HZ.out.push (by omega) _),s1,HB.out.grown s2 HB.out.size (fun g e=>by injection e with e;omega)⟩
   case measure=>simp [intOf]<;>omega
  ·have e0:((j+1:Nat):Int)-1=(j:Int):=by omega
   have hix:=fun W=>idx36 .u64 (k:Int) k rfl (by omega) W;have hal:Tryz.prog.arrayLen 315=65:=by simp [Program.arrayLen,Tryz.underlying315]
   have hsl:∀ W,(Instr.sliceAt 315 (.pointer (some ⟨w.heap.size,0,none⟩)) (some (.int .i64 (j:Int))) none none).run Tryz.prog W=.ok (.slice (some ⟨w.heap.size,j,none⟩) (65-j) (65-j)) W:=fun W=>by
    rw [run_sliceAt_array_l W 315 ⟨w.heap.size,0,none⟩ (by simp [Program.arrayLen,Program.elem,Tryz.underlying315]) .i64 (j:Int) (by omega) (by rw [hal];omega)]
    go_simp
    omega
   obtain ⟨s1,s2⟩:=HR.out.stored j (.int .u8 ((zjr k).toNat:Int));have hb2:Below w.heap.size w (wr.setCell ⟨w.heap.size,j,none⟩ (.int .u8 ((zjr k).toNat:Int))):=HB.out.grown s2 HB.out.size (fun g e=>by injection e with e;omega);have hown2:OwnB (wr.setCell ⟨w.heap.size,j,none⟩ (.int .u8 ((zjr k).toNat:Int))) B sv l:=World.ownsRow.kept HOWN.out (zyl hb2) (by cases sv.ownBlock<;>simp);have hdz:=HZ.out.push (by omega) (zjr k)
   have hsrc:Src (wr.setCell ⟨w.heap.size,j,none⟩ (.int .u8 ((zjr k).toNat:Int))) (some ⟨w.heap.size,j,none⟩) (65-j) (zi2 (zjr k::m)):=by
    refine ⟨by rw [zq2];simp;omega,fun _=>⟨_,_,rfl,fun i v hv=>?_⟩⟩;have hi:i<(zi2 (zjr k::m)).length:=(List.getElem?_eq_some_iff.1 hv).1;rw [zq2,List.length_cons] at hi;rw [s1.cellAt (j+i) (by omega),← hv,← hdz.2,List.getElem?_drop]
   have hone:=bcells_one (zjr k::m);have hc1:l.length+(65-j)≤maxLen:=by unfold maxLen;omega
   have hc2:(l.length+(65-j))*1≤140737488355328:=by omega
   have hc3:B≤(wr.setCell ⟨w.heap.size,j,none⟩ (.int .u8 ((zjr k).toNat:Int))).heap.size:=Nat.le_trans hB hb2.size
   have hfull:zi2 l++zi2 (zjr k::m)=zi2 (l++digs u):=by
    rw [← zml,← HD.out,zii (by omega)];rfl
   have hfl:l.length+(65-j)=(l++digs u).length:=by
    rw [← HD.out,zii (by omega)];simp;omega
   have HF:=Lib.hid (And.intro hfull hfl);have HB2:=Lib.hid hb2;clear s1 s2 hdz hb2 hfull hfl hal;unfold OwnB at hown2
   go_wp2_with (at_builtin;refine zil rfl (.tmp 95) (.tmp 97) 244 rfl B 5 i0 (.int .u8 0) 1 Tryz.underlying244 hi hz0 hz1 hz2 rfl sv _ _ rfl hown2 _ (65-j) (65-j) _ rfl hsrc hone hc1 hc2 hc3 ?_;intro v1 w1 hown1 hg1 hb1)
   go_ret2
   have hlt:=hown2;refine ⟨_,rfl,?_,?_⟩
   ·unfold OwnB;rw [← HF.out.1,← HF.out.2];exact hown1
   ·exact (HB2.out.mono hB).grown hg1 hc3 fun g e=>(OwnB.lt hown2 g e).1
set_option maxRecDepth 100000 in
set_option maxHeartbeats 800000 in
theorem zpg {B u:Nat} {sv:Value} {l:List UInt8} {w:World} (hu:u<18446744073709551616) (hown:OwnB w B sv l) (hB:B≤w.heap.size) (hl:l.length≤1000000000) :
  Calls Tryz.prog 262 #[sv,.int .u64 u,.int .i64 36] w (MoreB w B (l++digs u)):=by
 have hcall:=zxn hu hown hB hl;clear hown
 go_enter Tryz.func262,Tryz.ntmps262
 go_wp2_with (go_at_call 272;refine hcall.mono ?_;rintro e w' ⟨v',rfl,hown',hb'⟩)
 go_ret
 exact ⟨_,rfl,hown',hb'⟩
set_option maxRecDepth 100000 in
set_option maxHeartbeats 800000 in
theorem appendInt_any {B:Nat} {a:Int} {sv:Value} {l:List UInt8} {w:World} (ha1:-9223372036854775808≤a) (ha2:a≤9223372036854775807) (hown:OwnB w B sv l) (hB:B≤w.heap.size) (hl:l.length≤100000000) :
  Calls Tryz.prog 237 #[sv,.int .i64 a,.int .i64 36] w (MoreB w B (l++zm8 a)):=by
 obtain ⟨i0,hi,hz0,hz1,hz2⟩:=info_parts Tryz.infoByte;by_cases h1:a<0
 ·have hs1:∀ t,Src (w.alloc (.cells #[.int .u8 45] t)) (some ⟨w.heap.size,0,none⟩) 1 [.int .u8 45]:=fun t=>src_one w _ t;have hone:∀ u∈[Value.int .u8 45],u.oneCell'=true:=by intro u hu;simp at hu;subst hu;rfl
  have hownA:∀ o,(w.alloc o).ownsRow B 5 1 sv l.length (zi2 l):=fun o=>World.ownsRow.alloc hown o;have hc1:l.length+1≤maxLen:=by unfold maxLen;omega
  have hc2:(l.length+1)*1≤140737488355328:=by omega
  have hc3:∀ o,B≤(w.alloc o).heap.size:=fun o=>by simp;omega
  have hlt:=OwnB.lt hown;have hB1:∀ o,Below B w (w.alloc o):=fun o=>(Below.refl B w).alloc hB o;have HOWN:=Lib.hid hown;clear hown;have e1:(zm8 a)=45::digs a.natAbs:=by unfold zm8;rw [if_pos h1]
  have HE:=Lib.hid e1;clear e1
  go_enter Tryz.func237,Tryz.ntmps237
  go_wp2_with (at_builtin;refine zil rfl (.tmp 12) (.tmp 13) 244 rfl B 5 i0 (.int .u8 0) 1 Tryz.underlying244 hi hz0 hz1 hz2 rfl sv _ _ rfl (hownA _) _ 1 1 [.int .u8 45] rfl (hs1 _) hone hc1 hc2 (hc3 _) ?_;intro v1 w1 hown1 hg1 hb1)
  have hw:IntKind.u64.wrap (-IntKind.u64.wrap a)=((a.natAbs:Nat):Int):=by
   rw [IntKind.wrap_u64,IntKind.wrap_u64];omega
  rw [hw]
  have hown2:OwnB w1 B v1 (l++[45]):=by
   unfold OwnB;rw [zml,List.length_append];exact hown1
  have hb2:Below B w w1:=(hB1 _).grown hg1 (hc3 _) fun g e=>(hlt g e).1;have hcall:=zpg (u:=a.natAbs) (by omega) hown2 (Nat.le_trans hB (by have:=hg1.size;simp at this;omega)) (by simp;omega);clear hown1 hg1 hb1 hown2 hownA hs1 hc3;refine hcall.mono ?_;rintro e w' ⟨v',rfl,hown',hb'⟩
  go_wp2
  go_ret
  refine ⟨_,rfl,?_,hb2.trans hb'⟩;rw [HE.out];simpa using hown'
 ·have HOWN:=Lib.hid hown;have e1:(zm8 a)=digs a.natAbs:=by unfold zm8;rw [if_neg h1]
  have hw:IntKind.u64.wrap a=((a.natAbs:Nat):Int):=by
   rw [IntKind.wrap_u64];omega
  have hcall:=zpg (u:=a.natAbs) (by omega) hown hB (by omega);clear hown
  go_enter Tryz.func237,Tryz.ntmps237
  go_wp2_with (go_at_call 262;refine hcall.mono ?_;rintro e w' ⟨v',rfl,hown',hb'⟩)
  go_ret
  exact ⟨_,rfl,by rw [e1];exact hown',hb'⟩
set_option maxRecDepth 100000 in
theorem zo5 {B:Nat} {a:Int} {sv:Value} {l:List UInt8} {w:World} (ha1:-9223372036854775808≤a) (ha2:a≤9223372036854775807) (hown:OwnB w B sv l) (hB:B≤w.heap.size) (hl:l.length≤100000000) :
  Calls Tryz.prog 207 #[sv,.int .i64 a,.int .i64 36] w (MoreB w B (l++zm8 a)):=by
 have hcall:=appendInt_any ha1 ha2 hown hB hl;clear hown
 go_enter Tryz.func207,Tryz.ntmps207
 go_wp2_with (go_at_call 237;refine hcall.mono ?_;rintro e w' ⟨v',rfl,hown',hb'⟩)
 go_ret
 exact ⟨_,rfl,hown',hb'⟩
theorem keyL_take {xs:List Int} {k:Nat} {x:Int} (h:xs[k]?=some x):keyL (xs.take (k+1))=(keyL (xs.take k)++zm8 x)++[32]:=by
 rw [zbp h,zuf];simp [keyL]
def Rng (x:Int):Prop:=-9223372036854775808≤x∧x≤9223372036854775807
def KeyPost (w:World) (l:List UInt8) (e:Ending) (w':World):Prop:=e=.returned (.string ⟨l.toArray⟩)∧Below w.heap.size w w'
set_option maxRecDepth 100000 in
set_option maxHeartbeats 1600000 in
theorem key_any {A:Option Addr} {n c:Nat} {xs:List Int} {w:World} (hx:zeo w znt A n c xs) (hr:∀ x∈xs,Rng x) (hn:n≤2000000) :
  Calls Tryz.prog 165 #[.slice A n c] w (KeyPost w (keyL xs)):=by
 have HL:=Lib.hid hx.len;have HR:=Lib.hid hr;obtain ⟨i0,hi,hz0,hz1,hz2⟩:=info_parts Tryz.infoByte;clear hr
 go_enter Tryz.func165,Tryz.ntmps165
 go_wp2
 go_loopw [3,5,8] (fun v _ i wr=>∃ k:Nat,k≤n∧i=.int .i64 k∧OwnB wr w.heap.size v (keyL (xs.take k))∧Below w.heap.size w wr) (fun _ _ i _=>n-(intOf i).toNat)
 case atStart=>exact ⟨0,by omega,rfl,OwnB.nil_ _ _,Below.refl _ _⟩
 case round =>
  obtain ⟨k,hk,rfl,hown,hbel⟩:=hrel
  have hkl:(keyL (xs.take k)).length≤15*k:=by
   have:=zt4 (xs:=xs.take k) fun x hx=>HR.out x (List.mem_of_mem_take hx);rw [List.length_take] at this;omega
  by_cases h1:k<n
  ·obtain ⟨b,o,x,rfl,hx1,hx2⟩:=hx.int_at h1;have hc:=zk5.of_below hbel _ _ hx2;have hrx:=HR.out x (List.mem_of_getElem? hx1);have HX:=Lib.hid hx1;have HC:=Lib.hid (zo5 hrx.1 hrx.2 hown hbel.size (by omega));have hlen:=enc36_len hrx.1 hrx.2;have HB:=Lib.hid hbel;clear hx1 hx2 hrx hown hbel;have hone:∀ u∈[Value.int .u8 32],u.oneCell'=true:=by intro u hu;simp at hu;subst hu;rfl
   have hc1:(keyL (xs.take k)++zm8 x).length+1≤maxLen:=by unfold maxLen;simp;omega
   have hc2:((keyL (xs.take k)++zm8 x).length+1)*1≤140737488355328:=by simp;omega
   go_wp2_with (first | (go_at_call 207;refine HC.out.mono ?_;rintro e w1 ⟨v1,rfl,hown1,hb1⟩;have HH:=Lib.hid (And.intro hown1 hb1);have hs1:=fun t=>src_one w1 (.int .u8 32) t;have hownA:=fun o=>World.ownsRow.alloc hown1 o;have hc3:∀ o,w.heap.size≤(w1.alloc o).heap.size:=(fun o=>by have:=HB.out.size;have:=hb1.size;simp;omega);clear hown1 hb1) | (at_builtin;refine zil rfl (.tmp 14) (.tmp 15) 244 rfl w.heap.size 5 i0 (.int .u8 0) 1 Tryz.underlying244 hi hz0 hz1 hz2 rfl v1 _ _ rfl (hownA _) _ 1 1 [.int .u8 32] rfl (hs1 _) hone hc1 hc2 (hc3 _) ?_;intro v2 w2 hown2 hg2 hb2))
   have hfin:OwnB w2 w.heap.size v2 (keyL (xs.take (k+1))):=by
    unfold OwnB;rw [keyL_take HX.out,zml,List.length_append];exact hown2
   have hbel':Below w.heap.size w w2:=((HB.out.trans (HH.out.2.mono (Nat.le_refl _))).alloc (by have:=HB.out.size;have:=HH.out.2.size;omega) _).grown hg2 (hc3 _) fun g e=>(OwnB.lt HH.out.1 g e).1;clear hown2 hg2 hb2 hs1 hownA hc3
   go_roundw
   case rel=>exact ⟨k+1,by omega,by go_num,hfin,hbel'⟩
   case measure=>simp [intOf]<;>omega
  ·rw [List.take_of_length_le (by rw [HL.out];omega)] at hown
   have hconv:(convert 244 9 u3).run Tryz.prog wr=.ok (.string ⟨(keyL xs).toArray⟩) wr:=by
    rcases hown.2 with ⟨rfl,h0⟩ | ⟨g,cap,cur,rfl,_,_,_⟩
    ·have h00:keyL xs=[]:=List.eq_nil_of_length_eq_zero h0;rw [h00];exact Lib.run_convert_nil_bytes wr _ _ _ 0 Tryz.underlying244 Tryz.underlying5 Tryz.underlying9
    ·refine run_convert_bytes_back wr _ _ _ ⟨g,0,none⟩ cap (keyL xs) Tryz.underlying244 Tryz.underlying5 Tryz.underlying9 fun j hj=>?_;rw [hown.cells (g:=g) rfl j (.int .u8 ((keyL xs)[j].toNat:Int)) (by simp [zi2,hj])]
   clear hown
   go_wp2
   go_ret
   exact ⟨rfl,hbel⟩
end
end Go.Proofs.YtedabpfahmealaaGreatDoor
namespace Go.Proofs.YtedabpfahmealaaGreatDoor.Sym
section
open Go.RowKit
theorem zgo {w:World} {S:Nat→Prop} {v:Value} {l:List Int} (h:RepI w S v (nL cI l)):∃ A n c,v=.slice A n c∧zeo w znt A n c l:=by
 have h:RepI w S v (.sl (l.map cI)):=h;generalize he:l.map cI=es at h;cases h with
 | emp A c =>
  have:l=[]:=by simpa using he
  subst this;exact ⟨A,0,c,rfl,rfl,Nat.zero_le _,by omega,fun h=>by omega⟩
 | sl b o c k n _ us hn hk hc hs hS hl h1 hu hr =>
  subst he
  have hf:(l.map cI).flatten=l.map fun x=>nI x:=by
   clear hn hk hl hr h
   induction l with
   | nil=>rfl
   | cons x l ih=>rw [List.map_cons,List.flatten_cons,ih];rfl
  rw [hf] at hl hr;refine ⟨_,_,_,rfl,by simpa using hn,hc,hs,fun _=>⟨b,o,rfl,fun i x hx=>?_⟩⟩;have hi:i<us.length:=by rw [hl,zkK];exact (zkI.1 hx).1
  have hg:=zkM hi;refine ⟨_,hu i _ hg,?_⟩;have:=hr i _ (nI x) hg (by rw [List.getElem?_map,hx];rfl);generalize us[i]=u at this;cases this with
  | val _=>rfl
def zlr (l:List Int):Option ByteArray:=chk (∀ x∈l,inR x) (chk (l.length≤2000000) (some ⟨(keyL l).toArray⟩))
set_option maxRecDepth 100000 in
theorem znf (l:List Int) (r:ByteArray) (h:zlr l=some r):Sp Tryz.prog 165 [.im (nL cI l)] (.im (nS r)):=by
 obtain ⟨h1,h⟩:=zar h;obtain ⟨h2,h⟩:=zar h;injection h with h
 subst h;refine ⟨fun args w=>zge rfl rfl rfl args w,fun w S vs F hS hv hn hF=>?_⟩
 match vs,hv with
 | [v],⟨F1,F2,⟨h3,e1⟩,h4,e2⟩ =>
  have h4:F2=[]:=h4;subst e1 h4 e2;obtain ⟨A,n,c,rfl,hrow⟩:=zgo h3;refine (key_any hrow h1 (by rw [← hrow.1];exact h2)).mono ?_;rintro e w' ⟨rfl,hb⟩;exact ⟨_,[],rfl,.of hb,⟨[_],[],[],rfl,⟨[],[],⟨.val _,rfl⟩,rfl,rfl⟩,rfl,rfl⟩,List.nodup_nil,fun b hb=>by simp at hb⟩
end
end Go.Proofs.YtedabpfahmealaaGreatDoor.Sym
namespace Go.Proofs.YtedabpfahmealaaGreatDoor
section
open Go.RowKit
def cmpI (x y:Int):Int:=if x<y then -1 else if y<x then 1 else 0
theorem zla (x y:Int) (w:World) :
  Calls Tryz.prog 163 #[.int .i64 x,.int .i64 y] w fun e w'=>e=.returned (.int .i64 (cmpI x y))∧w=w':=by
 by_cases h1:x<y
 ·go_enter Tryz.func163,Tryz.ntmps163
  go_wp2
  go_ret
  exact ⟨zld (by unfold cmpI;rw [if_pos h1]),rfl⟩
 ·by_cases h2:y<x
  ·go_enter Tryz.func163,Tryz.ntmps163
   go_wp2
   go_ret
   exact ⟨zld (by unfold cmpI;rw [if_neg (by omega),if_pos h2]),rfl⟩
  ·go_enter Tryz.func163,Tryz.ntmps163
   go_wp2
   go_ret
   exact ⟨zld (by unfold cmpI;rw [if_neg (by omega),if_neg (by omega)]),rfl⟩
theorem lexI_step {xs ys:List Int} {k:Nat} {x y:Int} (hx:xs[k]?=some x) (hy:ys[k]?=some y) :
  lexI (xs.drop k) (ys.drop k)=if cmpI x y=0 then lexI (xs.drop (k+1)) (ys.drop (k+1)) else cmpI x y:=by
 obtain ⟨h1,h1'⟩:=List.getElem?_eq_some_iff.1 hx;obtain ⟨h2,h2'⟩:=List.getElem?_eq_some_iff.1 hy;rw [List.drop_eq_getElem_cons h1,List.drop_eq_getElem_cons h2,h1',h2'];simp only [lexI,cmpI];by_cases a:x<y
 ·simp [a]
 ·by_cases b:y<x
  ·simp [a,b]
  ·simp [a,b]
theorem lexI_long {xs ys:List Int} {k:Nat} (h1:k<xs.length) (h2:ys.length≤k):lexI (xs.drop k) (ys.drop k)=1:=by
 rw [List.drop_eq_getElem_cons h1,List.drop_eq_nil_of_le h2];rfl
theorem lexI_end {xs ys:List Int} {k:Nat} (h1:xs.length≤k):lexI (xs.drop k) (ys.drop k)=if k<ys.length then -1 else 0:=by
 rw [List.drop_eq_nil_of_le h1];by_cases h2:k<ys.length
 ·rw [if_pos h2,List.drop_eq_getElem_cons h2];rfl
 ·rw [if_neg h2,List.drop_eq_nil_of_le (by omega)];rfl
set_option maxHeartbeats 800000 in
theorem zlu {A B:Option Addr} {n c m c':Nat} {xs ys:List Int} {w:World} (hx:zeo w znt A n c xs) (hy:zeo w znt B m c' ys) :
  Calls Tryz.prog 164 #[.slice A n c,.slice B m c'] w fun e w'=>e=.returned (.int .i64 (lexI xs ys))∧w=w':=by
 have hn:=hx.small;have hm:=hy.small;have HL:=Lib.hid (And.intro hx.len hy.len)
 go_enter Tryz.func164,Tryz.ntmps164
 go_wp2
 go_loop [5,6,7,8,11] (fun _ _ _ _ i=>∃ k:Nat,k≤n∧k≤m∧i=.int .i64 k∧Hid (lexI xs ys=lexI (xs.drop k) (ys.drop k))) (fun _ _ _ _ i=>n-(intOf i).toNat)
 case atStart=>exact ⟨0,by omega,by omega,rfl,Lib.hid (by simp)⟩
 case round =>
  obtain ⟨k,hk,hk',rfl,HT⟩:=hrel;by_cases h1:k<n
  ·obtain ⟨b,o,x,rfl,hx1,hx2⟩:=hx.int_at h1;have HX:=Lib.hid hx1;clear hx1;by_cases h2:k<m
   ·obtain ⟨b',o',y,rfl,hy1,hy2⟩:=hy.int_at h2;have HY:=Lib.hid hy1;clear hy1;have hst:=lexI_step HX.out HY.out;by_cases h3:cmpI x y=0
    ·rw [if_pos h3] at hst;have HST:=Lib.hid hst;have d3:(cmpI x y != 0)=false:=by simp [h3]
     have H3:=Lib.hid h3;clear h3 hst
     go_wp2_with (go_at_call 163;refine (zla _ _ _).mono ?_;rintro e w' ⟨rfl,rfl⟩)
     go_round
     case rel=>exact ⟨k+1,by omega,by omega,by go_num,Lib.hid (by rw [HT.out,HST.out])⟩
     case measure=>simp [intOf];omega
    ·rw [if_neg h3] at hst;have HST:=Lib.hid hst;have d3:(cmpI x y != 0)=true:=by simp [h3]
     clear h3 hst
     go_wp2_with (go_at_call 163;refine (zla _ _ _).mono ?_;rintro e w' ⟨rfl,rfl⟩)
     go_ret
     exact ⟨zld (by rw [HT.out,HST.out]),rfl⟩
   ·go_wp2
    go_ret
    obtain ⟨h3,h4⟩:=HL.out;exact ⟨zld (by rw [HT.out,lexI_long (by omega) (by omega)]),rfl⟩
  ·obtain ⟨h3,h4⟩:=HL.out;have HE:=Lib.hid (lexI_end (xs:=xs) (ys:=ys) (k:=k) (by omega));clear h3 h4;by_cases h2:n<m
   ·go_wp2
    go_ret
    obtain ⟨h3,h4⟩:=HL.out;exact ⟨zld (by rw [HT.out,HE.out,if_pos (by omega)]),rfl⟩
   ·go_wp2
    go_ret
    obtain ⟨h3,h4⟩:=HL.out;exact ⟨zld (by rw [HT.out,HE.out,if_neg (by omega)]),rfl⟩
theorem zvo {A B:Option Addr} {n c m c':Nat} {xs ys:List Int} {w:World} (hx:zeo w znt A n c xs) (hy:zeo w znt B m c' ys) :
  Calls Tryz.prog 126 #[.slice A n c,.slice B m c'] w fun e w'=>e=.returned (.int .i64 (lexI xs ys))∧w=w':=by
 go_enter Tryz.func126,Tryz.ntmps126
 go_wp2_with (go_at_call 164;refine (zlu hx hy).mono ?_;rintro e w' ⟨rfl,rfl⟩)
 go_ret
 exact ⟨rfl,rfl⟩
def orI (xs:List Int):Int:=(xs.find? fun a=>a != 0).getD 0
set_option maxHeartbeats 400000 in
theorem cmpOr_any {A:Option Addr} {n c:Nat} {xs:List Int} {w:World} (hx:zeo w znt A n c xs) :
  Calls Tryz.prog 162 #[.slice A n c] w fun e w'=>e=.returned (.int .i64 (orI xs))∧w=w':=by
 have hns:=hx.small;have HL:=Lib.hid hx.len
 go_enter Tryz.func162,Tryz.ntmps162
 go_wp2
 go_loop [5,8] (fun _ i=>∃ k:Nat,k≤n∧i=.int .i64 k∧Hid (((xs.take k).find? fun a=>a != 0)=none)) (fun _ i=>n-(intOf i).toNat)
 case atStart=>exact ⟨0,by omega,rfl,Lib.hid (by simp)⟩
 case round =>
  obtain ⟨k,hk,rfl,HT⟩:=hrel;by_cases h1:k<n
  ·obtain ⟨b,o,x,rfl,hx1,hx2⟩:=hx.int_at h1;have HX:=Lib.hid hx1;clear hx1;by_cases h2:x=0
   ·have d2:(x != 0)=false:=by simp [h2]
    have H2:=Lib.hid h2;clear h2
    go_wp2
    go_round
    case rel=>exact ⟨k+1,by omega,by go_num,Lib.hid (by rw [zbp HX.out,List.find?_append,HT.out,H2.out];rfl)⟩
    case measure=>simp [intOf]<;>omega
   ·have d2:(x != 0)=true:=by simp [h2]
    go_wp2
    go_ret
    refine ⟨zld ?_,rfl⟩;have hsp:=List.take_append_drop (k+1) xs;unfold orI;rw [← hsp,List.find?_append,zbp HX.out,List.find?_append,HT.out];simp [h2]
  ·go_wp2
   go_ret
   have ht:=HT.out;rw [List.take_of_length_le (by rw [HL.out];omega)] at ht;exact ⟨zld (by unfold orI;rw [ht];rfl),rfl⟩
theorem orI_cmp (xs ys:List Int):orI [cmpI xs.length ys.length,lexI xs ys]=cmpW xs ys:=by
 unfold orI cmpI cmpW;by_cases h1:xs.length<ys.length
 ·rw [if_pos (by omega),if_pos h1];rfl
 ·by_cases h2:ys.length<xs.length
  ·rw [if_neg (by omega),if_pos (by omega),if_neg h1,if_pos h2];rfl
  ·rw [if_neg (by omega),if_neg (by omega),if_neg h1,if_neg h2];by_cases h3:lexI xs ys=0
   ·simp [h3]
   ·simp [h3]
theorem src_two {w:World} (x y:Value) (t:TypeId):Src (w.alloc (.cells #[x,y] t)) (some ⟨w.heap.size,0,none⟩) 2 [x,y] :=
 ⟨rfl,fun _=>⟨_,_,rfl,fun j u hu=>by
  have:=cell_two_new w x y t j u hu
  rwa [addr_add] at this⟩⟩
theorem ints_row {w:World} (x y:Int) (t:TypeId):zeo (w.alloc (.cells #[.int .i64 x,.int .i64 y] t)) znt (some ⟨w.heap.size,0,none⟩) 2 2 [x,y]:=by
 refine ⟨rfl,Nat.le_refl _,by omega,fun _=>⟨_,_,rfl,fun i z hz=>?_⟩⟩;obtain ⟨_,hc⟩:=src_two (w:=w) (.int .i64 x) (.int .i64 y) t;obtain ⟨b,o,e,hcc⟩:=hc (by omega);injection e with e
 injection e with e1 e2
 subst e1 e2
 match i,hz with
 | 0,hz =>
  simp at hz;subst hz;exact ⟨_,hcc 0 _ rfl,rfl⟩
 | 1,hz =>
  simp at hz;subst hz;exact ⟨_,hcc 1 _ rfl,rfl⟩
set_option maxHeartbeats 400000 in
theorem zvj {A B:Option Addr} {n c m c':Nat} {xs ys:List Int} {w:World} (hx:zeo w znt A n c xs) (hy:zeo w znt B m c' ys) :
  Calls Tryz.prog 101 #[.slice A n c,.slice B m c'] w fun e w'=>e=.returned (.int .i64 (cmpW xs ys))∧w.alloc (.cells #[.int .i64 (cmpI xs.length ys.length),.int .i64 (lexI xs ys)] 3)=w':=by
 have hn:=hx.small;have hm:=hy.small;have hc1:=Lib.hid (zlu hx hy);have HE:=Lib.hid (orI_cmp xs ys);have h1:=hx.len;have h2:=hy.len;have HO:=Lib.hid (fun t=>cmpOr_any (ints_row (w:=w) (cmpI xs.length ys.length) (lexI xs ys) t));rw [h1,h2] at HE HO;rw [h1,h2];clear h1 h2 hx hy
 go_enter Tryz.func101,Tryz.ntmps101
 go_wp2_with (first | (go_at_call 163;refine (zla _ _ _).mono ?_;rintro e w' ⟨rfl,rfl⟩) | (go_at_call 164;refine hc1.out.mono ?_;rintro e w' ⟨rfl,rfl⟩) | (go_at_call 162;refine (HO.out _).mono ?_;rintro e w' ⟨rfl,rfl⟩))
 go_ret
 exact ⟨zld HE.out,rfl⟩
end
end Go.Proofs.YtedabpfahmealaaGreatDoor
namespace Go.Proofs
section
open Go.Shelf
def Tryz.sortW_ren:Go.Shelf.Ren:=⟨fun | 6=>186 | 15=>202 | 14=>211 | 28=>235 | 29=>236 | 20=>238 | 21=>239 | 22=>240 | 23=>241 | 24=>242 | 25=>243 | 26=>244 | 27=>245 | 46=>263 | 47=>258 | 48=>259 | 49=>264 | 50=>265 | 57=>273 | n=>n,fun | 22=>22 | 24=>51 | 25=>141 | 3=>3 | 39=>204 | 0=>0 | 53=>279 | 55=>281 | 4=>4 | 46=>273 | 45=>272 | 50=>159 | 5=>5 | 9=>9 | 66=>294 | 70=>298 | 76=>304 | 77=>287 | n=>n,fun | n=>n⟩
theorem Tryz.sortW:Go.Proofs.SlLaysF.n6 Tryz.prog Tryz.sortW_ren:={
 mixed:=by kernel_rfl
 f6:=⟨Tryz.f186.name,by decide,Tryz.func186.trans (congrArg some (by kernel_rfl))⟩
 f14:=⟨Tryz.f211.name,by decide,Tryz.func211.trans (congrArg some (by kernel_rfl))⟩
 f15:=Tryz.func202.trans (congrArg some (by kernel_rfl))
 f20:=⟨Tryz.f238.name,by decide,Tryz.func238.trans (congrArg some (by kernel_rfl))⟩
 f21:=⟨Tryz.f239.name,by decide,Tryz.func239.trans (congrArg some (by kernel_rfl))⟩
 f22:=⟨Tryz.f240.name,by decide,Tryz.func240.trans (congrArg some (by kernel_rfl))⟩
 f23:=⟨Tryz.f241.name,by decide,Tryz.func241.trans (congrArg some (by kernel_rfl))⟩
 f24:=⟨Tryz.f242.name,by decide,Tryz.func242.trans (congrArg some (by kernel_rfl))⟩
 f25:=⟨Tryz.f243.name,by decide,Tryz.func243.trans (congrArg some (by kernel_rfl))⟩
 f26:=⟨Tryz.f244.name,by decide,Tryz.func244.trans (congrArg some (by kernel_rfl))⟩
 f27:=⟨Tryz.f245.name,by decide,Tryz.func245.trans (congrArg some (by kernel_rfl))⟩
 f28:=Tryz.func235.trans (congrArg some (by kernel_rfl))
 f29:=Tryz.func236.trans (congrArg some (by kernel_rfl))
 f46:=⟨Tryz.f263.name,by decide,Tryz.func263.trans (congrArg some (by kernel_rfl))⟩
 f47:=Tryz.func258.trans (congrArg some (by kernel_rfl))
 f48:=Tryz.func259.trans (congrArg some (by kernel_rfl))
 f49:=⟨Tryz.f264.name,by decide,Tryz.func264.trans (congrArg some (by kernel_rfl))⟩
 f50:=⟨Tryz.f265.name,by decide,Tryz.func265.trans (congrArg some (by kernel_rfl))⟩
 f57:=⟨Tryz.f273.name,by decide,Tryz.func273.trans (congrArg some (by kernel_rfl))⟩
 t0:=Tryz.underlying0
 a0:=Tryz.isAgg0
 z0:=Tryz.sizeOf0
 v0:=Tryz.zeroValue0
 t3:=Tryz.underlying3
 a3:=Tryz.isAgg3
 z3:=Tryz.sizeOf3
 v3:=Tryz.zeroValue3
 t4:=Tryz.underlying4
 a4:=Tryz.isAgg4
 z4:=Tryz.sizeOf4
 v4:=Tryz.zeroValue4
 t5:=Tryz.underlying5
 a5:=Tryz.isAgg5
 z5:=Tryz.sizeOf5
 v5:=Tryz.zeroValue5
 t9:=Tryz.underlying9
 a9:=Tryz.isAgg9
 z9:=Tryz.sizeOf9
 v9:=Tryz.zeroValue9
 t22:=Tryz.underlying22
 a22:=Tryz.isAgg22
 z22:=Tryz.sizeOf22
 v22:=Tryz.zeroValue22
 a24:=Tryz.isAgg51
 z24:=Tryz.sizeOf51
 t25:=Tryz.underlying141
 a25:=Tryz.isAgg141
 z25:=Tryz.sizeOf141
 v25:=Tryz.zeroValue141
 t39:=Tryz.underlying204
 a39:=Tryz.isAgg204
 z39:=Tryz.sizeOf204
 v39:=Tryz.zeroValue204
 t45:=Tryz.underlying272
 a45:=Tryz.isAgg272
 z45:=Tryz.sizeOf272
 v45:=Tryz.zeroValue272
 t46:=Tryz.underlying273
 a46:=Tryz.isAgg273
 z46:=Tryz.sizeOf273
 v46:=Tryz.zeroValue273
 t50:=Tryz.underlying159
 a50:=Tryz.isAgg159
 z50:=Tryz.sizeOf159
 v50:=Tryz.zeroValue159
 t53:=Tryz.underlying279
 a53:=Tryz.isAgg279
 z53:=Tryz.sizeOf279
 v53:=Tryz.zeroValue279
 t55:=Tryz.underlying281
 a55:=Tryz.isAgg281
 z55:=Tryz.sizeOf281
 v55:=Tryz.zeroValue281
 t66:=Tryz.underlying294
 a66:=Tryz.isAgg294
 z66:=Tryz.sizeOf294
 v66:=Tryz.zeroValue294
 t70:=Tryz.underlying298
 a70:=Tryz.isAgg298
 z70:=Tryz.sizeOf298
 v70:=Tryz.zeroValue298
 t76:=Tryz.underlying304
 a76:=Tryz.isAgg304
 z76:=Tryz.sizeOf304
 v76:=Tryz.zeroValue304
 t77:=Tryz.underlying287
 a77:=Tryz.isAgg287
 z77:=Tryz.sizeOf287
 v77:=Tryz.zeroValue287 }
def Tryz.sortF_ren:Go.Shelf.Ren:=⟨fun | 14=>201 | 20=>227 | 21=>228 | 22=>229 | 23=>230 | 24=>231 | 25=>232 | 26=>233 | 27=>234 | 46=>257 | 47=>258 | 48=>259 | 49=>260 | 50=>261 | 15=>202 | 57=>268 | 28=>235 | 29=>236 | n=>n,fun | 24=>82 | 22=>25 | 3=>3 | 25=>182 | 4=>4 | 0=>0 | 46=>273 | 45=>272 | 50=>159 | 66=>294 | 39=>204 | 55=>281 | 70=>298 | 76=>304 | 77=>287 | 53=>279 | 5=>5 | 9=>9 | n=>n,fun | n=>n⟩
theorem Tryz.sortF:Go.Proofs.SlLaysF0.n14 Tryz.prog Tryz.sortF_ren:={
 mixed:=by kernel_rfl
 f14:=⟨Tryz.f201.name,by decide,Tryz.func201.trans (congrArg some (by kernel_rfl))⟩
 f15:=Tryz.func202.trans (congrArg some (by kernel_rfl))
 f20:=⟨Tryz.f227.name,by decide,Tryz.func227.trans (congrArg some (by kernel_rfl))⟩
 f21:=⟨Tryz.f228.name,by decide,Tryz.func228.trans (congrArg some (by kernel_rfl))⟩
 f22:=⟨Tryz.f229.name,by decide,Tryz.func229.trans (congrArg some (by kernel_rfl))⟩
 f23:=⟨Tryz.f230.name,by decide,Tryz.func230.trans (congrArg some (by kernel_rfl))⟩
 f24:=⟨Tryz.f231.name,by decide,Tryz.func231.trans (congrArg some (by kernel_rfl))⟩
 f25:=⟨Tryz.f232.name,by decide,Tryz.func232.trans (congrArg some (by kernel_rfl))⟩
 f26:=⟨Tryz.f233.name,by decide,Tryz.func233.trans (congrArg some (by kernel_rfl))⟩
 f27:=⟨Tryz.f234.name,by decide,Tryz.func234.trans (congrArg some (by kernel_rfl))⟩
 f28:=Tryz.func235.trans (congrArg some (by kernel_rfl))
 f29:=Tryz.func236.trans (congrArg some (by kernel_rfl))
 f46:=⟨Tryz.f257.name,by decide,Tryz.func257.trans (congrArg some (by kernel_rfl))⟩
 f47:=Tryz.func258.trans (congrArg some (by kernel_rfl))
 f48:=Tryz.func259.trans (congrArg some (by kernel_rfl))
 f49:=⟨Tryz.f260.name,by decide,Tryz.func260.trans (congrArg some (by kernel_rfl))⟩
 f50:=⟨Tryz.f261.name,by decide,Tryz.func261.trans (congrArg some (by kernel_rfl))⟩
 f57:=⟨Tryz.f268.name,by decide,Tryz.func268.trans (congrArg some (by kernel_rfl))⟩
 t0:=Tryz.underlying0
 a0:=Tryz.isAgg0
 z0:=Tryz.sizeOf0
 v0:=Tryz.zeroValue0
 t3:=Tryz.underlying3
 a3:=Tryz.isAgg3
 z3:=Tryz.sizeOf3
 v3:=Tryz.zeroValue3
 t4:=Tryz.underlying4
 a4:=Tryz.isAgg4
 z4:=Tryz.sizeOf4
 v4:=Tryz.zeroValue4
 t5:=Tryz.underlying5
 a5:=Tryz.isAgg5
 z5:=Tryz.sizeOf5
 v5:=Tryz.zeroValue5
 t9:=Tryz.underlying9
 a9:=Tryz.isAgg9
 z9:=Tryz.sizeOf9
 v9:=Tryz.zeroValue9
 t22:=Tryz.underlying25
 a22:=Tryz.isAgg25
 z22:=Tryz.sizeOf25
 v22:=Tryz.zeroValue25
 t25:=Tryz.underlying182
 a25:=Tryz.isAgg182
 z25:=Tryz.sizeOf182
 v25:=Tryz.zeroValue182
 t39:=Tryz.underlying204
 a39:=Tryz.isAgg204
 z39:=Tryz.sizeOf204
 v39:=Tryz.zeroValue204
 t45:=Tryz.underlying272
 a45:=Tryz.isAgg272
 z45:=Tryz.sizeOf272
 v45:=Tryz.zeroValue272
 t46:=Tryz.underlying273
 a46:=Tryz.isAgg273
 z46:=Tryz.sizeOf273
 v46:=Tryz.zeroValue273
 t50:=Tryz.underlying159
 a50:=Tryz.isAgg159
 z50:=Tryz.sizeOf159
 v50:=Tryz.zeroValue159
 t53:=Tryz.underlying279
 a53:=Tryz.isAgg279
 z53:=Tryz.sizeOf279
 v53:=Tryz.zeroValue279
 t55:=Tryz.underlying281
 a55:=Tryz.isAgg281
 z55:=Tryz.sizeOf281
 v55:=Tryz.zeroValue281
 t66:=Tryz.underlying294
 a66:=Tryz.isAgg294
 z66:=Tryz.sizeOf294
 v66:=Tryz.zeroValue294
 t70:=Tryz.underlying298
 a70:=Tryz.isAgg298
 z70:=Tryz.sizeOf298
 v70:=Tryz.zeroValue298
 t76:=Tryz.underlying304
 a76:=Tryz.isAgg304
 z76:=Tryz.sizeOf304
 v76:=Tryz.zeroValue304
 t77:=Tryz.underlying287
 a77:=Tryz.isAgg287
 z77:=Tryz.sizeOf287
 v77:=Tryz.zeroValue287 }
end
end Go.Proofs
namespace Go.Proofs.YtedabpfahmealaaGreatDoor.Sym
section
open Go.RowKit Go.Sort
set_option maxRecDepth 100000
theorem putRow_map {E:Type} [Inhabited E] (enc:E→Value) (w:World) (blk off:Nat) (d:Array E):putRow enc w blk off d=putRow id w blk off (d.map enc):=by
 unfold putRow;congr 1;funext c;unfold putCells;congr 1;funext k x;rw [Array.size_map];by_cases h:off≤k∧k<off+d.size
 ·have h1:k-off<d.size:=by omega
  rw [if_pos h,if_pos h,getElem!_pos d _ h1,getElem!_pos (d.map enc) _ (by simpa using h1)];simp
 ·rw [if_neg h,if_neg h]
theorem holds_map {E:Type} [Inhabited E] {enc:E→Value} {w:World} {blk off:Nat} {d:Array E} (h:Go.Sort.Holds id w blk off (d.map enc)):Go.Sort.Holds enc w blk off d:=fun j hj=>by
 have:=h j (by simpa using hj);rw [getElem!_pos (d.map enc) _ (by simpa using hj)] at this;rw [getElem!_pos d _ hj];simpa using this
def one1 (us:List Value):Value:=us.headD undef
theorem flat_one1 {E:Type} [Inhabited E] {enc:E→List Value} (hk:∀ x,(enc x).length=1) (d:Array E):Go.Sort.flatK enc 1 d=d.map fun x=>one1 (enc x):=by
 rw [zx7 hk]
 have:(d.toList.map enc).flatten=d.toList.map fun x=>one1 (enc x):=by
  generalize d.toList=l
  induction l with
  | nil=>rfl
  | cons x l ih =>
   rw [List.map_cons,List.flatten_cons,ih,List.map_cons];have:=hk x
   match h:enc x,this with
   | [v],_=>rfl
 rw [this];apply Array.ext';simp
theorem sortC_words:SortC Tryz.prog 186 1 one1:=by
 refine ⟨fun p cap fv w=>AnyF.slices_SortFunc_none { Tryz.sortW with } p cap fv w,?_⟩;intro E _ enc cf g blk cap d w hk h1 hO eg hcmp hH hblk hsz;have e1:∀ m (dk:Array E),putRow (fun x=>one1 (enc x)) (Sort.ahead w m) blk 0 dk=putRow id (Sort.ahead w m) blk 0 (Go.Sort.flatK enc 1 dk):=fun m dk=>by rw [flat_one1 hk,putRow_map]
 have hone:OneCell fun x=>one1 (enc x):=fun x=>by
  have h2:=hk x;have h3:=h1 x
  match h:enc x,h2 with
  | [v],_ =>
   show (one1 (enc x)).oneCell'=true;rw [h] at h3 ⊢;exact h3 v (by simp)
 refine (Any.slices_SortFunc Tryz.sortW (fun x=>one1 (enc x)) hone cf hO g #[] blk 0 cap d w eg (fun m os dk hs x y=>?_) (holds_map (by rw [← flat_one1 hk];exact hH)) hblk hsz).mono ?_
 ·have:=hcmp m os dk hs x y;unfold sortWorld;rw [e1];simpa using this
 ·rintro e w' ⟨he,d',n,os,hp,hs,hw⟩;exact ⟨he,d',n,os,hp,hs,by rw [hw];unfold sortWorld;rw [e1]⟩
theorem aggF:∀ w,(isAgg (Tryz.sortF_ren.t 24)).run Tryz.prog w=.ok true w:=Tryz.isAgg82
theorem sizF:∀ w,(Go.sizeOf (Tryz.sortF_ren.t 24)).run Tryz.prog w=.ok 2 w:=Tryz.sizeOf82
set_option maxHeartbeats 2000000 in
theorem sortC_finder:SortC Tryz.prog 156 2 (fun us=>.agg us.toArray):=by
 refine ⟨fun p cap fv w=>?_,?_⟩
 ·have hp:=fun lim W=>AnyF.pdqsortCmpFunc_none (P:=Tryz.prog) (ρ:=Tryz.sortF_ren) Tryz.sortF p cap lim fv W
  have hl:∀ W,Calls Tryz.prog 202 #[.int .u64 0] W fun e w'=>e=.returned (.int .i64 (Lib.bitLen 0:Nat))∧w'=W:=fun W=>by
   have h:=Any.bits_Len (SlLaysF0.n15.bits (P:=Tryz.prog) (ρ:=Tryz.sortF_ren) { Tryz.sortF with }) 0 W (by omega) (by omega);exact h
  go_enter Tryz.func156,Tryz.ntmps156
  go_wp2_with (first | (go_at_call 202;refine (hl _).mono ?_;rintro e w' ⟨rfl,rfl⟩) | (go_at_call 201;refine (hp _ _).mono ?_;rintro e w' ⟨rfl,rfl⟩))
  go_end0
  exact ⟨rfl,rfl⟩
 ·intro E _ enc cf g blk cap d w hk h1 hO eg hcmp hH hblk hsz;have hlim:Lib.bitLen d.size<4611686018427387904:=Nat.lt_of_le_of_lt (Lib.bitLen_le d.size 62 (by omega) (by omega)) (by omega)
  have hcmp':CmpLays Tryz.prog g #[] enc 2 cf blk 0 d.size w:=fun m os dk hs x y=>by
   unfold sortWorldK putRowK;simpa using hcmp m os dk hs x y
  have hp:=AnyQ.pdqsortCmpFunc_all (P:=Tryz.prog) (ρ:=Tryz.sortF_ren) Tryz.sortF 2 aggF sizF enc cf g #[] hO blk 0 cap d w eg hcmp' ⟨hk,h1,hH,hblk⟩ (d.size+1) 0 d.size (Lib.bitLen d.size) d w (by omega) rfl (SWK.start hH) (Nat.zero_le _) (Nat.le_refl _) hsz hlim (Or.inl rfl)
  have hl:Calls Tryz.prog 202 #[.int .u64 (d.size:Int)] w fun e w'=>e=.returned (.int .i64 (Lib.bitLen d.size:Nat))∧w'=w:=by
   have h:=Any.bits_Len (SlLaysF0.n15.bits (P:=Tryz.prog) (ρ:=Tryz.sortF_ren) { Tryz.sortF with }) (d.size:Int) w (by omega) (by omega)
   rwa [Int.toNat_natCast] at h
  have wr:IntKind.u64.wrap (d.size:Int)=d.size:=by simp [IntKind.wrap,IntKind.bits,IntKind.signed];omega
  have hps:=pdq_sorts (ltOf cf) hO d 0 d.size (Lib.bitLen d.size) true true (Nat.zero_le _) (Nat.le_refl _) (Or.inl rfl);clear hH hcmp hcmp' hk h1
  go_enter Tryz.func156,Tryz.ntmps156
  go_wp2_with (first | (go_at_call 202;refine hl.mono ?_;rintro e w' ⟨rfl,rfl⟩) | (go_at_call 201;refine hp.mono ?_;rintro e w' ⟨rfl,n,os,rfl⟩))
  go_end0
  exact ⟨rfl,_,n,os,hps.1,hps.2,rfl⟩
theorem cmpG_lex {f:List Int→List Int→Option Int} (hf:∀ x y r,x.length≤17592186044416→f x y=some r→r=lexI x y):CmpG Tryz.prog 126 (nL cI) f:=by
 intro W S u u' x y r h hu hu';obtain ⟨A,n,c,rfl,h1⟩:=zgo hu;have:=hf x y r (by rw [h1.len];exact h1.small) h;subst this;obtain ⟨B,m,c',rfl,h2⟩:=zgo hu';refine (zvo h1 h2).mono fun e w' ⟨he,hw⟩=>⟨he,0,#[],?_⟩;rw [← hw,Sort.grow_empty];rfl
theorem cmpG_compare {f:List Int→List Int→Option Int} (hf:∀ x y r,x.length≤17592186044416→f x y=some r→r=cmpW x y):CmpG Tryz.prog 101 (nL cI) f:=by
 intro W S u u' x y r h hu hu';obtain ⟨A,n,c,rfl,h1⟩:=zgo hu;have:=hf x y r (by rw [h1.len];exact h1.small) h;subst this;obtain ⟨B,m,c',rfl,h2⟩:=zgo hu';refine (zvj h1 h2).mono fun e w' ⟨he,hw⟩=>⟨he,0,#[.cells #[.int .i64 (cmpI x.length y.length),.int .i64 (lexI x y)] 3],?_⟩;rw [← hw,Sort.alloc_eq_grow];rfl
theorem rep_two {w:World} {S:Nat→Prop} {u:Value} {x y:IV} (h:RepI w S u (.agg [x,y])):∃ a b,u=.agg #[a,b]∧RepI w S a x∧RepI w S b y:=by
 generalize hz:IV.agg [x,y]=z at h;cases h with
 | agg us cs hl h1 hr =>
  injection hz with hz
  subst hz
  match us,hl with
  | [a,b],_=>exact ⟨a,b,rfl,hr 0 a x rfl rfl,hr 1 b y rfl rfl⟩
 | _=>cases hz
set_option maxHeartbeats 400000 in
theorem find1_any {A A' B B':Option Addr} {n c m c' p q p' q':Nat} {xs ys:List Int} {w:World} (hx:zeo w znt A n c xs) (hy:zeo w znt B m c' ys) :
  Calls Tryz.prog 157 #[.agg #[.slice A n c,.slice A' p q],.agg #[.slice B m c',.slice B' p' q']] w fun e w'=>e=.returned (.int .i64 (lexI xs ys))∧∃ q os,w'=Sort.grow (w.drewN q) os:=by
 have key:∀ o o',∃ q os,(w.alloc o).alloc o'=Sort.grow (w.drewN q) os:=fun o o'=>⟨0,#[o]++#[o'],by
  rw [Sort.alloc_eq_grow,Sort.alloc_eq_grow,Sort.grow_grow]
  rfl⟩
 have hx':∀ o o',zeo ((w.alloc o).alloc o') znt A n c xs:=fun o o'=>(hx.kept (zfr (World.grownBy_alloc w o none))).kept (zfr (World.grownBy_alloc _ o' none));have hy':∀ o o',zeo ((w.alloc o).alloc o') znt B m c' ys:=fun o o'=>(hy.kept (zfr (World.grownBy_alloc w o none))).kept (zfr (World.grownBy_alloc _ o' none))
 go_enter Tryz.func157,Tryz.ntmps157
 go_wp2_with (go_at_call 126;refine (zvo (hx' _ _) (hy' _ _)).mono ?_;rintro e w' ⟨rfl,rfl⟩)
 go_ret
 exact ⟨rfl,key _ _⟩
theorem cmpG_find1 {T:Type} {X:T→IV} {i o:T→List Int} (hX:∀ x,X x=.agg [nL cI (i x),nL cI (o x)]) {f:T→T→Option Int} (hf:∀ x y r,(i x).length≤17592186044416→f x y=some r→r=lexI (i x) (i y)):CmpG Tryz.prog 157 X f:=by
 intro W S u u' x y r h hu hu';rw [hX] at hu hu';obtain ⟨a,b,rfl,ha,hb⟩:=rep_two hu;obtain ⟨a',b',rfl,ha',hb'⟩:=rep_two hu';obtain ⟨A,n,c,rfl,h1⟩:=zgo ha;have:=hf x y r (by rw [h1.len];exact h1.small) h;subst this;obtain ⟨B,m,c',rfl,h2⟩:=zgo ha';obtain ⟨_,_,_,rfl,_⟩:=zgo hb;obtain ⟨_,_,_,rfl,_⟩:=zgo hb';exact find1_any h1 h2
theorem rep_of_one {W:World} {S:Nat→Prop} {us:List Value} {x:IV} (hl:us.length=1) (hr:zlf W S us [x]):RepI W S (one1 us) x:=by
 match us,hl with
 | [u],_=>exact hr.2 0 u x rfl rfl
def CmpE {T:Type} (P:Program) (g:FuncId) (X:T→IV) (f:T→T→Option Int):Prop:=(∀ args w,(callFunc g args).run P w=.ok (.enter g args) w)∧CmpG P g X f
end
section
open Go.RowKit
section
variable {P:Program}
end
def RelW (R:Value→IV→Prop) (us:List Value) (xs:List IV):Prop:=∀ (i:Nat) u x,us[i]?=some u→xs[i]?=some x→R u x
theorem RelW.append {R:Value→IV→Prop} {us vs:List Value} {xs ys:List IV} (hl:us.length=xs.length) (h1:RelW R us xs) (h2:RelW R vs ys):RelW R (us++vs) (xs++ys):=fun i u x hu hx=>by
 rcases Nat.lt_or_ge i us.length with h | h
 ·rw [List.getElem?_append_left h] at hu;rw [List.getElem?_append_left (by omega)] at hx;exact h1 i u x hu hx
 ·rw [List.getElem?_append_right h] at hu;rw [List.getElem?_append_right (by omega),← hl] at hx;exact h2 _ u x hu hx
theorem RelW.take {R:Value→IV→Prop} {us:List Value} {xs:List IV} (k:Nat) (h:RelW R us xs):RelW R (us.take k) (xs.take k):=fun i u x hu hx=>by
 rw [List.getElem?_take] at hu hx;split at hu
 ·rename_i g;rw [if_pos g] at hx;exact h i u x hu hx
 ·cases hu
theorem RelW.drop {R:Value→IV→Prop} {us:List Value} {xs:List IV} (k:Nat) (h:RelW R us xs):RelW R (us.drop k) (xs.drop k):=fun i u x hu hx=>by
 rw [List.getElem?_drop] at hu hx;exact h _ u x hu hx
end
section
open Go.RowKit
set_option maxRecDepth 100000
set_option linter.unusedVariables false
set_option maxHeartbeats 4000000
def zo1 {α:Type} (by_:Nat) (l:List α):Option (List α):=chk (zbm l.length by_) (some l)
def zd3 (l:List Int):Option (List Int):=zo1 8 l
theorem zee (l r:List Int) (h:zd3 l=some r):Sp Tryz.prog 102 [.im (nL cI l)] (.row 3 1 (List.map cI r)):=by
 obtain ⟨h1,h⟩:=zar h;injection h with h
 subst h;exact zp1 (by_:=8) (fun args w=>zge rfl rfl rfl args w) (by decide) clone_int (fun e he=>by obtain ⟨y,_,rfl⟩:=List.mem_map.1 he;rfl) (by rw [zkK];exact h1)
def zia (l:List (List Int)):Option (List (List Int)):=zo1 24 l
theorem zro (l r:List (List Int)) (h:zia l=some r):Sp Tryz.prog 185 [.im (nL (cL cI) l)] (.row 51 1 (List.map (cL cI) r)):=by
 obtain ⟨h1,h⟩:=zar h;injection h with h
 subst h;exact zp1 (by_:=24) (fun args w=>zge rfl rfl rfl args w) (by decide) clone_words (fun e he=>by obtain ⟨y,_,rfl⟩:=List.mem_map.1 he;rfl) (by rw [zkK];exact h1)
def zic (l:List (List Int)) (f:(List Int)→(List Int)→Option Int):Option (List (List Int)):=zsk l f
theorem zns (l:List (List Int)) (f:(List Int)→(List Int)→Option Int) (g:FuncId) (hd:CmpE Tryz.prog g (fun x=>nL cI x) f) (r:List (List Int)) (h:zic l f=some r):Sp Tryz.prog 186 [.lent (.row 51 1 (List.map (cL cI) l)),.im (.fn g [])] (.mk true [] [.lent (.row 51 1 (List.map (cL cI) r))]) :=
 zyd (fun args w=>zge rfl rfl rfl args w) sortC_words (by decide) (fun _=>rfl) (fun W S us x hl h1 hr=>rep_of_one hl hr) hd.1 hd.2 h
def zja (l:List zaa):Option (List zaa):=zo1 48 l
theorem zpt (l r:List zaa) (h:zja l=some r):Sp Tryz.prog 155 [.im (nL zad l)] (.row 82 2 (List.map zad r)):=by
 obtain ⟨h1,h⟩:=zar h;injection h with h
 subst h;exact zp1 (by_:=48) (fun args w=>zge rfl rfl rfl args w) (by decide) clone_traces (fun e he=>by obtain ⟨y,_,rfl⟩:=List.mem_map.1 he;rfl) (by rw [zkK];exact h1)
def zhj (l:List zaa) (f:zaa→zaa→Option Int):Option (List zaa):=zsk l f
theorem zna (l:List zaa) (f:zaa→zaa→Option Int) (g:FuncId) (hd:CmpE Tryz.prog g (fun x=>.agg (zad x)) f) (r:List zaa) (h:zhj l f=some r):Sp Tryz.prog 156 [.lent (.row 82 2 (List.map zad l)),.im (.fn g [])] (.mk true [] [.lent (.row 82 2 (List.map zad r))]) :=
 zyd (fun args w=>zge rfl rfl rfl args w) sortC_finder (by decide) (fun _=>rfl) (fun W S us x hl h1 hr=>.agg _ _ hr.1 h1 hr.2) hd.1 hd.2 h
end
section
open Go.RowKit
set_option maxRecDepth 100000
set_option linter.unusedVariables false
set_option maxHeartbeats 4000000
def zd7.s2 (a_:List Int) (b_:List Int) (i115:Nat):Option (Nat⊕Nat) :=
 (cond (decide ((↑i115:Int)<(↑(List.length a_):Int))) (cond (decide ((↑i115:Int)<(↑(List.length b_):Int))) (idxn a_ i115 fun e141=>idxn b_ i115 fun e142=>some (decide (e141=e142))) (some false)) (some false):Option (Bool)).bind (fun (y138:Bool)=>cond (y138) (chk (inR ((↑i115:Int)+1)) (some (.inl (i115+1)))) (some (.inr i115)))
def zd7 (a_:List Int) (b_:List Int):Option (Int) :=
 (iter (fun (s:Nat)=>zd7.s2 a_ b_ s) fuel 0:Option (Nat)).bind (fun (i100:Nat)=>some (↑i100:Int))
def zk1 (a_:List Int) (b_:List Int):Option (Bool) :=
 (cond (decide ((↑(List.length a_):Int)=(↑(List.length b_):Int))) ((zd7 a_ b_).bind fun c57=>some (decide (c57=(↑(List.length a_):Int)))) (some false):Option (Bool)).bind (fun (y55:Bool)=>some y55)
def zd4.s2 (a_:List (List Int)) (b_:List (List Int)) (i77:Nat):Option (Nat⊕(Unit⊕Bool)) :=
 cond (decide ((↑i77:Int)<(↑(List.length a_):Int))) (idxn a_ i77 fun e85=>idxn b_ i77 fun e86=>(zk1 e85 e86).bind fun c87=>cond ((!c87)) (some (.inr (.inr false))) (some (.inl (i77+1)))) (some (.inr (.inl ())))
def zd4 (a_:List (List Int)) (b_:List (List Int)):Option (Bool) :=
 cond (decide ((↑(List.length a_):Int)≠(↑(List.length b_):Int))) (some false) ((iter (fun (s:Nat)=>zd4.s2 a_ b_ s) fuel 0:Option (Unit⊕Bool)).bind (Sum.elim (fun (_:Unit)=>some true) some))
def zi1 (l_:zai):Option (zac) :=
 some (⟨l_.Inputs,l_.Short,l_.Suffixes⟩:zac)
def zf4.s2 (l_:List (List Int)) (i68:Nat):Option (Nat⊕(Unit⊕Bool)) :=
 cond (decide ((↑i68:Int)<(↑(List.length l_):Int))) (idxn l_ i68 fun e74=>cond (decide (30<(↑(List.length e74):Int))) (some (.inr (.inr true))) (some (.inl (i68+1)))) (some (.inr (.inl ())))
def zf4 (l_:List (List Int)) (most_:Int):Option (Bool) :=
 cond (decide (most_<(↑(List.length l_):Int))) (some true) ((iter (fun (s:Nat)=>zf4.s2 l_ s) fuel 0:Option (Unit⊕Bool)).bind (Sum.elim (fun (_:Unit)=>some false) some))
def ze8.s2 (o_:zab) (i80:Nat):Option (Nat⊕(Unit⊕Bool)) :=
 cond (decide ((↑i80:Int)<(↑(List.length o_.Traces):Int))) (idxn o_.Traces i80 fun e86=>cond (decide (90<(↑(List.length e86.In):Int))) (some (.inr (.inr true))) (some (.inl (i80+1)))) (some (.inr (.inl ())))
def ze8 (t_:zac) (o_:zab):Option (Bool) :=
 (cond (decide (4<t_.Inputs)) (some true) ((zf4 t_.Prefixes 30).bind fun c60=>cond (c60) (some true) ((zf4 t_.Suffixes 12).bind fun c62=>cond (c62) (some true) (some (decide (400<(↑(List.length o_.Traces):Int)))))):Option (Bool)).bind (fun (y58:Bool)=>cond (y58) (some true) ((iter (fun (s:Nat)=>ze8.s2 o_ s) fuel 0:Option (Unit⊕Bool)).bind (Sum.elim (fun (_:Unit)=>some false) some)))
def zrc (inputs_:Int):Option (Bool) :=
 (cond (decide (1≤inputs_)) (some (decide (inputs_≤1024))) (some false):Option (Bool)).bind (fun (y54:Bool)=>some y54)
def zdr.s2 (w_:List Int) (inputs_:Int) (i106:Nat):Option (Nat⊕(Unit⊕Int)) :=
 cond (decide ((↑i106:Int)<(↑(List.length w_):Int))) ((idxn w_ i106 fun e127=>cond (decide (e127<0)) (some true) (idxn w_ i106 fun e129=>some (decide (inputs_≤e129))):Option (Bool)).bind (fun (y126:Bool)=>cond (y126) (some (.inr (.inr 1))) (some (.inl (i106+1))))) (some (.inr (.inl ())))
def zdr (w_:List Int) (inputs_:Int):Option (Int) :=
 (zrc inputs_).bind fun c51=>cond ((!c51)) (some 2) (cond (decide (1024<(↑(List.length w_):Int))) (some 3) ((iter (fun (s:Nat)=>zdr.s2 w_ inputs_ s) fuel 0:Option (Unit⊕Int)).bind (Sum.elim (fun (_:Unit)=>some 0) some)))
def zwp (a_:List Int) (b_:List Int):Option (Int) :=
 (zd7 a_ b_).bind fun c51=>(cond (decide (c51=(↑(List.length a_):Int))) (some (decide (c51=(↑(List.length b_):Int)))) (some false):Option (Bool)).bind (fun (y55:Bool)=>cond (y55) (some 0) ((cond (decide (c51=(↑(List.length a_):Int))) (some (decide (c51=(↑(List.length a_):Int)))) (cond (decide (c51<(↑(List.length b_):Int))) (idx a_ c51 fun e69=>idx b_ c51 fun e70=>some (decide (e69<e70))) (some false)):Option (Bool)).bind (fun (y66:Bool)=>cond (y66) (some (-1:Int)) (some 1))))
def zdx (a_:List Int) (b_:List Int):Option (Int) :=
 cond (decide ((↑(List.length a_):Int)<(↑(List.length b_):Int))) (some (-1:Int)) (cond (decide ((↑(List.length b_):Int)<(↑(List.length a_):Int))) (some 1) ((zwp a_ b_).bind fun c53=>some c53))
def zcz.s2 (t_:zaa) (i101:Nat):Option (Nat⊕(Unit⊕Int)) :=
 cond (decide ((↑i101:Int)<(↑(List.length t_.Out):Int))) ((idxn t_.Out i101 fun e121=>cond (decide (e121<0)) (some true) (idxn t_.Out i101 fun e123=>some (decide (1048576<e123))):Option (Bool)).bind (fun (y120:Bool)=>cond (y120) (some (.inr (.inr 2))) (some (.inl (i101+1))))) (some (.inr (.inl ())))
def zcz (t_:zaa) (inputs_:Int):Option (Int) :=
 (zdr t_.In inputs_).bind fun c51=>cond (decide (c51≠0)) (some c51) (cond (decide ((↑(List.length t_.Out):Int)≠(↑(List.length t_.In):Int))) (some 1) ((iter (fun (s:Nat)=>zcz.s2 t_ s) fuel 0:Option (Unit⊕Int)).bind (Sum.elim (fun (_:Unit)=>some 0) some)))
def zdp (w_:List Int) (p_:List Int):Option (Bool) :=
 (zd7 w_ p_).bind fun c51=>some (decide (c51=(↑(List.length p_):Int)))
def zdg.s2 (a_:zaa) (b_:zaa) (c51:Int) (i73:Nat):Option (Nat⊕(Unit⊕Int)) :=
 cond (decide ((↑i73:Int)<c51)) (idxn a_.Out i73 fun e81=>idxn b_.Out i73 fun e82=>cond (decide (e81≠e82)) (some (.inr (.inr (↑i73:Int)))) (chk (inR ((↑i73:Int)+1)) (some (.inl (i73+1))))) (some (.inr (.inl ())))
def zdg (a_:zaa) (b_:zaa):Option (Int) :=
 (zd7 a_.In b_.In).bind fun c51=>(iter (fun (s:Nat)=>zdg.s2 a_ b_ c51 s) fuel 0:Option (Unit⊕Int)).bind (Sum.elim (fun (_:Unit)=>some (-1:Int)) some)
def zco.s30 (o_:zab) (i518:Nat) (prefix714:Bool) (clash715:Bool) (k716:Nat):Option ((Bool×Bool×Nat)⊕(Bool×Bool)) :=
 cond (decide ((↑k716:Int)<(↑(List.length o_.Traces):Int))) ((cond (prefix714) (some true) (idxn o_.Traces k716 fun e743=>idxn o_.Traces i518 fun e744=>(zdp e743.In e744.In).bind fun c745=>some c745):Option (Bool)).bind (fun (prefix741:Bool)=>cond (clash715) (some (.inl (prefix741,true,(k716+1)))) (idxn o_.Traces i518 fun e747=>idxn o_.Traces k716 fun e748=>(zdg e747 e748).bind fun c749=>some (.inl (prefix741,decide (0≤c749),(k716+1)))))) (some (.inr (prefix714,clash715)))
def zco.k31 (i518:Nat) (prefix693:Bool) (clash694:Bool):Option (Nat⊕(Unit⊕Int)) :=
 cond (prefix693) (some (.inr (.inr 7))) (cond (clash694) (some (.inr (.inr 13))) (some (.inl (i518+1))))
def zco.s32 (o_:zab) (i518:Nat):Option (Nat⊕(Unit⊕Int)) :=
 cond (decide ((↑i518:Int)<(↑(List.length o_.Traces):Int))) ((iter (fun (s:Bool×Bool×Nat)=>zco.s30 o_ i518 s.1 s.2.1 s.2.2) fuel (false,false,(i518+1)):Option (Bool×Bool)).bind (fun (s:Bool×Bool)=>zco.k31 i518 s.1 s.2)) (some (.inr (.inl ())))
def zco (o_:zab):Option (Int) :=
 (iter (fun (s:Nat)=>zco.s32 o_ s) fuel 0:Option (Unit⊕Int)).bind (Sum.elim (fun (_:Unit)=>some 0) some)
def zfy.s2 (o_:zab) (i129:Nat):Option (Nat⊕(Unit⊕Int)) :=
 cond (decide ((↑i129:Int)<(↑(List.length o_.Traces):Int))) (idxn o_.Traces i129 fun e149=>(zdr e149.In o_.Inputs).bind fun c150=>cond (decide (c150≠0)) (some (.inr (.inr c150))) (cond (decide ((↑(List.length e149.In):Int)=0)) (some (.inr (.inr 19))) ((zcz e149 o_.Inputs).bind fun c153=>cond (decide (c153≠0)) (some (.inr (.inr c153))) ((cond (decide (0<(↑i129:Int))) (idx o_.Traces ((↑i129:Int)-1) fun e162=>(zdx e162.In e149.In).bind fun c163=>some (decide (0≤c163))) (some false):Option (Bool)).bind (fun (y160:Bool)=>cond (y160) (some (.inr (.inr 10))) (some (.inl (i129+1)))))))) (some (.inr (.inl ())))
def zfy (o_:zab):Option (Int) :=
 (cond (decide (o_.Inputs<1)) (some true) (some (decide (64<o_.Inputs))):Option (Bool)).bind (fun (y54:Bool)=>cond (y54) (some 2) (cond (decide (10000<(↑(List.length o_.Traces):Int))) (some 11) ((iter (fun (s:Nat)=>zfy.s2 o_ s) fuel 0:Option (Unit⊕Int)).bind (Sum.elim (fun (_:Unit)=>(zco o_).bind fun c165=>some c165) some))))
def znh (l_:zai) (o_:zab):Option (Bool) :=
 ((zi1 l_).bind fun c58=>(ze8 c58 o_).bind fun c59=>cond (c59) (some true) ((zfy o_).bind fun c61=>some (decide (c61≠0))):Option (Bool)).bind (fun (y57:Bool)=>some y57)
def ziv.s2 (inputs_:Int) (y72:List (List Int)) (y73:Nat):Option ((List (List Int)×Nat)⊕List (List Int)) :=
 cond (decide ((↑y73:Int)<inputs_)) (chk (zbm (List.length y72+1) 24) (chk (inR ((↑y73:Int)+1)) (some (.inl ((y72++[[(↑y73:Int)]]),(y73+1)))))) (some (.inr y72))
def ziv (inputs_:Int):Option (zac×Int) :=
 (cond (decide (inputs_<1)) (some true) (some (decide (64<inputs_))):Option (Bool)).bind (fun (y54:Bool)=>cond (y54) (some ((⟨0,[],[]⟩:zac),2)) ((iter (fun (s:List (List Int)×Nat)=>ziv.s2 inputs_ s.1 s.2) fuel ([],0):Option (List (List Int))).bind (fun (y70:List (List Int))=>some ((⟨inputs_,[[]],y70⟩:zac),0))))
def zt1 (inputs_:Int):Option (zai×Int) :=
 (ziv inputs_).bind fun c51=>cond (decide (c51.2≠0)) (some ((⟨0,[],[]⟩:zai),c51.2)) (some ((⟨inputs_,c51.1.Prefixes,c51.1.Suffixes⟩:zai),0))
def L23_Gate:Option (zab) :=
 some (⟨2,[(⟨[0,0],[1,1]⟩:zaa),(⟨[0,1],[1,2]⟩:zaa),(⟨[1,0],[0,1]⟩:zaa),(⟨[1,1],[0,0]⟩:zaa)]⟩:zab)
def zaw.s2 (x_:List (List Int)) (target_:List Int) (cmp_:(List Int)→(List Int)→Option Int) (i90:Int) (j91:Int):Option ((Int×Int)⊕Int) :=
 cond (decide (i90<j91)) (chk (inR (i90+j91)) (chk ((0:Int)≤(i90+j91)∧(i90+j91)≤18446744073709551615) (chk ((0:Int)≤(i90+j91)∧(i90+j91)≤18446744073709551615) (chk (inR ((i90+j91) / 2^1)) (idx x_ ((i90+j91) / 2^1) fun e107=>(cmp_ e107 target_).bind fun c108=>cond (decide (c108<0)) (chk (inR (((i90+j91) / 2^1)+1)) (some (.inl ((((i90+j91) / 2^1)+1),j91)))) (some (.inl (i90,((i90+j91) / 2^1))))))))) (some (.inr i90))
def zaw (x_:List (List Int)) (target_:List Int) (cmp_:(List Int)→(List Int)→Option Int):Option (Int×Bool) :=
 (iter (fun (s:Int×Int)=>zaw.s2 x_ target_ cmp_ s.1 s.2) fuel (0,(↑(List.length x_):Int)):Option (Int)).bind (fun (i82:Int)=>(cond (decide (i82<(↑(List.length x_):Int))) (idx x_ i82 fun e122=>(cmp_ e122 target_).bind fun c123=>some (decide (c123=0))) (some false):Option (Bool)).bind (fun (y120:Bool)=>some (i82,y120)))
def cmp_isNaN_int (x_:Int):Option (Bool) :=
 some (decide (x_≠x_))
def cmp_Compare_int (x_:Int) (y_:Int):Option (Int) :=
 (cmp_isNaN_int x_).bind fun c51=>(cmp_isNaN_int y_).bind fun c52=>cond (c51) (cond (c52) (some 0) (some (-1:Int))) (cond (c52) (some 1) (cond (decide (x_<y_)) (some (-1:Int)) (cond (decide (y_<x_)) (some 1) (some 0))))
def zbh.s2 (s1_:List Int) (s2_:List Int) (y80:Nat):Option (Nat⊕(Unit⊕Int)) :=
 cond (decide ((↑y80:Int)<(↑(List.length s1_):Int))) (idxn s1_ y80 fun e89=>cond (decide ((↑(List.length s2_):Int)≤(↑y80:Int))) (some (.inr (.inr 1))) (idxn s2_ y80 fun e91=>(cmp_Compare_int e89 e91).bind fun c92=>cond (decide (c92≠0)) (some (.inr (.inr c92))) (some (.inl (y80+1))))) (some (.inr (.inl ())))
def zbh (s1_:List Int) (s2_:List Int):Option (Int) :=
 (iter (fun (s:Nat)=>zbh.s2 s1_ s2_ s) fuel 0:Option (Unit⊕Int)).bind (Sum.elim (fun (_:Unit)=>cond (decide ((↑(List.length s1_):Int)<(↑(List.length s2_):Int))) (some (-1:Int)) (some 0)) some)
def zea.s2 (vals_:List Int) (y67:Nat):Option (Nat⊕(Unit⊕Int)) :=
 cond (decide ((↑y67:Int)<(↑(List.length vals_):Int))) (idxn vals_ y67 fun e73=>cond (decide (e73≠0)) (some (.inr (.inr e73))) (some (.inl (y67+1)))) (some (.inr (.inl ())))
def zea (vals_:List Int):Option (Int) :=
 (iter (fun (s:Nat)=>zea.s2 vals_ s) fuel 0:Option (Unit⊕Int)).bind (Sum.elim (fun (_:Unit)=>some 0) some)
def zcw (a_:List Int) (b_:List Int):Option (Int) :=
 (cmp_Compare_int (↑(List.length a_):Int) (↑(List.length b_):Int)).bind fun c51=>(zbh a_ b_).bind fun c52=>(zea [c51,c52]).bind fun c53=>some c53
def zj8 (l_:List (List Int)) (w_:List Int):Option (List (List Int)) :=
 (zaw l_ w_ (fun u0 u1=>zcw u0 u1)).bind fun c51=>cond (c51.2) (some l_) (chk ((0:Int)≤c51.1∧c51.1≤(↑(List.length l_):Int)) ((zd3 w_).bind fun c54=>chk (zbm (List.length (List.take (Int.toNat c51.1) l_)+1) 24) (chk ((0:Int)≤c51.1∧c51.1≤(↑(List.length l_):Int)) (chk (zbm (List.length ((List.take (Int.toNat c51.1) l_)++[c54])+List.length (List.drop (Int.toNat c51.1) l_)) 24) (some (((List.take (Int.toNat c51.1) l_)++[c54])++(List.drop (Int.toNat c51.1) l_)))))))
def za8.s2 (s1_:List Int) (s2_:List Int) (y73:Nat):Option (Nat⊕(Unit⊕Bool)) :=
 cond (decide ((↑y73:Int)<(↑(List.length s1_):Int))) (idxn s1_ y73 fun e80=>idxn s2_ y73 fun e81=>cond (decide (e80≠e81)) (some (.inr (.inr false))) (some (.inl (y73+1)))) (some (.inr (.inl ())))
def za8 (s1_:List Int) (s2_:List Int):Option (Bool) :=
 cond (decide ((↑(List.length s1_):Int)≠(↑(List.length s2_):Int))) (some false) ((iter (fun (s:Nat)=>za8.s2 s1_ s2_ s) fuel 0:Option (Unit⊕Bool)).bind (Sum.elim (fun (_:Unit)=>some true) some))
def zgr (v_:List Int) (p1_:List Int):Option (Bool) :=
 (za8 v_ p1_).bind fun c51=>some c51
def za2.s2 (s_:List (List Int)) (f_:(List Int)→Option Bool) (y71:Nat):Option (Nat⊕(Unit⊕Int)) :=
 cond (decide ((↑y71:Int)<(↑(List.length s_):Int))) (idxn s_ y71 fun e78=>(f_ e78).bind fun c79=>cond (c79) (some (.inr (.inr (↑y71:Int)))) (some (.inl (y71+1)))) (some (.inr (.inl ())))
def za2 (s_:List (List Int)) (f_:(List Int)→Option Bool):Option (Int) :=
 (iter (fun (s:Nat)=>za2.s2 s_ f_ s) fuel 0:Option (Unit⊕Int)).bind (Sum.elim (fun (_:Unit)=>some (-1:Int)) some)
def zcs (s_:List (List Int)) (f_:(List Int)→Option Bool):Option (Bool) :=
 (za2 s_ f_).bind fun c51=>some (decide (0≤c51))
def zke (l_:List (List Int)) (w_:List Int):Option (Bool) :=
 (zcs l_ (fun u0=>zgr u0 w_)).bind fun c51=>some c51
def zgm (l_:zai):Option (zac) :=
 some (⟨l_.Inputs,l_.Short,l_.Suffixes⟩:zac)
def zhc (inputs_:Int):Option (Bool) :=
 (cond (decide (1≤inputs_)) (some (decide (inputs_≤1024))) (some false):Option (Bool)).bind (fun (y54:Bool)=>some y54)
def zho (a_:Int) (p1_:Int):Option (Bool) :=
 (cond (decide (a_<0)) (some true) (some (decide (p1_≤a_))):Option (Bool)).bind (fun (y54:Bool)=>some y54)
def za6.s2 (s_:List Int) (f_:Int→Option Bool) (y71:Nat):Option (Nat⊕(Unit⊕Int)) :=
 cond (decide ((↑y71:Int)<(↑(List.length s_):Int))) (idxn s_ y71 fun e78=>(f_ e78).bind fun c79=>cond (c79) (some (.inr (.inr (↑y71:Int)))) (some (.inl (y71+1)))) (some (.inr (.inl ())))
def za6 (s_:List Int) (f_:Int→Option Bool):Option (Int) :=
 (iter (fun (s:Nat)=>za6.s2 s_ f_ s) fuel 0:Option (Unit⊕Int)).bind (Sum.elim (fun (_:Unit)=>some (-1:Int)) some)
def zc1 (s_:List Int) (f_:Int→Option Bool):Option (Bool) :=
 (za6 s_ f_).bind fun c51=>some (decide (0≤c51))
def zhn (w_:List Int) (inputs_:Int):Option (Int) :=
 (zhc inputs_).bind fun c51=>cond ((!c51)) (some 2) (cond (decide (1024<(↑(List.length w_):Int))) (some 3) ((zc1 w_ (fun u0=>zho u0 inputs_)).bind fun c54=>cond (c54) (some 1) (some 0)))
def zfn (l_:List (List Int)) (i_:Int):Option (Bool) :=
 (cond (decide (i_=0)) (some true) (chk (inR (i_-1)) (idx l_ (i_-1) fun e61=>idx l_ i_ fun e62=>(zcw e61 e62).bind fun c63=>some (decide (c63<0)))):Option (Bool)).bind (fun (y58:Bool)=>some y58)
def zcu.s2 (l_:List (List Int)) (n65:Int) (y66:Nat):Option ((Int×Nat)⊕Int) :=
 cond (decide ((↑y66:Int)<(↑(List.length l_):Int))) (idxn l_ y66 fun e71=>some (.inl ((max n65 (↑(List.length e71):Int)),(y66+1)))) (some (.inr n65))
def zcu (l_:List (List Int)):Option (Int) :=
 (iter (fun (s:Int×Nat)=>zcu.s2 l_ s.1 s.2) fuel (0,0):Option (Int)).bind (fun (n62:Int)=>some n62)
def zbl.s2 (t_:zac) (y90:List (ByteArray×Bool)) (y91:Nat):Option (((List (ByteArray×Bool))×Nat)⊕((List (ByteArray×Bool)))) :=
 cond (decide ((↑y91:Int)<(↑(List.length t_.Prefixes):Int))) (idxn t_.Prefixes y91 fun e97=>(zlr e97).bind fun c98=>some (.inl ((mset c98 true y90),(y91+1)))) (some (.inr y90))
def zbl.s4 (t_:zac) (y86:List (ByteArray×Bool)) (y220:Nat):Option (Nat⊕(Unit⊕Int)) :=
 cond (decide ((↑y220:Int)<(↑(List.length t_.Prefixes):Int))) (idxn t_.Prefixes y220 fun e252=>(zhn e252 t_.Inputs).bind fun c253=>cond (decide (c253≠0)) (some (.inr (.inr c253))) ((cond (decide ((↑y220:Int)=0)) (cond (decide (0<(↑(List.length e252):Int))) (some true) ((zfn t_.Prefixes (↑y220:Int)).bind fun c264=>some (!c264))) ((zfn t_.Prefixes (↑y220:Int)).bind fun c265=>some (!c265)):Option (Bool)).bind (fun (y261:Bool)=>cond (y261) (some (.inr (.inr 10))) ((cond (decide (0<(↑(List.length e252):Int))) (chk ((0:Int)≤((↑(List.length e252):Int)-1)∧((↑(List.length e252):Int)-1)≤(↑(List.length e252):Int)) ((zlr (List.take (Int.toNat ((↑(List.length e252):Int)-1)) e252)).bind fun c277=>some (!((mget c277 y86).getD false)))) (some false):Option (Bool)).bind (fun (y274:Bool)=>cond (y274) (some (.inr (.inr 1))) (some (.inl (y220+1)))))))) (some (.inr (.inl ())))
def zbl.s6 (t_:zac) (y313:Nat):Option (Nat⊕(Unit⊕Int)) :=
 cond (decide ((↑y313:Int)<(↑(List.length t_.Suffixes):Int))) (idxn t_.Suffixes y313 fun e323=>(zhn e323 t_.Inputs).bind fun c324=>cond (decide (c324≠0)) (some (.inr (.inr c324))) (cond (decide ((↑(List.length e323):Int)=0)) (some (.inr (.inr 19))) ((zfn t_.Suffixes (↑y313:Int)).bind fun c327=>cond ((!c327)) (some (.inr (.inr 10))) (some (.inl (y313+1)))))) (some (.inr (.inl ())))
def zbl (t_:zac):Option (Int) :=
 (cond (decide (t_.Inputs<1)) (some true) (some (decide (64<t_.Inputs))):Option (Bool)).bind (fun (y54:Bool)=>cond (y54) (some 2) (cond (decide ((↑(List.length t_.Prefixes):Int)=0)) (some 19) ((cond (decide (10000<(↑(List.length t_.Prefixes):Int))) (some true) (cond (decide (10000<(↑(List.length t_.Suffixes):Int))) (some true) (chk (inR (t_.Inputs+1)) (chk (inR ((↑(List.length t_.Prefixes):Int)*(t_.Inputs+1))) (chk (inR (((↑(List.length t_.Prefixes):Int)*(t_.Inputs+1))*(↑(List.length t_.Suffixes):Int))) (some (decide (160000<(((↑(List.length t_.Prefixes):Int)*(t_.Inputs+1))*(↑(List.length t_.Suffixes):Int))))))))):Option (Bool)).bind (fun (y65:Bool)=>cond (y65) (some 11) ((iter (fun (s:(List (ByteArray×Bool))×Nat)=>zbl.s2 t_ s.1 s.2) fuel (([]:List (ByteArray×Bool)),0):Option ((List (ByteArray×Bool)))).bind (fun (y86:(List (ByteArray×Bool)))=>(iter (fun (s:Nat)=>zbl.s4 t_ y86 s) fuel 0:Option (Unit⊕Int)).bind (Sum.elim (fun (_:Unit)=>(iter (fun (s:Nat)=>zbl.s6 t_ s) fuel 0:Option (Unit⊕Int)).bind (Sum.elim (fun (_:Unit)=>(cond (decide ((↑(List.length t_.Suffixes):Int)<t_.Inputs)) (some true) (chk (inR (t_.Inputs-1)) (idx t_.Suffixes (t_.Inputs-1) fun e338=>some (decide (1<(↑(List.length e338):Int))))):Option (Bool)).bind (fun (y335:Bool)=>cond (y335) (some 1) ((zcu t_.Prefixes).bind fun c340=>(zcu t_.Suffixes).bind fun c341=>chk (inR (c340+c341)) (cond (decide (1023<(c340+c341))) (some 3) (some 0))))) some)) some)))))))
def zdw.s2 (l_:zai) (y110:Nat):Option (Nat⊕(Unit⊕Int)) :=
 cond (decide ((↑y110:Int)<(↑(List.length l_.Suffixes):Int))) (idxn l_.Suffixes y110 fun e126=>(cond (decide (1<(↑(List.length e126):Int))) (chk ((0:Int)≤1∧1≤(↑(List.length e126):Int)) ((zke l_.Suffixes (List.drop 1 e126)).bind fun c135=>some (!c135))) (some false):Option (Bool)).bind (fun (y132:Bool)=>cond (y132) (some (.inr (.inr 1))) (some (.inl (y110+1))))) (some (.inr (.inl ())))
def zdw (l_:zai):Option (Int) :=
 (zgm l_).bind fun c51=>(zbl c51).bind fun c52=>cond (decide (c52≠0)) (some c52) ((iter (fun (s:Nat)=>zdw.s2 l_ s) fuel 0:Option (Unit⊕Int)).bind (Sum.elim (fun (_:Unit)=>some 0) some))
def ziq (l_:zai) (o_:zab):Option (Int) :=
 (zdw l_).bind fun c51=>cond (decide (c51≠0)) (some c51) (cond (decide (l_.Inputs≠o_.Inputs)) (some 15) (some 0))
def za3.s2 (slices_:List (List Int)) (size73:Nat) (y74:Nat):Option ((Nat×Nat)⊕Nat) :=
 cond (decide ((↑y74:Int)<(↑(List.length slices_):Int))) (idxn slices_ y74 fun e81=>chk (inR ((↑size73:Int)+(↑(List.length e81):Int))) (cond (decide (((↑size73:Int)+(↑(List.length e81):Int))<0)) (none) (some (.inl ((size73+(List.length e81)),(y74+1)))))) (some (.inr size73))
def za3.s4 (slices_:List (List Int)) (y106:List Int) (y107:Nat):Option ((List Int×Nat)⊕List Int) :=
 cond (decide ((↑y107:Int)<(↑(List.length slices_):Int))) (idxn slices_ y107 fun e113=>chk (zbm (List.length y106+List.length e113) 8) (some (.inl ((y106++e113),(y107+1))))) (some (.inr y106))
def za3 (slices_:List (List Int)):Option (List Int) :=
 (iter (fun (s:Nat×Nat)=>za3.s2 slices_ s.1 s.2) fuel (0,0):Option (Nat)).bind (fun (size68:Nat)=>(zny (↑size68:Int)).bind fun c86=>(iter (fun (s:List Int×Nat)=>za3.s4 slices_ s.1 s.2) fuel (c86,0):Option (List Int)).bind (fun (y102:List Int)=>some y102))
def zfw (parts_:List (List Int)):Option (List Int) :=
 (za3 parts_).bind fun c51=>some c51
def ze1 (w_:List Int) (a_:Int):Option (List Int) :=
 (zfw [w_,[a_]]).bind fun c51=>some c51
def zfd (a_:List Int) (b_:List Int) (p2_:(List Int)→(List Int)→Option Int):Option (Bool) :=
 (p2_ a_ b_).bind fun c51=>some (decide (c51=0))
def zam.s18 (eq_:(List Int)→(List Int)→Option Bool) (k356:Nat) (y481:List (List Int)) (k482:Nat) (y483:Nat):Option ((List (List Int)×Nat×Nat)⊕(List (List Int)×Nat)) :=
 cond (decide ((↑y483:Int)<(↑(List.length y481-k356):Int))) (idxn y481 (k356+y483) fun e495=>chk ((0:Int)≤((↑y483:Int)-1)) (idxn y481 (k356+(Int.toNat ((↑y483:Int)-1))) fun e496=>(eq_ e495 e496).bind fun c498=>cond ((!c498)) (idxn y481 (k356+y483) fun e500=>idxn y481 k482 fun e501=>chk (inR ((↑k482:Int)+1)) (some (.inl ((List.set y481 k482 e500),(k482+1),(y483+1))))) (some (.inl (y481,k482,(y483+1)))))) (some (.inr (y481,k482)))
def zam.k19 (y471:List (List Int)) (k472:Nat):Option (Nat⊕(Unit⊕List (List Int))) :=
 chk ((0:Int)≤(↑k472:Int)∧(↑k472:Int)≤(↑(List.length y471):Int)∧0<List.length y471) (chk (k472≤List.length y471) (chk ((0:Int)≤(↑k472:Int)∧(↑k472:Int)≤(↑(List.length (List.take k472 y471++List.replicate (List.length y471-k472) [])):Int)∧0<List.length (List.take k472 y471++List.replicate (List.length y471-k472) [])) (some (.inr (.inr (List.take k472 (List.take k472 y471++List.replicate (List.length y471-k472) [])))))))
def zam.s20 (s_:List (List Int)) (eq_:(List Int)→(List Int)→Option Bool) (k356:Nat):Option (Nat⊕(Unit⊕List (List Int))) :=
 cond (decide ((↑k356:Int)<(↑(List.length s_):Int))) (idxn s_ k356 fun e434=>idx s_ ((↑k356:Int)-1) fun e435=>(eq_ e434 e435).bind fun c436=>cond (c436) (chk ((0:Int)≤(↑k356:Int)∧(↑k356:Int)≤(↑(List.length s_):Int)∧0<List.length s_) ((iter (fun (s:List (List Int)×Nat×Nat)=>zam.s18 eq_ k356 s.1 s.2.1 s.2.2) fuel (s_,k356,1):Option (List (List Int)×Nat)).bind (fun (s:List (List Int)×Nat)=>zam.k19 s.1 s.2))) (some (.inl (k356+1)))) (some (.inr (.inl ())))
def zam (s_:List (List Int)) (eq_:(List Int)→(List Int)→Option Bool):Option (List (List Int)) :=
 cond (decide ((↑(List.length s_):Int)<2)) (some s_) ((iter (fun (s:Nat)=>zam.s20 s_ eq_ s) fuel 1:Option (Unit⊕List (List Int))).bind (Sum.elim (fun (_:Unit)=>some s_) some))
def zcn.s2 (c53:List (List Int)) (y78:List (List Int)) (y79:Nat):Option ((List (List Int)×Nat)⊕List (List Int)) :=
 cond (decide ((↑y79:Int)<(↑(List.length c53):Int))) (idxn y78 y79 fun e87=>(zd3 e87).bind fun c88=>idxn y78 y79 fun e89=>chk (inR ((↑y79:Int)+1)) (some (.inl ((List.set y78 y79 c88),(y79+1))))) (some (.inr y78))
def zcn (l_:List (List Int)) (order_:(List Int)→(List Int)→Option Int):Option (List (List Int)) :=
 (zia l_).bind fun c51=>(zic c51 order_).bind fun c52=>(zam c52 (fun u0 u1=>zfd u0 u1 order_)).bind fun c53=>(iter (fun (s:List (List Int)×Nat)=>zcn.s2 c53 s.1 s.2) fuel (c53,0):Option (List (List Int))).bind (fun (y73:List (List Int))=>some y73)
def zeb.s2 (a_:List Int) (b_:List Int) (y72:Nat):Option (Nat⊕(Unit⊕Int)) :=
 cond (decide ((↑y72:Int)<(min (↑(List.length a_):Int) (↑(List.length b_):Int)))) (idxn a_ y72 fun e79=>idxn b_ y72 fun e80=>cond (decide (e79≠e80)) (some (.inr (.inr (↑y72:Int)))) (some (.inl (y72+1)))) (some (.inr (.inl ())))
def zeb (a_:List Int) (b_:List Int):Option (Int) :=
 (iter (fun (s:Nat)=>zeb.s2 a_ b_ s) fuel 0:Option (Unit⊕Int)).bind (Sum.elim (fun (_:Unit)=>some (min (↑(List.length a_):Int) (↑(List.length b_):Int))) some)
def zem (w_:List Int) (p_:List Int):Option (Bool) :=
 (zeb w_ p_).bind fun c51=>some (decide (c51=(↑(List.length p_):Int)))
def zha (l_:List (List Int)):Option (List (List Int)) :=
 (zcn l_ (fun u0 u1=>zcw u0 u1)).bind fun c51=>some c51
def zit (a_:List Int) (b_:List Int):Option (Int) :=
 (zbh a_ b_).bind fun c51=>some c51
def zcf.s2 (c51:List (List Int)) (y119:List (List Int)) (y120:Nat):Option ((List (List Int)×Nat)⊕List (List Int)) :=
 cond (decide ((↑y120:Int)<(↑(List.length c51):Int))) (idxn c51 y120 fun e139=>(cond (decide (((↑y120:Int)+1)=(↑(List.length c51):Int))) (some true) (idxn c51 (y120+1) fun e147=>(zem e147 e139).bind fun c148=>some (!c148)):Option (Bool)).bind (fun (y145:Bool)=>cond (y145) (chk (zbm (List.length y119+1) 24) (some (.inl ((y119++[e139]),(y120+1))))) (some (.inl (y119,(y120+1)))))) (some (.inr y119))
def zcf (l_:List (List Int)):Option (List (List Int)) :=
 (zcn l_ (fun u0 u1=>zit u0 u1)).bind fun c51=>(iter (fun (s:List (List Int)×Nat)=>zcf.s2 c51 s.1 s.2) fuel ([],0):Option (List (List Int))).bind (fun (y104:List (List Int))=>(zha y104).bind fun c157=>some c157)
def zhe (t_:zac) (o_:zab):Option (Int) :=
 (zbl t_).bind fun c51=>cond (decide (c51≠0)) (some c51) (cond (decide (t_.Inputs≠o_.Inputs)) (some 15) (some 0))
def zcd (a_:zaa) (b_:zaa):Option (Int) :=
 (zit a_.In b_.In).bind fun c51=>some c51
def zik (o_:zab):Option (List zaa) :=
 (zja o_.Traces).bind fun c51=>(zhj c51 (fun u0 u1=>zcd u0 u1)).bind fun c52=>some c52
def zap.s2 (x_:List zaa) (target_:List Int) (cmp_:zaa→(List Int)→Option Int) (i90:Int) (j91:Int):Option ((Int×Int)⊕Int) :=
 cond (decide (i90<j91)) (chk (inR (i90+j91)) (chk ((0:Int)≤(i90+j91)∧(i90+j91)≤18446744073709551615) (chk ((0:Int)≤(i90+j91)∧(i90+j91)≤18446744073709551615) (chk (inR ((i90+j91) / 2^1)) (idx x_ ((i90+j91) / 2^1) fun e107=>(cmp_ e107 target_).bind fun c108=>cond (decide (c108<0)) (chk (inR (((i90+j91) / 2^1)+1)) (some (.inl ((((i90+j91) / 2^1)+1),j91)))) (some (.inl (i90,((i90+j91) / 2^1))))))))) (some (.inr i90))
def zap (x_:List zaa) (target_:List Int) (cmp_:zaa→(List Int)→Option Int):Option (Int×Bool) :=
 (iter (fun (s:Int×Int)=>zap.s2 x_ target_ cmp_ s.1 s.2) fuel (0,(↑(List.length x_):Int)):Option (Int)).bind (fun (i82:Int)=>(cond (decide (i82<(↑(List.length x_):Int))) (idx x_ i82 fun e122=>(cmp_ e122 target_).bind fun c123=>some (decide (c123=0))) (some false):Option (Bool)).bind (fun (y120:Bool)=>some (i82,y120)))
def zcc (t_:zaa) (w_:List Int):Option (Int) :=
 (zit t_.In w_).bind fun c51=>some c51
def zd0 (f_:List zaa) (w_:List Int):Option (List Int×Bool) :=
 cond (decide ((↑(List.length w_):Int)=0)) (some ([],true)) ((zap f_ w_ (fun u0 u1=>zcc u0 u1)).bind fun c52=>(cond (decide (c52.1=(↑(List.length f_):Int))) (some true) (idx f_ c52.1 fun e62=>(zem e62.In w_).bind fun c63=>cond ((!c63)) (some true) (idx f_ c52.1 fun e65=>some (decide ((↑(List.length e65.Out):Int)<(↑(List.length w_):Int))))):Option (Bool)).bind (fun (y60:Bool)=>cond (y60) (some ([],false)) (idx f_ c52.1 fun e69=>chk ((0:Int)≤(↑(List.length w_):Int)∧(↑(List.length w_):Int)≤(↑(List.length e69.Out):Int)) (some ((List.take (List.length w_) e69.Out),true)))))
def zey (f_:List zaa) (w_:List Int):Option (Bool) :=
 (zd0 f_ w_).bind fun c51=>some c51.2
def zcp.s2 (w_:List Int) (p1_:zac) (p2_:List zaa) (y83:List (List Int)) (y84:Nat):Option ((List (List Int)×Nat)⊕List (List Int)) :=
 cond (decide ((↑y84:Int)<(↑(List.length p1_.Suffixes):Int))) (idxn p1_.Suffixes y84 fun e93=>(zfw [w_,e93]).bind fun c94=>(zey p2_ c94).bind fun c95=>cond ((!c95)) (chk (zbm (List.length y83+1) 24) (some (.inl ((y83++[c94]),(y84+1))))) (some (.inl (y83,(y84+1))))) (some (.inr y83))
def zcp (w_:List Int) (p1_:zac) (p2_:List zaa) (p3_:List (List Int)):Option (List (List Int)) :=
 (iter (fun (s:List (List Int)×Nat)=>zcp.s2 w_ p1_ p2_ s.1 s.2) fuel (p3_,0):Option (List (List Int))).bind (fun (y76:List (List Int))=>some y76)
def zca.s13 (t_:zac) (c53:List zaa) (e270:List Int) (y294:List (List Int)) (y295:Nat):Option ((List (List Int)×Nat)⊕List (List Int)) :=
 cond (decide ((↑y295:Int)<t_.Inputs)) ((ze1 e270 (↑y295:Int)).bind fun c302=>(zcp c302 t_ c53 y294).bind fun c303=>chk (inR ((↑y295:Int)+1)) (some (.inl (c303,(y295+1))))) (some (.inr y294))
def zca.s14 (t_:zac) (c53:List zaa) (y225:List (List Int)) (y226:Nat):Option ((List (List Int)×Nat)⊕List (List Int)) :=
 cond (decide ((↑y226:Int)<(↑(List.length t_.Prefixes):Int))) (idxn t_.Prefixes y226 fun e270=>(zcp e270 t_ c53 y225).bind fun c271=>(iter (fun (s:List (List Int)×Nat)=>zca.s13 t_ c53 e270 s.1 s.2) fuel (c271,0):Option (List (List Int))).bind (fun (y290:List (List Int))=>some (.inl (y290,(y226+1))))) (some (.inr y225))
def zca (t_:zac) (o_:zab):Option (List (List Int)×Int) :=
 (zhe t_ o_).bind fun c51=>cond (decide (c51≠0)) (some ([],c51)) ((zik o_).bind fun c53=>(iter (fun (s:List (List Int)×Nat)=>zca.s14 t_ c53 s.1 s.2) fuel ([],0):Option (List (List Int))).bind (fun (y183:List (List Int))=>(zcf y183).bind fun c313=>some (c313,0)))
def zb5.s2 (f_:List zaa) (t_:zac) (w_:List Int) (y93:List (List Int)) (y94:Nat):Option ((List (List Int)×Nat)⊕(List (List Int)⊕(List (List Int)×Bool))) :=
 cond (decide ((↑y94:Int)<(↑(List.length t_.Suffixes):Int))) (idxn t_.Suffixes y94 fun e105=>(zfw [w_,e105]).bind fun c106=>(zd0 f_ c106).bind fun c107=>cond ((!c107.2)) (some (.inr (.inr ([],false)))) (chk ((0:Int)≤(↑(List.length w_):Int)∧(↑(List.length w_):Int)≤(↑(List.length c107.1):Int)) ((zd3 (List.drop (List.length w_) c107.1)).bind fun c110=>chk (zbm (List.length y93+1) 24) (some (.inl ((y93++[c110]),(y94+1))))))) (some (.inr (.inl y93)))
def zb5 (f_:List zaa) (t_:zac) (w_:List Int):Option (List (List Int)×Bool) :=
 chk ((0:Int)≤0∧0≤(↑(List.length t_.Suffixes):Int)∧zbm (Int.toNat (↑(List.length t_.Suffixes):Int)) 24) ((iter (fun (s:List (List Int)×Nat)=>zb5.s2 f_ t_ w_ s.1 s.2) fuel ([],0):Option (List (List Int)⊕(List (List Int)×Bool))).bind (Sum.elim (fun (y84:List (List Int))=>some (y84,true)) some))
def zb4.s2 (row_:List (List Int)) (k78:ByteArray) (y79:Nat):Option ((ByteArray×Nat)⊕ByteArray) :=
 cond (decide ((↑y79:Int)<(↑(List.length row_):Int))) (idxn row_ y79 fun e87=>(zlr e87).bind fun c88=>chk (ByteArray.size c88+ByteArray.size (⟨#[47]⟩:ByteArray)≤9223372036854775807) (chk (ByteArray.size k78+ByteArray.size (c88++(⟨#[47]⟩:ByteArray))≤9223372036854775807) (some (.inl ((k78++(c88++(⟨#[47]⟩:ByteArray))),(y79+1)))))) (some (.inr k78))
def zb4.k3 (v_:zay) (y99:List (List (List Int))) (y100:List (ByteArray×Int)) (n101:Int):Option (Int×zay) :=
 some (n101,(⟨y99,v_.prefixes,v_.next,y100⟩:zay))
def zb4 (v_:zay) (row_:List (List Int)):Option (Int×zay) :=
 (iter (fun (s:ByteArray×Nat)=>zb4.s2 row_ s.1 s.2) fuel ((⟨#[]⟩:ByteArray),0):Option (ByteArray)).bind (fun (k72:ByteArray)=>(cond ((!((mget k72 v_.number).isSome))) (chk (zbm (List.length v_.rows+1) 24) (some ((v_.rows++[row_]),(mset k72 (↑(List.length v_.rows):Int) v_.number),(↑(List.length v_.rows):Int)))) (some (v_.rows,v_.number,((mget k72 v_.number).getD 0))):Option (List (List (List Int))×(List (ByteArray×Int))×Int)).bind (fun (s:List (List (List Int))×(List (ByteArray×Int))×Int)=>zb4.k3 v_ s.1 s.2.1 s.2.2))
def za7.s2 (t_:zac) (c53:List zaa) (y89:List (List (List Int))) (y90:List Int) (y91:List (ByteArray×Int)) (y92:Nat):Option ((List (List (List Int))×List Int×(List (ByteArray×Int))×Nat)⊕((List (List (List Int))×List Int×(List (ByteArray×Int)))⊕(zay×Int))) :=
 cond (decide ((↑y92:Int)<(↑(List.length t_.Prefixes):Int))) (idxn t_.Prefixes y92 fun e101=>(zb5 c53 t_ e101).bind fun c102=>cond ((!c102.2)) (some (.inr (.inr ((⟨[],[],[],[]⟩:zay),12)))) ((zb4 (⟨y89,y90,[],y91⟩:zay) c102.1).bind fun c104=>chk (zbm (List.length y90+1) 8) (some (.inl (c104.2.rows,(y90++[c104.1]),c104.2.number,(y92+1)))))) (some (.inr (.inl (y89,y90,y91))))
def za7.s20 (t_:zac) (c53:List zaa) (y82:List Int) (y420:List (List Int)) (e500:List Int) (y541:List (List (List Int))) (y542:List (ByteArray×Int)) (y543:List Int) (y544:Nat):Option ((List (List (List Int))×(List (ByteArray×Int))×List Int×Nat)⊕((List (List (List Int))×(List (ByteArray×Int))×List Int)⊕((List (List (List Int))×List (List Int)×(List (ByteArray×Int))×Nat)⊕((List (List (List Int))×List (List Int)×(List (ByteArray×Int)))⊕(zay×Int))))) :=
 cond (decide ((↑y544:Int)<t_.Inputs)) ((ze1 e500 (↑y544:Int)).bind fun c554=>(zb5 c53 t_ c554).bind fun c555=>cond ((!c555.2)) (some (.inr (.inr (.inr (.inr ((⟨[],[],[],[]⟩:zay),12)))))) ((zb4 (⟨y541,y82,y420,y542⟩:zay) c555.1).bind fun c557=>chk (zbm (List.length y543+1) 8) (chk (inR ((↑y544:Int)+1)) (some (.inl (c557.2.rows,c557.2.number,(y543++[c557.1]),(y544+1))))))) (some (.inr (.inl (y541,y542,y543))))
def za7.k21 (y420:List (List Int)) (y422:Nat) (y533:List (List (List Int))) (y534:List (ByteArray×Int)) (y535:List Int):Option ((List (List (List Int))×List (List Int)×(List (ByteArray×Int))×Nat)⊕((List (List (List Int))×List (List Int)×(List (ByteArray×Int)))⊕(zay×Int))) :=
 chk (zbm (List.length y420+1) 24) (some (.inl (y533,(y420++[y535]),y534,(y422+1))))
def za7.s22 (t_:zac) (c53:List zaa) (y82:List Int) (y419:List (List (List Int))) (y420:List (List Int)) (y421:List (ByteArray×Int)) (y422:Nat):Option ((List (List (List Int))×List (List Int)×(List (ByteArray×Int))×Nat)⊕((List (List (List Int))×List (List Int)×(List (ByteArray×Int)))⊕(zay×Int))) :=
 cond (decide ((↑y422:Int)<(↑(List.length t_.Prefixes):Int))) (idxn t_.Prefixes y422 fun e500=>(iter (fun (s:List (List (List Int))×(List (ByteArray×Int))×List Int×Nat)=>za7.s20 t_ c53 y82 y420 e500 s.1 s.2.1 s.2.2.1 s.2.2.2) fuel (y419,y421,[],0):Option ((List (List (List Int))×(List (ByteArray×Int))×List Int)⊕((List (List (List Int))×List (List Int)×(List (ByteArray×Int))×Nat)⊕((List (List (List Int))×List (List Int)×(List (ByteArray×Int)))⊕(zay×Int))))).bind (Sum.elim (fun (s:List (List (List Int))×(List (ByteArray×Int))×List Int)=>za7.k21 y420 y422 s.1 s.2.1 s.2.2) some)) (some (.inr (.inl (y419,y420,y421))))
def za7.k23 (y82:List Int) (y345:List (List (List Int))) (y346:List (List Int)) (y347:List (ByteArray×Int)):Option (zay×Int) :=
 some ((⟨y345,y82,y346,y347⟩:zay),0)
def za7.k24 (t_:zac) (c53:List zaa) (y81:List (List (List Int))) (y82:List Int) (y83:List (ByteArray×Int)):Option (zay×Int) :=
 (iter (fun (s:List (List (List Int))×List (List Int)×(List (ByteArray×Int))×Nat)=>za7.s22 t_ c53 y82 s.1 s.2.1 s.2.2.1 s.2.2.2) fuel (y81,[],y83,0):Option ((List (List (List Int))×List (List Int)×(List (ByteArray×Int)))⊕(zay×Int))).bind (Sum.elim (fun (s:List (List (List Int))×List (List Int)×(List (ByteArray×Int)))=>za7.k23 y82 s.1 s.2.1 s.2.2) some)
def za7 (t_:zac) (o_:zab):Option (zay×Int) :=
 (zhe t_ o_).bind fun c51=>cond (decide (c51≠0)) (some ((⟨[],[],[],[]⟩:zay),c51)) ((zik o_).bind fun c53=>(iter (fun (s:List (List (List Int))×List Int×(List (ByteArray×Int))×Nat)=>za7.s2 t_ c53 s.1 s.2.1 s.2.2.1 s.2.2.2) fuel ([],[],([]:List (ByteArray×Int)),0):Option ((List (List (List Int))×List Int×(List (ByteArray×Int)))⊕(zay×Int))).bind (Sum.elim (fun (s:List (List (List Int))×List Int×(List (ByteArray×Int)))=>za7.k24 t_ c53 s.1 s.2.1 s.2.2) some))
def zbx.s2 (s_:List Int) (v_:Int) (y67:Nat):Option (Nat⊕(Unit⊕Int)) :=
 cond (decide ((↑y67:Int)<(↑(List.length s_):Int))) (idxn s_ y67 fun e73=>cond (decide (v_=e73)) (some (.inr (.inr (↑y67:Int)))) (some (.inl (y67+1)))) (some (.inr (.inl ())))
def zbx (s_:List Int) (v_:Int):Option (Int) :=
 (iter (fun (s:Nat)=>zbx.s2 s_ v_ s) fuel 0:Option (Unit⊕Int)).bind (Sum.elim (fun (_:Unit)=>some (-1:Int)) some)
def zdk (s_:List Int) (v_:Int):Option (Bool) :=
 (zbx s_ v_).bind fun c51=>some (decide (0≤c51))
def za5.s13 (v_:zay) (y199:Nat) (e238:List Int) (y260:Nat):Option (Nat⊕(Unit⊕(Nat⊕(Unit⊕(Int×Int×Bool))))) :=
 cond (decide ((↑y260:Int)<(↑(List.length e238):Int))) (idxn e238 y260 fun e267=>(zdk v_.prefixes e267).bind fun c268=>cond ((!c268)) (some (.inr (.inr (.inr (.inr ((↑y199:Int),(↑y260:Int),true)))))) (some (.inl (y260+1)))) (some (.inr (.inl ())))
def za5.s14 (v_:zay) (y199:Nat):Option (Nat⊕(Unit⊕(Int×Int×Bool))) :=
 cond (decide ((↑y199:Int)<(↑(List.length v_.next):Int))) (idxn v_.next y199 fun e238=>(iter (fun (s:Nat)=>za5.s13 v_ y199 e238 s) fuel 0:Option (Unit⊕(Nat⊕(Unit⊕(Int×Int×Bool))))).bind (Sum.elim (fun (_:Unit)=>some (.inl (y199+1))) some)) (some (.inr (.inl ())))
def za5 (v_:zay):Option (Int×Int×Bool) :=
 (iter (fun (s:Nat)=>za5.s14 v_ s) fuel 0:Option (Unit⊕(Int×Int×Bool))).bind (Sum.elim (fun (_:Unit)=>some (0,0,false)) some)
def zg5 (t_:zac) (o_:zab):Option (List Int×Bool×Int) :=
 (za7 t_ o_).bind fun c51=>cond (decide (c51.2≠0)) (some ([],false,c51.2)) ((za5 c51.1).bind fun c53=>cond ((!c53.2.2)) (some ([],false,0)) (idx t_.Prefixes c53.1 fun e55=>(ze1 e55 c53.2.1).bind fun c56=>some (c56,true,0)))
def zag.s1019 (y22366:Nat) (e22421:List (List Int)) (e22424:List (List Int)) (y22451:Nat):Option (Nat⊕(Unit⊕(Nat⊕(Unit⊕(Unit⊕(Nat⊕(Unit⊕(Nat⊕(Unit⊕(Int×Int×Bool)))))))))) :=
 cond (decide ((↑y22451:Int)<(↑(List.length e22421):Int))) (idxn e22421 y22451 fun e22459=>idxn e22424 y22451 fun e22460=>(za8 e22459 e22460).bind fun c22461=>cond ((!c22461)) (some (.inr (.inr (.inr (.inr (.inr (.inr (.inr (.inr (.inr ((↑y22366:Int),(↑y22451:Int),true))))))))))) (some (.inl (y22451+1)))) (some (.inr (.inl ())))
def zag.s1020 (v_:zay) (y14999:Nat) (k21227:Nat) (e22163:List Int) (y22366:Nat):Option (Nat⊕(Unit⊕(Unit⊕(Nat⊕(Unit⊕(Nat⊕(Unit⊕(Int×Int×Bool)))))))) :=
 cond (decide ((↑y22366:Int)<(↑(List.length e22163):Int))) (idxn v_.next y14999 fun e22419=>idxn e22419 y22366 fun e22420=>idx v_.rows e22420 fun e22421=>idxn v_.next k21227 fun e22422=>idxn e22422 y22366 fun e22423=>idx v_.rows e22423 fun e22424=>(iter (fun (s:Nat)=>zag.s1019 y22366 e22421 e22424 s) fuel 0:Option (Unit⊕(Nat⊕(Unit⊕(Unit⊕(Nat⊕(Unit⊕(Nat⊕(Unit⊕(Int×Int×Bool)))))))))).bind (Sum.elim (fun (_:Unit)=>chk (inR ((↑y22366:Int)+1)) (some (.inl (y22366+1)))) some)) (some (.inr (.inl ())))
def zag.s1021 (v_:zay) (y14999:Nat) (e18738:Int) (k21227:Nat):Option (Nat⊕(Unit⊕(Nat⊕(Unit⊕(Int×Int×Bool))))) :=
 cond (decide ((↑k21227:Int)<(↑(List.length v_.prefixes):Int))) ((idxn v_.prefixes k21227 fun e22161=>cond (decide (e22161≠e18738)) (some (.inl ())) (idxn v_.next y14999 fun e22163=>(iter (fun (s:Nat)=>zag.s1020 v_ y14999 k21227 e22163 s) fuel 0:Option (Unit⊕(Unit⊕(Nat⊕(Unit⊕(Nat⊕(Unit⊕(Int×Int×Bool)))))))).bind (Sum.elim (fun (_:Unit)=>some (.inl ())) some)):Option (Unit⊕(Nat⊕(Unit⊕(Nat⊕(Unit⊕(Int×Int×Bool))))))).bind (Sum.elim (fun (_:Unit)=>some (.inl (k21227+1))) some)) (some (.inr (.inl ())))
def zag.s1022 (v_:zay) (y14999:Nat):Option (Nat⊕(Unit⊕(Int×Int×Bool))) :=
 cond (decide ((↑y14999:Int)<(↑(List.length v_.prefixes):Int))) (idxn v_.prefixes y14999 fun e18738=>(iter (fun (s:Nat)=>zag.s1021 v_ y14999 e18738 s) fuel (y14999+1):Option (Unit⊕(Nat⊕(Unit⊕(Int×Int×Bool))))).bind (Sum.elim (fun (_:Unit)=>some (.inl (y14999+1))) some)) (some (.inr (.inl ())))
def zag (v_:zay):Option (Int×Int×Bool) :=
 (iter (fun (s:Nat)=>zag.s1022 v_ s) fuel 0:Option (Unit⊕(Int×Int×Bool))).bind (Sum.elim (fun (_:Unit)=>some (0,0,false)) some)
def ze0 (t_:zac) (o_:zab):Option (List Int×Bool×Int) :=
 (za7 t_ o_).bind fun c51=>cond (decide (c51.2≠0)) (some ([],false,c51.2)) ((zag c51.1).bind fun c53=>cond ((!c53.2.2)) (some ([],false,0)) (idx t_.Suffixes c53.2.1 fun e55=>(zfw [[c53.1],e55]).bind fun c56=>some (c56,true,0)))
def zef.s2 (l_:List (List Int)) (y72:List (List Int)) (y73:Nat):Option ((List (List Int)×Nat)⊕List (List Int)) :=
 cond (decide ((↑y73:Int)<(↑(List.length l_):Int))) (idxn l_ y73 fun e80=>(zd3 e80).bind fun c81=>chk (zbm (List.length y72+1) 24) (some (.inl ((y72++[c81]),(y73+1))))) (some (.inr y72))
def zef (l_:List (List Int)):Option (List (List Int)) :=
 (iter (fun (s:List (List Int)×Nat)=>zef.s2 l_ s.1 s.2) fuel ([],0):Option (List (List Int))).bind (fun (y68:List (List Int))=>some y68)
def zjx (l_:zai):Option (zai) :=
 (zef l_.Short).bind fun c51=>(zef l_.Suffixes).bind fun c52=>some (⟨l_.Inputs,c51,c52⟩:zai)
def zfe.k1 (l_:zai) (y74:List (List Int)) (y75:List (List Int)):Option (zai×List (List Int)×Bool×Int) :=
 (zdw (⟨l_.Inputs,y74,y75⟩:zai)).bind fun c86=>cond (decide (c86≠0)) (some (l_,[],false,c86)) ((zjx (⟨l_.Inputs,y74,y75⟩:zai)).bind fun c88=>some (c88,[],false,0))
def zfe (l_:zai) (o_:zab):Option (zai×List (List Int)×Bool×Int) :=
 (ziq l_ o_).bind fun c51=>cond (decide (c51≠0)) (some (l_,[],false,c51)) ((zgm l_).bind fun c53=>(zca c53 o_).bind fun c54=>(cond (decide (c54.2≠0)) (some true) (some (decide (0<(↑(List.length c54.1):Int)))):Option (Bool)).bind (fun (y58:Bool)=>cond (y58) (some (l_,c54.1,false,c54.2)) (((zg5 c53 o_).bind fun c76=>cond (decide (c76.2.2≠0)) (some (.inr (l_,[],false,c76.2.2))) (cond (c76.2.1) ((zj8 l_.Short c76.1).bind fun c79=>some (.inl (c79,l_.Suffixes))) ((ze0 c53 o_).bind fun c80=>cond (decide (c80.2.2≠0)) (some (.inr (l_,[],false,c80.2.2))) (cond ((!c80.2.1)) (some (.inr (l_,[],true,0))) ((zj8 l_.Suffixes c80.1).bind fun c83=>some (.inl (l_.Short,c83)))))):Option ((List (List Int)×List (List Int))⊕(zai×List (List Int)×Bool×Int))).bind (Sum.elim (fun (s:List (List Int)×List (List Int))=>zfe.k1 l_ s.1 s.2) some))))
def zex (t_:zaa) (p1_:List Int):Option (Bool) :=
 (zem t_.In p1_).bind fun c51=>some c51
def zat.s2 (s_:List zaa) (f_:zaa→Option Bool) (y71:Nat):Option (Nat⊕(Unit⊕Int)) :=
 cond (decide ((↑y71:Int)<(↑(List.length s_):Int))) (idxn s_ y71 fun e78=>(f_ e78).bind fun c79=>cond (c79) (some (.inr (.inr (↑y71:Int)))) (some (.inl (y71+1)))) (some (.inr (.inl ())))
def zat (s_:List zaa) (f_:zaa→Option Bool):Option (Int) :=
 (iter (fun (s:Nat)=>zat.s2 s_ f_ s) fuel 0:Option (Unit⊕Int)).bind (Sum.elim (fun (_:Unit)=>some (-1:Int)) some)
def zg9 (o_:zab) (w_:List Int):Option (List Int×Bool) :=
 cond (decide ((↑(List.length w_):Int)=0)) (some ([],true)) ((zat o_.Traces (fun u0=>zex u0 w_)).bind fun c52=>cond (decide (c52<0)) (some ([],false)) (idx o_.Traces c52 fun e54=>chk ((0:Int)≤(min (↑(List.length w_):Int) (↑(List.length e54.Out):Int))∧(min (↑(List.length w_):Int) (↑(List.length e54.Out):Int))≤(↑(List.length e54.Out):Int)) ((zd3 (List.take (Int.toNat (min (↑(List.length w_):Int) (↑(List.length e54.Out):Int))) e54.Out)).bind fun c56=>some (c56,true))))
def zdb (r_:zaj) (w_:List Int) (v_:List Int):Option (List Int×zaj) :=
 (zfw [w_,v_]).bind fun c51=>cond (decide (1024<(↑(List.length c51):Int))) (some ([],(⟨r_.l,r_.o,r_.missing,true⟩:zaj))) ((zg9 r_.o c51).bind fun c53=>cond ((!c53.2)) (chk (zbm (List.length r_.missing+1) 24) (some ([],(⟨r_.l,r_.o,(r_.missing++[c51]),r_.long⟩:zaj)))) (chk ((0:Int)≤(↑(List.length w_):Int)∧(↑(List.length w_):Int)≤(↑(List.length c53.1):Int)) (some ((List.drop (List.length w_) c53.1),r_))))
def zbu.s2 (r_:zaj) (w_:List Int) (y83:Int) (y84:List zaa) (y85:List (List Int)) (y86:Bool) (y87:List (List Int)) (y88:Nat):Option ((Int×List zaa×List (List Int)×Bool×List (List Int)×Nat)⊕(Int×List zaa×List (List Int)×Bool×List (List Int))) :=
 cond (decide ((↑y88:Int)<(↑(List.length r_.l.Suffixes):Int))) (idxn r_.l.Suffixes y88 fun e95=>(zdb (⟨r_.l,(⟨y83,y84⟩:zab),y85,y86⟩:zaj) w_ e95).bind fun c96=>chk (zbm (List.length y87+1) 24) (some (.inl (c96.2.o.Inputs,c96.2.o.Traces,c96.2.missing,c96.2.long,(y87++[c96.1]),(y88+1))))) (some (.inr (y83,y84,y85,y86,y87)))
def zbu.k3 (r_:zaj) (y75:Int) (y76:List zaa) (y77:List (List Int)) (y78:Bool) (y79:List (List Int)):Option (List (List Int)×zaj) :=
 some (y79,(⟨r_.l,(⟨y75,y76⟩:zab),y77,y78⟩:zaj))
def zbu (r_:zaj) (w_:List Int):Option (List (List Int)×zaj) :=
 (iter (fun (s:Int×List zaa×List (List Int)×Bool×List (List Int)×Nat)=>zbu.s2 r_ w_ s.1 s.2.1 s.2.2.1 s.2.2.2.1 s.2.2.2.2.1 s.2.2.2.2.2) fuel (r_.o.Inputs,r_.o.Traces,r_.missing,r_.long,[],0):Option (Int×List zaa×List (List Int)×Bool×List (List Int))).bind (fun (s:Int×List zaa×List (List Int)×Bool×List (List Int))=>zbu.k3 r_ s.1 s.2.1 s.2.2.1 s.2.2.2.1 s.2.2.2.2)
def zog (t_:zac) (o_:zab) (w_:List Int):Option (List (List Int)×Bool) :=
 (zhe t_ o_).bind fun c51=>cond (decide (c51≠0)) (some ([],false)) ((zik o_).bind fun c53=>(zb5 c53 t_ w_).bind fun c54=>some (c54.1,c54.2))
def zax.s2 (s1_:List (List Int)) (s2_:List (List Int)) (eq_:(List Int)→(List Int)→Option Bool) (y77:Nat):Option (Nat⊕(Unit⊕Bool)) :=
 cond (decide ((↑y77:Int)<(↑(List.length s1_):Int))) (idxn s1_ y77 fun e85=>idxn s2_ y77 fun e86=>(eq_ e85 e86).bind fun c87=>cond ((!c87)) (some (.inr (.inr false))) (some (.inl (y77+1)))) (some (.inr (.inl ())))
def zax (s1_:List (List Int)) (s2_:List (List Int)) (eq_:(List Int)→(List Int)→Option Bool):Option (Bool) :=
 cond (decide ((↑(List.length s1_):Int)≠(↑(List.length s2_):Int))) (some false) ((iter (fun (s:Nat)=>zax.s2 s1_ s2_ eq_ s) fuel 0:Option (Unit⊕Bool)).bind (Sum.elim (fun (_:Unit)=>some true) some))
def zin (x_:List Int) (y_:List Int):Option (Bool) :=
 (za8 x_ y_).bind fun c51=>some c51
def zlz (a_:List (List Int)) (b_:List (List Int)):Option (Bool) :=
 (zax a_ b_ (fun u0 u1=>zin u0 u1)).bind fun c51=>some c51
def zby.s2 (r_:zaj) (row_:List (List Int)) (y126:Nat):Option (Nat⊕(Unit⊕(List Int×Bool×zaj))) :=
 cond (decide ((↑y126:Int)<(↑(List.length r_.l.Short):Int))) (idxn r_.l.Short y126 fun e146=>(zgm r_.l).bind fun c147=>(zog c147 r_.o e146).bind fun c148=>(cond (c148.2) ((zlz c148.1 row_).bind fun c155=>some c155) (some false):Option (Bool)).bind (fun (y153:Bool)=>cond (y153) (some (.inr (.inr (e146,true,r_)))) (some (.inl (y126+1))))) (some (.inr (.inl ())))
def zby (r_:zaj) (row_:List (List Int)):Option (List Int×Bool×zaj) :=
 (iter (fun (s:Nat)=>zby.s2 r_ row_ s) fuel 0:Option (Unit⊕(List Int×Bool×zaj))).bind (Sum.elim (fun (_:Unit)=>some ([],false,r_)) some)
def zde (r_:zaj):Option (Bool×zaj) :=
 (cond (r_.long) (some true) (some (decide (0<(↑(List.length r_.missing):Int)))):Option (Bool)).bind (fun (y54:Bool)=>some (y54,r_))
def zbf.s2 (y227:Int) (y228:List (List Int)) (y229:List (List Int)) (y230:Int) (y231:List zaa) (y232:List (List Int)) (y233:Bool) (u234:List Int) (v235:List Int) (w236:List Int) (y237:List (List Int)):Option ((Int×List (List Int)×List (List Int)×Int×List zaa×List (List Int)×Bool×List Int×List Int×List Int×List (List Int))⊕((Int×List (List Int)×List (List Int)×Int×List zaa×List (List Int)×Bool×List (List Int))⊕(List (List Int)×Int×zaj))) :=
 cond (decide (1<(↑(List.length v235):Int))) (chk ((0:Int)≤1∧1≤(↑(List.length v235):Int)) ((zfw [u234,(List.take 1 v235)]).bind fun c275=>chk ((0:Int)≤1∧1≤(↑(List.length v235):Int)) ((zfw [w236,(List.take 1 v235)]).bind fun c277=>chk ((0:Int)≤1∧1≤(↑(List.length v235):Int)) ((zbu (⟨(⟨y227,y228,y229⟩:zai),(⟨y230,y231⟩:zab),y232,y233⟩:zaj) c275).bind fun c279=>(zbu (⟨(⟨y227,y228,c279.2.l.Suffixes⟩:zai),c279.2.o,c279.2.missing,c279.2.long⟩:zaj) c277).bind fun c280=>(zde (⟨(⟨y227,y228,c280.2.l.Suffixes⟩:zai),c280.2.o,c280.2.missing,c280.2.long⟩:zaj)).bind fun c281=>cond (c281.1) (some (.inr (.inr ([],0,(⟨(⟨y227,y228,c280.2.l.Suffixes⟩:zai),c280.2.o,c281.2.missing,c281.2.long⟩:zaj))))) ((zlz c279.1 c280.1).bind fun c283=>cond ((!c283)) (some (.inr (.inr (y237,0,(⟨(⟨y227,y228,c280.2.l.Suffixes⟩:zai),c280.2.o,c281.2.missing,c281.2.long⟩:zaj))))) ((zby (⟨(⟨y227,y228,c280.2.l.Suffixes⟩:zai),c280.2.o,c281.2.missing,c281.2.long⟩:zaj) c279.1).bind fun c285=>cond ((!c285.2.1)) (some (.inr (.inr ([],10,(⟨c285.2.2.l,c285.2.2.o,c281.2.missing,c281.2.long⟩:zaj))))) ((zdb (⟨c285.2.2.l,c285.2.2.o,c281.2.missing,c281.2.long⟩:zaj) c275 (List.drop 1 v235)).bind fun c287=>(zdb (⟨c285.2.2.l,c287.2.o,c287.2.missing,c287.2.long⟩:zaj) c285.1 (List.drop 1 v235)).bind fun c288=>(zde (⟨c285.2.2.l,c288.2.o,c288.2.missing,c288.2.long⟩:zaj)).bind fun c289=>cond (c289.1) (some (.inr (.inr ([],0,(⟨c285.2.2.l,c288.2.o,c289.2.missing,c289.2.long⟩:zaj))))) (((za8 c287.1 c288.1).bind fun c296=>cond ((!c296)) (some c275) (some c277):Option (List Int)).bind (fun (u295:List Int)=>chk (zbm (List.length y237+1) 24) (some (.inl (c285.2.2.l.Inputs,c285.2.2.l.Short,c285.2.2.l.Suffixes,c288.2.o.Inputs,c288.2.o.Traces,c289.2.missing,c289.2.long,u295,(List.drop 1 v235),c285.1,(y237++[u295]))))))))))))) (some (.inr (.inl (y227,y228,y229,y230,y231,y232,y233,y237))))
def zbf.k3 (y185:Int) (y186:List (List Int)) (y187:List (List Int)) (y188:Int) (y189:List zaa) (y190:List (List Int)) (y191:Bool) (y192:List (List Int)):Option (List (List Int)×Int×zaj) :=
 some (y192,0,(⟨(⟨y185,y186,y187⟩:zai),(⟨y188,y189⟩:zab),y190,y191⟩:zaj))
def zbf (r_:zaj) (u_:List Int) (v_:List Int):Option (List (List Int)×Int×zaj) :=
 (zbu r_ u_).bind fun c51=>(zde (⟨(⟨r_.l.Inputs,r_.l.Short,c51.2.l.Suffixes⟩:zai),c51.2.o,c51.2.missing,c51.2.long⟩:zaj)).bind fun c52=>cond (c52.1) (some ([],0,(⟨(⟨r_.l.Inputs,r_.l.Short,c51.2.l.Suffixes⟩:zai),c51.2.o,c52.2.missing,c52.2.long⟩:zaj))) ((zby (⟨(⟨r_.l.Inputs,r_.l.Short,c51.2.l.Suffixes⟩:zai),c51.2.o,c52.2.missing,c52.2.long⟩:zaj) c51.1).bind fun c54=>cond ((!c54.2.1)) (some ([],10,(⟨c54.2.2.l,c54.2.2.o,c52.2.missing,c52.2.long⟩:zaj))) ((zdb (⟨c54.2.2.l,c54.2.2.o,c52.2.missing,c52.2.long⟩:zaj) u_ v_).bind fun c56=>(zdb (⟨c54.2.2.l,c56.2.o,c56.2.missing,c56.2.long⟩:zaj) c54.1 v_).bind fun c57=>(zde (⟨c54.2.2.l,c57.2.o,c57.2.missing,c57.2.long⟩:zaj)).bind fun c58=>cond (c58.1) (some ([],0,(⟨c54.2.2.l,c57.2.o,c58.2.missing,c58.2.long⟩:zaj))) ((za8 c56.1 c57.1).bind fun c60=>cond (c60) (some ([],15,(⟨c54.2.2.l,c57.2.o,c58.2.missing,c58.2.long⟩:zaj))) ((iter (fun (s:Int×List (List Int)×List (List Int)×Int×List zaa×List (List Int)×Bool×List Int×List Int×List Int×List (List Int))=>zbf.s2 s.1 s.2.1 s.2.2.1 s.2.2.2.1 s.2.2.2.2.1 s.2.2.2.2.2.1 s.2.2.2.2.2.2.1 s.2.2.2.2.2.2.2.1 s.2.2.2.2.2.2.2.2.1 s.2.2.2.2.2.2.2.2.2.1 s.2.2.2.2.2.2.2.2.2.2) fuel (c54.2.2.l.Inputs,c54.2.2.l.Short,c54.2.2.l.Suffixes,c57.2.o.Inputs,c57.2.o.Traces,c58.2.missing,c58.2.long,u_,v_,c54.1,[u_]):Option ((Int×List (List Int)×List (List Int)×Int×List zaa×List (List Int)×Bool×List (List Int))⊕(List (List Int)×Int×zaj))).bind (Sum.elim (fun (s:Int×List (List Int)×List (List Int)×Int×List zaa×List (List Int)×Bool×List (List Int))=>zbf.k3 s.1 s.2.1 s.2.2.1 s.2.2.2.1 s.2.2.2.2.1 s.2.2.2.2.2.1 s.2.2.2.2.2.2.1 s.2.2.2.2.2.2.2) some)))))
def zdz.s2 (c65:List (List Int)×Int×zaj) (y90:List (List Int)) (y91:Nat):Option ((List (List Int)×Nat)⊕List (List Int)) :=
 cond (decide ((↑y91:Int)<(↑(List.length c65.1):Int))) (idxn c65.1 y91 fun e97=>(zj8 y90 e97).bind fun c98=>some (.inl (c98,(y91+1)))) (some (.inr y90))
def zdz (l_:zai) (o_:zab) (s_:zd1):Option (zai×List (List Int)×Int) :=
 (ziq l_ o_).bind fun c51=>cond (decide (c51≠0)) (some (l_,[],c51)) ((zhn s_.Prefix l_.Inputs).bind fun c53=>cond (decide (c53≠0)) (some (l_,[],c53)) ((cond (decide (s_.Symbol<0)) (some true) (some (decide (l_.Inputs≤s_.Symbol))):Option (Bool)).bind (fun (y58:Bool)=>cond (y58) (some (l_,[],2)) (cond (decide ((↑(List.length s_.Suffix):Int)=0)) (some (l_,[],19)) ((zhn s_.Suffix l_.Inputs).bind fun c62=>cond (decide (c62≠0)) (some (l_,[],c62)) ((zfw [s_.Prefix,[s_.Symbol]]).bind fun c64=>(zbf (⟨l_,o_,[],false⟩:zaj) c64 s_.Suffix).bind fun c65=>cond (c65.2.2.long) (some (l_,[],3)) (cond (decide (c65.2.1≠0)) (some (l_,[],c65.2.1)) (cond (decide (0<(↑(List.length c65.2.2.missing):Int))) ((zcf c65.2.2.missing).bind fun c69=>some (l_,c69,0)) ((iter (fun (s:List (List Int)×Nat)=>zdz.s2 c65 s.1 s.2) fuel (l_.Short,0):Option (List (List Int))).bind (fun (y86:List (List Int))=>(zdw (⟨l_.Inputs,y86,l_.Suffixes⟩:zai)).bind fun c104=>cond (decide (c104≠0)) (some (l_,[],c104)) ((zjx (⟨l_.Inputs,y86,l_.Suffixes⟩:zai)).bind fun c106=>some (c106,[],0))))))))))))
def zbe.s30 (t_:zac) (c51:zay×Int) (e867:Int) (y901:List Int) (y902:Nat):Option ((List Int×Nat)⊕List Int) :=
 cond (decide ((↑y902:Int)<t_.Inputs)) (idx c51.1.rows e867 fun e911=>idxn e911 y902 fun e912=>idxn e912 0 fun e913=>chk (zbm (List.length y901+1) 8) (chk (inR ((↑y902:Int)+1)) (some (.inl ((y901++[e913]),(y902+1)))))) (some (.inr y901))
def zbe.k31 (y639:Nat) (y864:List (List Int)) (y865:List (List Int)) (y866:List (List Int)):Option ((List (List Int)×List (List Int)×List (List Int)×Nat)⊕(List (List Int)×List (List Int)×List (List Int))) :=
 some (.inl (y864,y865,y866,(y639+1)))
def zbe.s32 (t_:zac) (c51:zay×Int) (y636:List (List Int)) (y637:List (List Int)) (y638:List (List Int)) (y639:Nat):Option ((List (List Int)×List (List Int)×List (List Int)×Nat)⊕(List (List Int)×List (List Int)×List (List Int))) :=
 cond (decide ((↑y639:Int)<(↑(List.length c51.1.prefixes):Int))) ((idxn c51.1.prefixes y639 fun e867=>cond (decide (e867<(↑(List.length y638):Int))) (some (y636,y637,y638)) ((iter (fun (s:List Int×Nat)=>zbe.s30 t_ c51 e867 s.1 s.2) fuel ([],0):Option (List Int)).bind (fun (y896:List Int)=>idxn c51.1.next y639 fun e930=>(zd3 e930).bind fun c931=>chk (zbm (List.length y636+1) 24) (chk (zbm (List.length y637+1) 24) (idxn t_.Prefixes y639 fun e934=>(zd3 e934).bind fun c935=>chk (zbm (List.length y638+1) 24) (some ((y636++[c931]),(y637++[y896]),(y638++[c935]))))))):Option (List (List Int)×List (List Int)×List (List Int))).bind (fun (s:List (List Int)×List (List Int)×List (List Int))=>zbe.k31 y639 s.1 s.2.1 s.2.2)) (some (.inr (y636,y637,y638)))
def zbe.k33 (t_:zac) (y506:List (List Int)) (y507:List (List Int)) (y508:List (List Int)):Option (zer×Int) :=
 some ((⟨(⟨t_.Inputs,0,y506,y507⟩:zal),y508⟩:zer),0)
def zbe (t_:zac) (o_:zab):Option (zer×Int) :=
 (za7 t_ o_).bind fun c51=>cond (decide (c51.2≠0)) (some ((⟨(⟨0,0,[],[]⟩:zal),[]⟩:zer),c51.2)) ((za5 c51.1).bind fun c53=>(zag c51.1).bind fun c54=>(cond (c53.2.2) (some true) (some c54.2.2):Option (Bool)).bind (fun (y58:Bool)=>cond (y58) (some ((⟨(⟨0,0,[],[]⟩:zal),[]⟩:zer),10)) (cond (decide (128<(↑(List.length c51.1.rows):Int))) (some ((⟨(⟨0,0,[],[]⟩:zal),[]⟩:zer),11)) ((iter (fun (s:List (List Int)×List (List Int)×List (List Int)×Nat)=>zbe.s32 t_ c51 s.1 s.2.1 s.2.2.1 s.2.2.2) fuel ([],[],[],0):Option (List (List Int)×List (List Int)×List (List Int))).bind (fun (s:List (List Int)×List (List Int)×List (List Int))=>zbe.k33 t_ s.1 s.2.1 s.2.2)))))
def zj6 (l_:zai) (o_:zab):Option (zer×Int) :=
 (ziq l_ o_).bind fun c51=>cond (decide (c51≠0)) (some ((⟨(⟨0,0,[],[]⟩:zal),[]⟩:zer),c51)) ((zgm l_).bind fun c53=>(zbe c53 o_).bind fun c54=>some (c54.1,c54.2))
def zix:Option (Bool) :=
 (zt1 2).bind fun c51=>(L23_Gate).bind fun c52=>(zfe c51.1 c52).bind fun c53=>(zt1 1).bind fun c54=>(zdz c54.1 (⟨1,[(⟨[0,0,0],[0,0,1]⟩:zaa)]⟩:zab) (⟨[],0,[0,0]⟩:zd1)).bind fun c55=>(zj6 c54.1 (⟨1,[(⟨[0,0,0],[0,0,1]⟩:zaa)]⟩:zab)).bind fun c56=>(cond (decide (c51.2≠0)) (some true) (cond (decide (c53.2.2.2≠0)) (some true) (cond (decide (c54.2≠0)) (some true) (cond (decide (c55.2.2≠0)) (some true) (cond (decide (c56.2≠0)) (some true) (cond (c53.2.2.1) (some true) (cond (decide ((↑(List.length c53.2.1):Int)≠0)) (some true) (some (decide ((↑(List.length c55.2.1):Int)≠0))))))))):Option (Bool)).bind (fun (y66:Bool)=>cond (y66) (some false) (((zd4 c53.1.Short [[],[0]]).bind fun c91=>cond (c91) ((zd4 c55.1.Short [[],[0]]).bind fun c93=>cond (c93) ((zd4 c55.1.Suffixes [[0]]).bind fun c95=>cond (c95) (some (decide ((↑(List.length c56.1.M.Next):Int)=1))) (some false)) (some false)) (some false):Option (Bool)).bind (fun (y90:Bool)=>some y90)))
def R28_Of (t_:zac):Option (zai) :=
 some (⟨t_.Inputs,t_.Prefixes,t_.Suffixes⟩:zai)
def zhg.s2 (l_:List (List Int)) (w_:List Int) (i72:Nat):Option (Nat⊕(Unit⊕Bool)) :=
 cond (decide ((↑i72:Int)<(↑(List.length l_):Int))) (idxn l_ i72 fun e79=>(zk1 e79 w_).bind fun c80=>cond (c80) (some (.inr (.inr true))) (some (.inl (i72+1)))) (some (.inr (.inl ())))
def zhg (l_:List (List Int)) (w_:List Int):Option (Bool) :=
 (iter (fun (s:Nat)=>zhg.s2 l_ w_ s) fuel 0:Option (Unit⊕Bool)).bind (Sum.elim (fun (_:Unit)=>some false) some)
def zdo.s2 (l_:List (List Int)) (n65:Int) (i66:Nat):Option ((Int×Nat)⊕Int) :=
 cond (decide ((↑i66:Int)<(↑(List.length l_):Int))) (idxn l_ i66 fun e71=>some (.inl ((max n65 (↑(List.length e71):Int)),(i66+1)))) (some (.inr n65))
def zdo (l_:List (List Int)):Option (Int) :=
 (iter (fun (s:Int×Nat)=>zdo.s2 l_ s.1 s.2) fuel (0,0):Option (Int)).bind (fun (n62:Int)=>some n62)
def zdj.s2 (t_:zac) (i194:Nat):Option (Nat⊕(Unit⊕Int)) :=
 cond (decide ((↑i194:Int)<(↑(List.length t_.Prefixes):Int))) (idxn t_.Prefixes i194 fun e232=>(zdr e232 t_.Inputs).bind fun c233=>cond (decide (c233≠0)) (some (.inr (.inr c233))) ((cond (decide ((↑i194:Int)=0)) (cond (decide (0<(↑(List.length e232):Int))) (some true) (cond (decide (0<(↑i194:Int))) (idx t_.Prefixes ((↑i194:Int)-1) fun e249=>(zdx e249 e232).bind fun c250=>some (decide (0≤c250))) (some false))) (cond (decide (0<(↑i194:Int))) (idx t_.Prefixes ((↑i194:Int)-1) fun e252=>(zdx e252 e232).bind fun c253=>some (decide (0≤c253))) (some false)):Option (Bool)).bind (fun (y245:Bool)=>cond (y245) (some (.inr (.inr 10))) ((cond (decide (0<(↑(List.length e232):Int))) (chk ((0:Int)≤((↑(List.length e232):Int)-1)∧((↑(List.length e232):Int)-1)≤(↑(List.length e232):Int)) ((zhg t_.Prefixes (List.take (Int.toNat ((↑(List.length e232):Int)-1)) e232)).bind fun c264=>some (!c264))) (some false):Option (Bool)).bind (fun (y261:Bool)=>cond (y261) (some (.inr (.inr 1))) (some (.inl (i194+1)))))))) (some (.inr (.inl ())))
def zdj (t_:zac):Option (Int) :=
 (iter (fun (s:Nat)=>zdj.s2 t_ s) fuel 0:Option (Unit⊕Int)).bind (Sum.elim (fun (_:Unit)=>some 0) some)
def zbz.s2 (t_:zac) (i114:Nat):Option (Nat⊕(Unit⊕Int)) :=
 cond (decide ((↑i114:Int)<(↑(List.length t_.Suffixes):Int))) (idxn t_.Suffixes i114 fun e132=>(zdr e132 t_.Inputs).bind fun c133=>cond (decide (c133≠0)) (some (.inr (.inr c133))) (cond (decide ((↑(List.length e132):Int)=0)) (some (.inr (.inr 19))) ((cond (decide (0<(↑i114:Int))) (idx t_.Suffixes ((↑i114:Int)-1) fun e143=>(zdx e143 e132).bind fun c144=>some (decide (0≤c144))) (some false):Option (Bool)).bind (fun (y141:Bool)=>cond (y141) (some (.inr (.inr 10))) (some (.inl (i114+1))))))) (some (.inr (.inl ())))
def zbz.s4 (t_:zac) (a163:Nat):Option (Nat⊕(Unit⊕Int)) :=
 cond (decide ((↑a163:Int)<t_.Inputs)) ((zhg t_.Suffixes [(↑a163:Int)]).bind fun c170=>cond ((!c170)) (some (.inr (.inr 1))) (chk (inR ((↑a163:Int)+1)) (some (.inl (a163+1))))) (some (.inr (.inl ())))
def zbz (t_:zac):Option (Int) :=
 (iter (fun (s:Nat)=>zbz.s2 t_ s) fuel 0:Option (Unit⊕Int)).bind (Sum.elim (fun (_:Unit)=>(iter (fun (s:Nat)=>zbz.s4 t_ s) fuel 0:Option (Unit⊕Int)).bind (Sum.elim (fun (_:Unit)=>some 0) some)) some)
def zg1 (t_:zac):Option (Int) :=
 (cond (decide (t_.Inputs<1)) (some true) (some (decide (64<t_.Inputs))):Option (Bool)).bind (fun (y54:Bool)=>cond (y54) (some 2) (cond (decide ((↑(List.length t_.Prefixes):Int)=0)) (some 19) ((cond (decide (10000<(↑(List.length t_.Prefixes):Int))) (some true) (some (decide (10000<(↑(List.length t_.Suffixes):Int)))):Option (Bool)).bind (fun (y61:Bool)=>cond (y61) (some 11) (chk (inR (t_.Inputs+1)) (chk (inR ((↑(List.length t_.Prefixes):Int)*(t_.Inputs+1))) (chk (inR (((↑(List.length t_.Prefixes):Int)*(t_.Inputs+1))*(↑(List.length t_.Suffixes):Int))) (cond (decide (160000<(((↑(List.length t_.Prefixes):Int)*(t_.Inputs+1))*(↑(List.length t_.Suffixes):Int)))) (some 11) ((zdj t_).bind fun c68=>cond (decide (c68≠0)) (some c68) ((zbz t_).bind fun c70=>cond (decide (c70≠0)) (some c70) ((zdo t_.Prefixes).bind fun c72=>(zdo t_.Suffixes).bind fun c73=>chk (inR (c72+c73)) (cond (decide (1023<(c72+c73))) (some 3) (some 0)))))))))))))
def ze9.s2 (l_:zai) (i105:Nat):Option (Nat⊕(Unit⊕Int)) :=
 cond (decide ((↑i105:Int)<(↑(List.length l_.Suffixes):Int))) (idxn l_.Suffixes i105 fun e120=>(cond (decide (1<(↑(List.length e120):Int))) (chk ((0:Int)≤1∧1≤(↑(List.length e120):Int)) ((zhg l_.Suffixes (List.drop 1 e120)).bind fun c129=>some (!c129))) (some false):Option (Bool)).bind (fun (y126:Bool)=>cond (y126) (some (.inr (.inr 1))) (some (.inl (i105+1))))) (some (.inr (.inl ())))
def ze9 (l_:zai):Option (Int) :=
 (zi1 l_).bind fun c51=>(zg1 c51).bind fun c52=>cond (decide (c52≠0)) (some c52) ((iter (fun (s:Nat)=>ze9.s2 l_ s) fuel 0:Option (Unit⊕Int)).bind (Sum.elim (fun (_:Unit)=>some 0) some))
def zki (l_:zai) (o_:zab):Option (Int) :=
 (ze9 l_).bind fun c51=>cond (decide (c51≠0)) (some c51) (cond (decide (l_.Inputs≠o_.Inputs)) (some 15) (some 0))
def zgc.s2 (l_:List (List Int)) (w_:List Int) (low84:Nat) (high85:Nat):Option ((Nat×Nat)⊕Nat) :=
 cond (decide ((↑low84:Int)<(↑high85:Int))) (chk (inR ((↑low84:Int)+(↑high85:Int))) (chk (inR (((↑low84:Int)+(↑high85:Int)) / 2)∧(0:Int)≤((↑low84:Int)+(↑high85:Int))∧(1:Int)≤2) (idxn l_ ((low84+high85) / 2) fun e97=>(zdx e97 w_).bind fun c98=>cond (decide (c98<0)) (chk (inR ((((↑low84:Int)+(↑high85:Int)) / 2)+1)) (some (.inl ((((low84+high85) / 2)+1),high85)))) (some (.inl (low84,((low84+high85) / 2))))))) (some (.inr low84))
def zgc (l_:List (List Int)) (w_:List Int):Option (Int) :=
 (iter (fun (s:Nat×Nat)=>zgc.s2 l_ w_ s.1 s.2) fuel (0,(List.length l_)):Option (Nat)).bind (fun (low77:Nat)=>some (↑low77:Int))
def zgi.s2 (c51:Int) (y93:List (List Int)) (i94:Int):Option ((List (List Int)×Int)⊕List (List Int)) :=
 cond (decide (c51<i94)) (chk (inR (i94-1)) (idx y93 (i94-1) fun e103=>idx y93 i94 fun e104=>chk (inR (i94-1)) (some (.inl ((List.set y93 i94.toNat e103),(i94-1)))))) (some (.inr y93))
def zgi (l_:List (List Int)) (w_:List Int):Option (List (List Int)) :=
 (zgc l_ w_).bind fun c51=>(cond (decide (c51<(↑(List.length l_):Int))) (idx l_ c51 fun e59=>(zk1 e59 w_).bind fun c60=>some c60) (some false):Option (Bool)).bind (fun (y57:Bool)=>cond (y57) (some l_) (chk (zbm (List.length l_+1) 24) (chk (inR ((↑(List.length (l_++[[]])):Int)-1)) ((iter (fun (s:List (List Int)×Int)=>zgi.s2 c51 s.1 s.2) fuel ((l_++[[]]),((↑(List.length (l_++[[]])):Int)-1)):Option (List (List Int))).bind (fun (y87:List (List Int))=>chk (zbm (List.length ([]:List Unit)+List.length w_) 8) (idx y87 c51 fun e111=>some (List.set y87 c51.toNat ([]++w_))))))))
def zcb.s13 (l_:List (List Int)) (i255:Nat) (y336:List (List Int)) (k337:Nat):Option ((List (List Int)×Nat)⊕List (List Int)) :=
 idxn l_ i255 fun e345=>cond (decide ((↑k337:Int)≤(↑(List.length e345):Int))) (idxn l_ i255 fun e347=>chk ((0:Int)≤(↑k337:Int)∧(↑k337:Int)≤(↑(List.length e347):Int)) ((zgi y336 (List.take k337 e347)).bind fun c349=>chk (inR ((↑k337:Int)+1)) (some (.inl (c349,(k337+1)))))) (some (.inr y336))
def zcb.s14 (l_:List (List Int)) (y254:List (List Int)) (i255:Nat):Option ((List (List Int)×Nat)⊕List (List Int)) :=
 cond (decide ((↑i255:Int)<(↑(List.length l_):Int))) ((iter (fun (s:List (List Int)×Nat)=>zcb.s13 l_ i255 s.1 s.2) fuel (y254,0):Option (List (List Int))).bind (fun (y330:List (List Int))=>some (.inl (y330,(i255+1))))) (some (.inr y254))
def zcb (l_:List (List Int)):Option (List (List Int)) :=
 (iter (fun (s:List (List Int)×Nat)=>zcb.s14 l_ s.1 s.2) fuel ([],0):Option (List (List Int))).bind (fun (y204:List (List Int))=>some y204)
def zf3.s2 (parts_:List (List Int)) (y70:List Int) (i71:Nat):Option ((List Int×Nat)⊕List Int) :=
 cond (decide ((↑i71:Int)<(↑(List.length parts_):Int))) (idxn parts_ i71 fun e77=>chk (zbm (List.length y70+List.length e77) 8) (some (.inl ((y70++e77),(i71+1))))) (some (.inr y70))
def zf3 (parts_:List (List Int)):Option (List Int) :=
 (iter (fun (s:List Int×Nat)=>zf3.s2 parts_ s.1 s.2) fuel ([],0):Option (List Int)).bind (fun (y66:List Int)=>some y66)
def zff (u_:List Int) (v_:List Int):Option (List Int) :=
 (zf3 [u_,v_]).bind fun c51=>some c51
def zd6.s2 (l_:List (List Int)) (y72:List (List Int)) (i73:Nat):Option ((List (List Int)×Nat)⊕List (List Int)) :=
 cond (decide ((↑i73:Int)<(↑(List.length l_):Int))) (idxn l_ i73 fun e80=>(zff e80 []).bind fun c81=>chk (zbm (List.length y72+1) 24) (some (.inl ((y72++[c81]),(i73+1))))) (some (.inr y72))
def zd6 (l_:List (List Int)):Option (List (List Int)) :=
 (iter (fun (s:List (List Int)×Nat)=>zd6.s2 l_ s.1 s.2) fuel ([],0):Option (List (List Int))).bind (fun (y68:List (List Int))=>some y68)
def zen.s2 (l_:List (List Int)) (y70:List (List Int)) (i71:Nat):Option ((List (List Int)×Nat)⊕List (List Int)) :=
 cond (decide ((↑i71:Int)<(↑(List.length l_):Int))) (idxn l_ i71 fun e77=>(zgi y70 e77).bind fun c78=>some (.inl (c78,(i71+1)))) (some (.inr y70))
def zen (l_:List (List Int)):Option (List (List Int)) :=
 (iter (fun (s:List (List Int)×Nat)=>zen.s2 l_ s.1 s.2) fuel ([],0):Option (List (List Int))).bind (fun (y66:List (List Int))=>some y66)
def zfc.s2 (lists_:List (List (List Int))) (y70:List (List Int)) (i71:Nat):Option ((List (List Int)×Nat)⊕List (List Int)) :=
 cond (decide ((↑i71:Int)<(↑(List.length lists_):Int))) (idxn lists_ i71 fun e77=>chk (zbm (List.length y70+List.length e77) 24) (some (.inl ((y70++e77),(i71+1))))) (some (.inr y70))
def zfc (lists_:List (List (List Int))):Option (List (List Int)) :=
 (iter (fun (s:List (List Int)×Nat)=>zfc.s2 lists_ s.1 s.2) fuel ([],0):Option (List (List Int))).bind (fun (y66:List (List Int))=>(zen y66).bind fun c82=>some c82)
def zop (t_:zac) (prefixes_:List (List Int)) (suffixes_:List (List Int)):Option (zac) :=
 (zd6 t_.Prefixes).bind fun c51=>(zd6 prefixes_).bind fun c52=>(zfc [c51,c52]).bind fun c53=>(zd6 t_.Suffixes).bind fun c54=>(zd6 suffixes_).bind fun c55=>(zfc [c54,c55]).bind fun c56=>some (⟨t_.Inputs,c53,c56⟩:zac)
def zlh (t_:zac) (w_:List Int):Option (zac×Int) :=
 (zg1 t_).bind fun c51=>cond (decide (c51≠0)) (some (t_,c51)) ((zdr w_ t_.Inputs).bind fun c53=>cond (decide (c53≠0)) (some (t_,c53)) ((zcb [w_]).bind fun c55=>(zop t_ c55 []).bind fun c56=>(zg1 c56).bind fun c57=>cond (decide (c57≠0)) (some (t_,c57)) (some (c56,0))))
def zlj (t_:zac) (w_:List Int):Option (zac×Int) :=
 (zg1 t_).bind fun c51=>cond (decide (c51≠0)) (some (t_,c51)) (cond (decide ((↑(List.length w_):Int)=0)) (some (t_,19)) ((zdr w_ t_.Inputs).bind fun c54=>cond (decide (c54≠0)) (some (t_,c54)) ((zop t_ [] [w_]).bind fun c56=>(zg1 c56).bind fun c57=>cond (decide (c57≠0)) (some (t_,c57)) (some (c56,0)))))
def zd8.s2 (o_:zab) (w_:List Int) (i84:Nat):Option (Nat⊕(Unit⊕(List Int×Bool))) :=
 cond (decide ((↑i84:Int)<(↑(List.length o_.Traces):Int))) (idxn o_.Traces i84 fun e94=>(zdp e94.In w_).bind fun c95=>cond (c95) (idxn o_.Traces i84 fun e97=>chk ((0:Int)≤(↑(List.length w_):Int)∧(↑(List.length w_):Int)≤(↑(List.length e97.Out):Int)) ((zf3 [(List.take (List.length w_) e97.Out)]).bind fun c99=>some (.inr (.inr (c99,true))))) (some (.inl (i84+1)))) (some (.inr (.inl ())))
def zd8 (o_:zab) (w_:List Int):Option (List Int×Bool) :=
 cond (decide ((↑(List.length w_):Int)=0)) (some ([],true)) ((iter (fun (s:Nat)=>zd8.s2 o_ w_ s) fuel 0:Option (Unit⊕(List Int×Bool))).bind (Sum.elim (fun (_:Unit)=>some ([],false)) some))
def zck.s13 (c51:List (List Int)) (i308:Nat) (top412:Bool) (k413:Nat):Option ((Bool×Nat)⊕Bool) :=
 cond (decide ((↑k413:Int)<(↑(List.length c51):Int))) (cond (top412) (idxn c51 k413 fun e425=>idxn c51 i308 fun e426=>cond (decide ((↑(List.length e425):Int)=(↑(List.length e426):Int))) (some (.inl (true,(k413+1)))) (idxn c51 k413 fun e428=>idxn c51 i308 fun e429=>(zdp e428 e429).bind fun c430=>some (.inl ((!c430),(k413+1))))) (some (.inl (false,(k413+1))))) (some (.inr top412))
def zck.s14 (c51:List (List Int)) (y307:List (List Int)) (i308:Nat):Option ((List (List Int)×Nat)⊕List (List Int)) :=
 cond (decide ((↑i308:Int)<(↑(List.length c51):Int))) ((iter (fun (s:Bool×Nat)=>zck.s13 c51 i308 s.1 s.2) fuel (true,(i308+1)):Option (Bool)).bind (fun (top404:Bool)=>cond (top404) (idxn c51 i308 fun e436=>chk (zbm (List.length y307+1) 24) (some (.inl ((y307++[e436]),(i308+1))))) (some (.inl (y307,(i308+1)))))) (some (.inr y307))
def zck (l_:List (List Int)):Option (List (List Int)) :=
 (zen l_).bind fun c51=>(iter (fun (s:List (List Int)×Nat)=>zck.s14 c51 s.1 s.2) fuel ([],0):Option (List (List Int))).bind (fun (y246:List (List Int))=>some y246)
def zn7 (t_:zac) (o_:zab):Option (Int) :=
 (zg1 t_).bind fun c51=>cond (decide (c51≠0)) (some c51) (cond (decide (t_.Inputs≠o_.Inputs)) (some 15) (some 0))
def zbt.s13 (t_:zac) (i214:Nat) (y281:List (List Int)) (a282:Nat):Option ((List (List Int)×Nat)⊕List (List Int)) :=
 cond (decide ((↑a282:Int)<t_.Inputs)) (idxn t_.Prefixes i214 fun e290=>(zff e290 [(↑a282:Int)]).bind fun c291=>chk (zbm (List.length y281+1) 24) (chk (inR ((↑a282:Int)+1)) (some (.inl ((y281++[c291]),(a282+1)))))) (some (.inr y281))
def zbt.s14 (t_:zac) (y213:List (List Int)) (i214:Nat):Option ((List (List Int)×Nat)⊕List (List Int)) :=
 cond (decide ((↑i214:Int)<(↑(List.length t_.Prefixes):Int))) ((iter (fun (s:List (List Int)×Nat)=>zbt.s13 t_ i214 s.1 s.2) fuel (y213,0):Option (List (List Int))).bind (fun (y276:List (List Int))=>some (.inl (y276,(i214+1))))) (some (.inr y213))
def zbt (t_:zac):Option (List (List Int)) :=
 (iter (fun (s:List (List Int)×Nat)=>zbt.s14 t_ s.1 s.2) fuel ([],0):Option (List (List Int))).bind (fun (y174:List (List Int))=>(zen y174).bind fun c298=>some c298)
def zcv.s13 (t_:zac) (o_:zab) (c54:List (List Int)) (i287:Nat) (y382:List (List Int)) (k383:Nat):Option ((List (List Int)×Nat)⊕List (List Int)) :=
 cond (decide ((↑k383:Int)<(↑(List.length t_.Suffixes):Int))) (idxn c54 i287 fun e393=>idxn t_.Suffixes k383 fun e394=>(zff e393 e394).bind fun c395=>(zd8 o_ c395).bind fun c396=>cond ((!c396.2)) (chk (zbm (List.length y382+1) 24) (some (.inl ((y382++[c395]),(k383+1))))) (some (.inl (y382,(k383+1))))) (some (.inr y382))
def zcv.s14 (t_:zac) (o_:zab) (c54:List (List Int)) (y286:List (List Int)) (i287:Nat):Option ((List (List Int)×Nat)⊕List (List Int)) :=
 cond (decide ((↑i287:Int)<(↑(List.length c54):Int))) ((iter (fun (s:List (List Int)×Nat)=>zcv.s13 t_ o_ c54 i287 s.1 s.2) fuel (y286,0):Option (List (List Int))).bind (fun (y374:List (List Int))=>some (.inl (y374,(i287+1))))) (some (.inr y286))
def zcv (t_:zac) (o_:zab):Option (List (List Int)×Int) :=
 (zn7 t_ o_).bind fun c51=>cond (decide (c51≠0)) (some ([],c51)) ((zbt t_).bind fun c53=>(zfc [t_.Prefixes,c53]).bind fun c54=>(iter (fun (s:List (List Int)×Nat)=>zcv.s14 t_ o_ c54 s.1 s.2) fuel ([],0):Option (List (List Int))).bind (fun (y230:List (List Int))=>(zck y230).bind fun c406=>some (c406,0)))
def zni (o_:zab) (w_:List Int) (e_:List Int):Option (List Int×Bool) :=
 (zff w_ e_).bind fun c51=>(zd8 o_ c51).bind fun c52=>cond ((!c52.2)) (some ([],false)) (chk ((0:Int)≤(↑(List.length w_):Int)∧(↑(List.length w_):Int)≤(↑(List.length c52.1):Int)) (some ((List.drop (List.length w_) c52.1),true)))
def zgf.s2 (o_:zab) (suffixes_:List (List Int)) (w_:List Int) (y77:List (List Int)) (k78:Nat):Option ((List (List Int)×Nat)⊕(List (List Int)⊕(List (List Int)×Bool))) :=
 cond (decide ((↑k78:Int)<(↑(List.length suffixes_):Int))) (idxn suffixes_ k78 fun e86=>(zni o_ w_ e86).bind fun c87=>cond ((!c87.2)) (some (.inr (.inr ([],false)))) (chk (zbm (List.length y77+1) 24) (some (.inl ((y77++[c87.1]),(k78+1)))))) (some (.inr (.inl y77)))
def zgf (o_:zab) (suffixes_:List (List Int)) (w_:List Int):Option (List (List Int)×Bool) :=
 (iter (fun (s:List (List Int)×Nat)=>zgf.s2 o_ suffixes_ w_ s.1 s.2) fuel ([],0):Option (List (List Int)⊕(List (List Int)×Bool))).bind (Sum.elim (fun (y72:List (List Int))=>some (y72,true)) some)
def zf2.s2 (a_:List Int) (b_:List Int) (i73:Nat):Option (Nat⊕(Unit⊕Bool)) :=
 cond (decide ((↑i73:Int)<(↑(List.length a_):Int))) (idxn a_ i73 fun e80=>idxn b_ i73 fun e81=>cond (decide (e80≠e81)) (some (.inr (.inr false))) (some (.inl (i73+1)))) (some (.inr (.inl ())))
def zf2 (a_:List Int) (b_:List Int):Option (Bool) :=
 cond (decide ((↑(List.length a_):Int)≠(↑(List.length b_):Int))) (some false) ((iter (fun (s:Nat)=>zf2.s2 a_ b_ s) fuel 0:Option (Unit⊕Bool)).bind (Sum.elim (fun (_:Unit)=>some true) some))
def zfa.s2 (a_:List (List Int)) (b_:List (List Int)) (i77:Nat):Option (Nat⊕(Unit⊕Bool)) :=
 cond (decide ((↑i77:Int)<(↑(List.length a_):Int))) (idxn a_ i77 fun e85=>idxn b_ i77 fun e86=>(zf2 e85 e86).bind fun c87=>cond ((!c87)) (some (.inr (.inr false))) (some (.inl (i77+1)))) (some (.inr (.inl ())))
def zfa (a_:List (List Int)) (b_:List (List Int)):Option (Bool) :=
 cond (decide ((↑(List.length a_):Int)≠(↑(List.length b_):Int))) (some false) ((iter (fun (s:Nat)=>zfa.s2 a_ b_ s) fuel 0:Option (Unit⊕Bool)).bind (Sum.elim (fun (_:Unit)=>some true) some))
def zhd.s2 (t_:zac) (o_:zab) (c51:List (List Int)×Bool) (i76:Nat):Option (Nat⊕(Unit⊕Int)) :=
 cond (decide ((↑i76:Int)<(↑(List.length t_.Prefixes):Int))) (idxn t_.Prefixes i76 fun e84=>(zgf o_ t_.Suffixes e84).bind fun c85=>(zfa c85.1 c51.1).bind fun c86=>cond (c86) (some (.inr (.inr (↑i76:Int)))) (some (.inl (i76+1)))) (some (.inr (.inl ())))
def zhd (t_:zac) (o_:zab) (w_:List Int):Option (Int) :=
 (zgf o_ t_.Suffixes w_).bind fun c51=>(iter (fun (s:Nat)=>zhd.s2 t_ o_ c51 s) fuel 0:Option (Unit⊕Int)).bind (Sum.elim (fun (_:Unit)=>some (-1:Int)) some)
def zhp (t_:zac) (o_:zab):Option (Int) :=
 (zcv t_ o_).bind fun c51=>cond (decide (c51.2≠0)) (some c51.2) (cond (decide (0<(↑(List.length c51.1):Int))) (some 12) (some 0))
def zdf.s2 (t_:zac) (o_:zab) (c53:List (List Int)) (i78:Nat):Option (Nat⊕(Unit⊕(List Int×Bool×Int))) :=
 cond (decide ((↑i78:Int)<(↑(List.length c53):Int))) (idxn c53 i78 fun e86=>(zhd t_ o_ e86).bind fun c87=>cond (decide (c87<0)) (idxn c53 i78 fun e89=>some (.inr (.inr (e89,true,0)))) (some (.inl (i78+1)))) (some (.inr (.inl ())))
def zdf (t_:zac) (o_:zab):Option (List Int×Bool×Int) :=
 (zhp t_ o_).bind fun c51=>cond (decide (c51≠0)) (some ([],false,c51)) ((zbt t_).bind fun c53=>(iter (fun (s:Nat)=>zdf.s2 t_ o_ c53 s) fuel 0:Option (Unit⊕(List Int×Bool×Int))).bind (Sum.elim (fun (_:Unit)=>some ([],false,0)) some))
def zb9.s13 (t_:zac) (a306:Nat) (c373:List (List Int)×Bool) (c375:List (List Int)×Bool) (k411:Nat):Option (Nat⊕(Unit⊕(Nat⊕(Unit⊕(List Int×Bool))))) :=
 cond (decide ((↑k411:Int)<(↑(List.length c373.1):Int))) (idxn c373.1 k411 fun e421=>idxn c375.1 k411 fun e422=>(zf2 e421 e422).bind fun c423=>cond ((!c423)) (idxn t_.Suffixes k411 fun e425=>(zff [(↑a306:Int)] e425).bind fun c426=>some (.inr (.inr (.inr (.inr (c426,true)))))) (some (.inl (k411+1)))) (some (.inr (.inl ())))
def zb9.s14 (t_:zac) (o_:zab) (p_:List Int) (q_:List Int) (a306:Nat):Option (Nat⊕(Unit⊕(List Int×Bool))) :=
 cond (decide ((↑a306:Int)<t_.Inputs)) ((zff p_ [(↑a306:Int)]).bind fun c372=>(zgf o_ t_.Suffixes c372).bind fun c373=>(zff q_ [(↑a306:Int)]).bind fun c374=>(zgf o_ t_.Suffixes c374).bind fun c375=>(iter (fun (s:Nat)=>zb9.s13 t_ a306 c373 c375 s) fuel 0:Option (Unit⊕(Nat⊕(Unit⊕(List Int×Bool))))).bind (Sum.elim (fun (_:Unit)=>chk (inR ((↑a306:Int)+1)) (some (.inl (a306+1)))) some)) (some (.inr (.inl ())))
def zb9 (t_:zac) (o_:zab) (p_:List Int) (q_:List Int):Option (List Int×Bool) :=
 (iter (fun (s:Nat)=>zb9.s14 t_ o_ p_ q_ s) fuel 0:Option (Unit⊕(List Int×Bool))).bind (Sum.elim (fun (_:Unit)=>some ([],false)) some)
def zbd.s13 (t_:zac) (o_:zab) (i608:Nat) (k840:Nat):Option (Nat⊕(Unit⊕(Nat⊕(Unit⊕(List Int×Bool×Int))))) :=
 cond (decide ((↑k840:Int)<(↑(List.length t_.Prefixes):Int))) ((idxn t_.Prefixes i608 fun e876=>(zgf o_ t_.Suffixes e876).bind fun c877=>idxn t_.Prefixes k840 fun e878=>(zgf o_ t_.Suffixes e878).bind fun c879=>(zfa c877.1 c879.1).bind fun c880=>cond ((!c880)) (some (.inl ())) (idxn t_.Prefixes i608 fun e882=>idxn t_.Prefixes k840 fun e883=>(zb9 t_ o_ e882 e883).bind fun c884=>cond (c884.2) (some (.inr (.inr (.inr (.inr (.inr (c884.1,true,0))))))) (some (.inl ()))):Option (Unit⊕(Nat⊕(Unit⊕(Nat⊕(Unit⊕(List Int×Bool×Int))))))).bind (Sum.elim (fun (_:Unit)=>some (.inl (k840+1))) some)) (some (.inr (.inl ())))
def zbd.s14 (t_:zac) (o_:zab) (i608:Nat):Option (Nat⊕(Unit⊕(List Int×Bool×Int))) :=
 cond (decide ((↑i608:Int)<(↑(List.length t_.Prefixes):Int))) ((iter (fun (s:Nat)=>zbd.s13 t_ o_ i608 s) fuel (i608+1):Option (Unit⊕(Nat⊕(Unit⊕(List Int×Bool×Int))))).bind (Sum.elim (fun (_:Unit)=>some (.inl (i608+1))) some)) (some (.inr (.inl ())))
def zbd (t_:zac) (o_:zab):Option (List Int×Bool×Int) :=
 (zhp t_ o_).bind fun c51=>cond (decide (c51≠0)) (some ([],false,c51)) ((iter (fun (s:Nat)=>zbd.s14 t_ o_ s) fuel 0:Option (Unit⊕(List Int×Bool×Int))).bind (Sum.elim (fun (_:Unit)=>some ([],false,0)) some))
def zqz (t_:zac) (o_:zab):Option (zac×List (List Int)×Bool×Int) :=
 (zcv t_ o_).bind fun c51=>(cond (decide (c51.2≠0)) (some true) (some (decide (0<(↑(List.length c51.1):Int)))):Option (Bool)).bind (fun (y55:Bool)=>cond (y55) (some (t_,c51.1,false,c51.2)) ((zdf t_ o_).bind fun c59=>cond (c59.2.1) ((zlh t_ c59.1).bind fun c61=>some (c61.1,[],false,c61.2)) ((zbd t_ o_).bind fun c62=>cond (c62.2.1) ((zlj t_ c62.1).bind fun c64=>some (c64.1,[],false,c64.2)) (some (t_,[],true,0)))))
def zqp (l_:zai) (o_:zab):Option (zai×List (List Int)×Bool×Int) :=
 (zki l_ o_).bind fun c51=>cond (decide (c51≠0)) (some (l_,[],false,c51)) ((zi1 l_).bind fun c53=>(zqz c53 o_).bind fun c54=>(R28_Of c54.1).bind fun c55=>some (c55,c54.2.1,c54.2.2.1,c54.2.2.2))
def zd2.s2 (m_:zal) (w_:List Int) (s90:Int) (y91:List Int) (i92:Nat):Option ((Int×List Int×Nat)⊕(Int×List Int)) :=
 cond (decide ((↑i92:Int)<(↑(List.length w_):Int))) (idx m_.Out s90 fun e103=>idxn w_ i92 fun e104=>idx e103 e104 fun e105=>chk (zbm (List.length y91+1) 8) (idx m_.Next s90 fun e107=>idxn w_ i92 fun e108=>idx e107 e108 fun e109=>some (.inl (e109,(y91++[e105]),(i92+1))))) (some (.inr (s90,y91)))
def zd2.k3 (s81:Int) (y82:List Int):Option (List Int×Int) :=
 some (y82,s81)
def zd2 (m_:zal) (s_:Int) (w_:List Int):Option (List Int×Int) :=
 (iter (fun (s:Int×List Int×Nat)=>zd2.s2 m_ w_ s.1 s.2.1 s.2.2) fuel (s_,[],0):Option (Int×List Int)).bind (fun (s:Int×List Int)=>zd2.k3 s.1 s.2)
def zgx.s2 (m_:zal) (s_:Int) (a174:Nat):Option (Nat⊕(Unit⊕Int)) :=
 cond (decide ((↑a174:Int)<m_.Inputs)) ((idx m_.Next s_ fun e219=>idxn e219 a174 fun e220=>cond (decide (e220<0)) (some true) (idx m_.Next s_ fun e222=>idxn e222 a174 fun e223=>cond (decide ((↑(List.length m_.Next):Int)≤e223)) (some true) (idx m_.Out s_ fun e225=>idxn e225 a174 fun e226=>cond (decide (e226<0)) (some true) (idx m_.Out s_ fun e228=>idxn e228 a174 fun e229=>some (decide (1048576<e229))))):Option (Bool)).bind (fun (y218:Bool)=>cond (y218) (some (.inr (.inr 2))) (chk (inR ((↑a174:Int)+1)) (some (.inl (a174+1)))))) (some (.inr (.inl ())))
def zgx (m_:zal) (s_:Int):Option (Int) :=
 (idx m_.Next s_ fun e57=>cond (decide ((↑(List.length e57):Int)≠m_.Inputs)) (some true) (idx m_.Out s_ fun e59=>some (decide ((↑(List.length e59):Int)≠m_.Inputs))):Option (Bool)).bind (fun (y56:Bool)=>cond (y56) (some 1) ((iter (fun (s:Nat)=>zgx.s2 m_ s_ s) fuel 0:Option (Unit⊕Int)).bind (Sum.elim (fun (_:Unit)=>some 0) some)))
def zb6.s2 (m_:zal) (s81:Nat):Option (Nat⊕(Unit⊕Int)) :=
 cond (decide ((↑s81:Int)<(↑(List.length m_.Next):Int))) ((zgx m_ (↑s81:Int)).bind fun c87=>cond (decide (c87≠0)) (some (.inr (.inr c87))) (some (.inl (s81+1)))) (some (.inr (.inl ())))
def zb6 (m_:zal):Option (Int) :=
 (cond (decide (m_.Inputs<1)) (some true) (some (decide (64<m_.Inputs))):Option (Bool)).bind (fun (y54:Bool)=>cond (y54) (some 2) (cond (decide ((↑(List.length m_.Next):Int)=0)) (some 19) (cond (decide (128<(↑(List.length m_.Next):Int))) (some 11) ((cond (decide (m_.Start<0)) (some true) (some (decide ((↑(List.length m_.Next):Int)≤m_.Start))):Option (Bool)).bind (fun (y62:Bool)=>cond (y62) (some 2) (cond (decide ((↑(List.length m_.Out):Int)≠(↑(List.length m_.Next):Int))) (some 1) ((iter (fun (s:Nat)=>zb6.s2 m_ s) fuel 0:Option (Unit⊕Int)).bind (Sum.elim (fun (_:Unit)=>some 0) some))))))))
def zub (m_:zal) (s_:Int) (w_:List Int):Option (List Int×Int×Int) :=
 (zb6 m_).bind fun c51=>cond (decide (c51≠0)) (some ([],0,c51)) ((cond (decide (s_<0)) (some true) (some (decide ((↑(List.length m_.Next):Int)≤s_))):Option (Bool)).bind (fun (y56:Bool)=>cond (y56) (some ([],0,2)) ((zdr w_ m_.Inputs).bind fun c60=>cond (decide (c60≠0)) (some ([],0,c60)) ((zd2 m_ s_ w_).bind fun c62=>some (c62.1,c62.2,0)))))
def zuj (m_:zal) (w_:List Int):Option (List Int×Int) :=
 (zub m_ m_.Start w_).bind fun c51=>some (c51.1,c51.2.2)
def zih (t_:zaa):Option (zaa) :=
 (zf3 [t_.In]).bind fun c51=>(zf3 [t_.Out]).bind fun c52=>some (⟨c51,c52⟩:zaa)
def zdm.s2 (o_:zab) (t_:zaa) (done72:Bool) (i73:Nat):Option ((Bool×Nat)⊕Bool) :=
 cond (decide ((↑i73:Int)<(↑(List.length o_.Traces):Int))) (cond (done72) (some (.inl (true,(i73+1)))) (idxn o_.Traces i73 fun e81=>(zdp e81.In t_.In).bind fun c82=>some (.inl (c82,(i73+1))))) (some (.inr done72))
def zdm.k9 (t_:zaa) (i277:Nat) (e328:zaa) (y344:List zaa) (done345:Bool):Option ((List zaa×Bool×Nat)⊕(List zaa×Bool)) :=
 ((zdp t_.In e328.In).bind fun c367=>cond ((!c367)) (some true) (some (decide ((↑(List.length t_.In):Int)=(↑(List.length e328.In):Int)))):Option (Bool)).bind (fun (y366:Bool)=>cond (y366) ((zih e328).bind fun c373=>chk (zbm (List.length y344+1) 48) (some (.inl ((y344++[c373]),done345,(i277+1))))) (some (.inl (y344,done345,(i277+1)))))
def zdm.s10 (o_:zab) (t_:zaa) (y275:List zaa) (done276:Bool) (i277:Nat):Option ((List zaa×Bool×Nat)⊕(List zaa×Bool)) :=
 cond (decide ((↑i277:Int)<(↑(List.length o_.Traces):Int))) (idxn o_.Traces i277 fun e328=>((cond ((!done276)) ((zdx t_.In e328.In).bind fun c352=>some (decide (c352<0))) (some false):Option (Bool)).bind (fun (y350:Bool)=>cond (y350) ((zih t_).bind fun c357=>chk (zbm (List.length y275+1) 48) (some ((y275++[c357]),true))) (some (y275,done276))):Option (List zaa×Bool)).bind (fun (s:List zaa×Bool)=>zdm.k9 t_ i277 e328 s.1 s.2)) (some (.inr (y275,done276)))
def zdm.k11 (o_:zab) (t_:zaa) (y229:List zaa) (done230:Bool):Option (zab) :=
 (cond ((!done230)) ((zih t_).bind fun c384=>chk (zbm (List.length y229+1) 48) (some (y229++[c384]))) (some y229):Option (List zaa)).bind (fun (y382:List zaa)=>some (⟨o_.Inputs,y382⟩:zab))
def zdm (o_:zab) (t_:zaa):Option (zab) :=
 (iter (fun (s:Bool×Nat)=>zdm.s2 o_ t_ s.1 s.2) fuel (decide ((↑(List.length t_.In):Int)=0),0):Option (Bool)).bind (fun (done67:Bool)=>(iter (fun (s:List zaa×Bool×Nat)=>zdm.s10 o_ t_ s.1 s.2.1 s.2.2) fuel ([],done67,0):Option (List zaa×Bool)).bind (fun (s:List zaa×Bool)=>zdm.k11 o_ t_ s.1 s.2))
def zi8.s2 (o_:zab) (t_:zaa) (i72:Nat):Option (Nat⊕(Unit⊕(zab×Int))) :=
 cond (decide ((↑i72:Int)<(↑(List.length o_.Traces):Int))) (idxn o_.Traces i72 fun e79=>(zdg e79 t_).bind fun c80=>cond (decide (0≤c80)) (some (.inr (.inr (o_,13)))) (some (.inl (i72+1)))) (some (.inr (.inl ())))
def zi8 (o_:zab) (t_:zaa):Option (zab×Int) :=
 (zcz t_ o_.Inputs).bind fun c51=>cond (decide (c51≠0)) (some (o_,c51)) ((iter (fun (s:Nat)=>zi8.s2 o_ t_ s) fuel 0:Option (Unit⊕(zab×Int))).bind (Sum.elim (fun (_:Unit)=>(zdm o_ t_).bind fun c82=>cond (decide (10000<(↑(List.length c82.Traces):Int))) (some (o_,11)) (some (c82,0))) some))
def zej.s2 (m_:zal) (words_:List (List Int)) (y88:Int) (y89:List zaa) (i90:Nat):Option ((Int×List zaa×Nat)⊕((Int×List zaa)⊕(zab×Int))) :=
 cond (decide ((↑i90:Int)<(↑(List.length words_):Int))) (idxn words_ i90 fun e100=>(zuj m_ e100).bind fun c101=>cond (decide (c101.2≠0)) (some (.inr (.inr ((⟨y88,y89⟩:zab),c101.2)))) (idxn words_ i90 fun e103=>(zi8 (⟨y88,y89⟩:zab) (⟨e103,c101.1⟩:zaa)).bind fun c104=>cond (decide (c104.2≠0)) (some (.inr (.inr ((⟨y88,y89⟩:zab),c104.2)))) (some (.inl (c104.1.Inputs,c104.1.Traces,(i90+1)))))) (some (.inr (.inl (y88,y89))))
def zej.k3 (y79:Int) (y80:List zaa):Option (zab×Int) :=
 some ((⟨y79,y80⟩:zab),0)
def zej (o_:zab) (m_:zal) (words_:List (List Int)):Option (zab×Int) :=
 (iter (fun (s:Int×List zaa×Nat)=>zej.s2 m_ words_ s.1 s.2.1 s.2.2) fuel (o_.Inputs,o_.Traces,0):Option ((Int×List zaa)⊕(zab×Int))).bind (Sum.elim (fun (s:Int×List zaa)=>zej.k3 s.1 s.2) some)
def zn5 (m_:zal):Option (Bool) :=
 (cond (decide ((↑(List.length m_.Next):Int)≤12)) (cond (decide ((↑(List.length m_.Out):Int)≤12)) (some (decide (m_.Inputs≤4))) (some false)) (some false):Option (Bool)).bind (fun (y55:Bool)=>some y55)
def zc0.s2 (m_:zal) (o_:zab) (i78:Nat):Option (Nat⊕(Unit⊕Bool)) :=
 cond (decide ((↑i78:Int)<(↑(List.length o_.Traces):Int))) (idxn o_.Traces i78 fun e87=>(zd2 m_ m_.Start e87.In).bind fun c88=>idxn o_.Traces i78 fun e89=>(zf2 c88.1 e89.Out).bind fun c90=>cond ((!c90)) (some (.inr (.inr false))) (some (.inl (i78+1)))) (some (.inr (.inl ())))
def zc0 (m_:zal) (o_:zab):Option (Bool) :=
 (iter (fun (s:Nat)=>zc0.s2 m_ o_ s) fuel 0:Option (Unit⊕Bool)).bind (Sum.elim (fun (_:Unit)=>some true) some)
def zcy.s2 (c_:zcl) (y195:Int) (y196:List (List Int)) (y197:List (List Int)) (y198:Int) (y199:List zaa) (i200:Nat):Option ((Int×List (List Int)×List (List Int)×Int×List zaa×Nat)⊕(Unit⊕Bool)) :=
 cond (decide ((↑i200:Int)<40)) ((zfe (⟨y195,y196,y197⟩:zai) (⟨y198,y199⟩:zab)).bind fun c223=>(cond (decide (c223.2.2.2≠0)) (some true) (some c223.2.2.1):Option (Bool)).bind (fun (y227:Bool)=>cond (y227) (some (.inr (.inr false))) (cond (decide ((↑(List.length c_.L.Suffixes):Int)<(↑(List.length c223.1.Suffixes):Int))) ((zix).bind fun c239=>some (.inr (.inr c239))) ((zej (⟨y198,y199⟩:zab) c_.M c223.2.1).bind fun c240=>cond (decide (c240.2≠0)) (some (.inr (.inr false))) (some (.inl (c223.1.Inputs,c223.1.Short,c223.1.Suffixes,c240.1.Inputs,c240.1.Traces,(i200+1)))))))) (some (.inr (.inl ())))
def zcy (c_:zcl):Option (Bool) :=
 ((znh c_.L c_.O).bind fun c64=>cond (c64) (some true) ((zn5 c_.M).bind fun c66=>cond ((!c66)) (some true) ((zb6 c_.M).bind fun c68=>cond (decide (c68≠0)) (some true) (cond (decide (c_.O.Inputs≠c_.M.Inputs)) (some true) ((zc0 c_.M c_.O).bind fun c71=>cond ((!c71)) (some true) (cond (decide (30<(↑(List.length c_.S.Prefix):Int))) (some true) (some (decide (30<(↑(List.length c_.S.Suffix):Int))))))))):Option (Bool)).bind (fun (y63:Bool)=>cond (y63) ((zix).bind fun c77=>some c77) ((zqp c_.L c_.O).bind fun c78=>(cond (decide (c78.2.2.2≠0)) (some true) (cond ((!c78.2.2.1)) (some true) (some (decide (0<(↑(List.length c78.2.1):Int))))):Option (Bool)).bind (fun (y83:Bool)=>cond (y83) ((zix).bind fun c89=>some c89) ((zdz c_.L c_.O c_.S).bind fun c90=>(cond (decide (c90.2.2≠0)) (some true) (some (decide (0<(↑(List.length c90.2.1):Int)))):Option (Bool)).bind (fun (y94:Bool)=>cond (y94) ((zix).bind fun c101=>some c101) ((iter (fun (s:Int×List (List Int)×List (List Int)×Int×List zaa×Nat)=>zcy.s2 c_ s.1 s.2.1 s.2.2.1 s.2.2.2.1 s.2.2.2.2.1 s.2.2.2.2.2) fuel (c90.1.Inputs,c90.1.Short,c90.1.Suffixes,c_.O.Inputs,c_.O.Traces,0):Option (Unit⊕Bool)).bind (Sum.elim (fun (_:Unit)=>some false) some)))))))
def zc9.s89 (m_:zal) (class_:List Int) (s3445:Nat) (t4904:Int) (same5139:Bool) (a5140:Nat):Option ((Bool×Nat)⊕Bool) :=
 (cond (decide ((↑a5140:Int)<m_.Inputs)) (some same5139) (some false):Option (Bool)).bind (fun (y5166:Bool)=>cond (y5166) (idxn m_.Out s3445 fun e5171=>idxn e5171 a5140 fun e5172=>idx m_.Out t4904 fun e5173=>idxn e5173 a5140 fun e5174=>cond (decide (e5172=e5174)) (idxn m_.Next s3445 fun e5176=>idxn e5176 a5140 fun e5177=>idx class_ e5177 fun e5178=>idx m_.Next t4904 fun e5179=>idxn e5179 a5140 fun e5180=>idx class_ e5180 fun e5181=>chk (inR ((↑a5140:Int)+1)) (some (.inl (decide (e5178=e5181),(a5140+1))))) (chk (inR ((↑a5140:Int)+1)) (some (.inl (false,(a5140+1)))))) (some (.inr same5139)))
def zc9.s90 (m_:zal) (class_:List Int) (y3443:List Int) (s3445:Nat) (found4903:Int) (t4904:Int):Option ((Int×Int)⊕Int) :=
 cond (decide (0≤t4904)) (idxn class_ s3445 fun e5050=>idx class_ t4904 fun e5051=>(iter (fun (s:Bool×Nat)=>zc9.s89 m_ class_ s3445 t4904 s.1 s.2) fuel (decide (e5050=e5051),0):Option (Bool)).bind (fun (same5119:Bool)=>cond (same5119) (idx y3443 t4904 fun e5189=>chk (inR (t4904-1)) (some (.inl (e5189,(t4904-1))))) (chk (inR (t4904-1)) (some (.inl (found4903,(t4904-1))))))) (some (.inr found4903))
def zc9.k91 (y3443:List Int) (s3445:Nat) (count5200:Nat) (found5201:Int):Option ((List Int×Nat×Nat)⊕List Int) :=
 chk (zbm (List.length y3443+1) 8) (some (.inl ((y3443++[found5201]),count5200,(s3445+1))))
def zc9.s92 (m_:zal) (class_:List Int) (y3443:List Int) (count3444:Nat) (s3445:Nat):Option ((List Int×Nat×Nat)⊕List Int) :=
 cond (decide ((↑s3445:Int)<(↑(List.length class_):Int))) ((iter (fun (s:Int×Int)=>zc9.s90 m_ class_ y3443 s3445 s.1 s.2) fuel ((-1:Int),((↑s3445:Int)-1)):Option (Int)).bind (fun (found4761:Int)=>(cond (decide (found4761<0)) (chk (inR ((↑count3444:Int)+1)) (some ((count3444+1),(↑count3444:Int)))) (some (count3444,found4761)):Option (Nat×Int)).bind (fun (s:Nat×Int)=>zc9.k91 y3443 s3445 s.1 s.2))) (some (.inr y3443))
def zc9 (m_:zal) (class_:List Int):Option (List Int) :=
 (iter (fun (s:List Int×Nat×Nat)=>zc9.s92 m_ class_ s.1 s.2.1 s.2.2) fuel ([],0,0):Option (List Int)).bind (fun (y2630:List Int)=>some y2630)
def zfq.s2 (m_:zal) (k_:Int) (y94:List Int) (i95:Nat):Option ((List Int×Nat)⊕List Int) :=
 (cond (decide ((↑i95:Int)<k_)) (some (decide ((↑i95:Int)<(↑(List.length m_.Next):Int)))) (some false):Option (Bool)).bind (fun (y109:Bool)=>cond (y109) ((zc9 m_ y94).bind fun c113=>chk (inR ((↑i95:Int)+1)) (some (.inl (c113,(i95+1))))) (some (.inr y94)))
def zfq (m_:zal) (k_:Int):Option (List Int×Int) :=
 (zb6 m_).bind fun c51=>cond (decide (c51≠0)) (some ([],c51)) (chk ((0:Int)≤(↑(List.length m_.Next):Int)∧(↑(List.length m_.Next):Int)≤(↑(List.length m_.Next):Int)∧zbm (Int.toNat (↑(List.length m_.Next):Int)) 8) ((iter (fun (s:List Int×Nat)=>zfq.s2 m_ k_ s.1 s.2) fuel ((List.replicate (List.length m_.Next) 0),0):Option (List Int)).bind (fun (y85:List Int)=>some (y85,0))))
def zp7 (m_:zal):Option (List Int×Int) :=
 (zfq m_ (↑(List.length m_.Next):Int)).bind fun c51=>some (c51.1,c51.2)
def zec.s2 (y70:List Int) (i71:Nat):Option ((List Int×Nat)⊕List Int) :=
 cond (decide ((↑i71:Int)<(↑(List.length y70):Int))) (idxn y70 i71 fun e76=>some (.inl ((List.set y70 i71 (-1:Int)),(i71+1)))) (some (.inr y70))
def zec.k55 (m_:zal) (c51:List Int×Int) (i1027:Nat) (y1421:List Int) (y1422:List Int) (a1423:Nat) (e1463:Int) (y1472:List Int) (y1473:List Int):Option ((List Int×List Int×List Int×List Int×Nat)⊕(List Int×List Int×List Int×List Int)) :=
 idx c51.1 e1463 fun e1487=>idx y1473 e1487 fun e1488=>chk (zbm (List.length y1421+1) 8) (idxn y1472 i1027 fun e1490=>idx m_.Out e1490 fun e1491=>idxn e1491 a1423 fun e1492=>chk (zbm (List.length y1422+1) 8) (chk (inR ((↑a1423:Int)+1)) (some (.inl (y1472,y1473,(y1421++[e1488]),(y1422++[e1492]),(a1423+1))))))
def zec.s56 (m_:zal) (c51:List Int×Int) (i1027:Nat) (y1419:List Int) (y1420:List Int) (y1421:List Int) (y1422:List Int) (a1423:Nat):Option ((List Int×List Int×List Int×List Int×Nat)⊕(List Int×List Int×List Int×List Int)) :=
 cond (decide ((↑a1423:Int)<m_.Inputs)) (idxn y1419 i1027 fun e1461=>idx m_.Next e1461 fun e1462=>idxn e1462 a1423 fun e1463=>(idx c51.1 e1463 fun e1474=>idx y1420 e1474 fun e1475=>cond (decide (e1475<0)) (idx c51.1 e1463 fun e1477=>idx y1420 e1477 fun e1478=>chk (zbm (List.length y1419+1) 8) (some ((y1419++[e1463]),(List.set y1420 e1477.toNat (↑(List.length y1419):Int))))) (some (y1419,y1420)):Option (List Int×List Int)).bind (fun (s:List Int×List Int)=>zec.k55 m_ c51 i1027 y1421 y1422 a1423 e1463 s.1 s.2)) (some (.inr (y1419,y1420,y1421,y1422)))
def zec.k57 (y1025:List (List Int)) (y1026:List (List Int)) (i1027:Nat) (y1385:List Int) (y1386:List Int) (y1387:List Int) (y1388:List Int):Option ((List Int×List Int×List (List Int)×List (List Int)×Nat)⊕(List (List Int)×List (List Int))) :=
 chk (zbm (List.length y1025+1) 24) (chk (zbm (List.length y1026+1) 24) (some (.inl (y1385,y1386,(y1025++[y1387]),(y1026++[y1388]),(i1027+1)))))
def zec.s58 (m_:zal) (c51:List Int×Int) (y1023:List Int) (y1024:List Int) (y1025:List (List Int)) (y1026:List (List Int)) (i1027:Nat):Option ((List Int×List Int×List (List Int)×List (List Int)×Nat)⊕(List (List Int)×List (List Int))) :=
 cond (decide ((↑i1027:Int)<(↑(List.length y1023):Int))) ((iter (fun (s:List Int×List Int×List Int×List Int×Nat)=>zec.s56 m_ c51 i1027 s.1 s.2.1 s.2.2.1 s.2.2.2.1 s.2.2.2.2) fuel (y1023,y1024,[],[],0):Option (List Int×List Int×List Int×List Int)).bind (fun (s:List Int×List Int×List Int×List Int)=>zec.k57 y1025 y1026 i1027 s.1 s.2.1 s.2.2.1 s.2.2.2)) (some (.inr (y1025,y1026)))
def zec.k59 (m_:zal) (y800:List (List Int)) (y801:List (List Int)):Option (zal×Int) :=
 some ((⟨m_.Inputs,0,y800,y801⟩:zal),0)
def zec (m_:zal):Option (zal×Int) :=
 (zp7 m_).bind fun c51=>cond (decide (c51.2≠0)) (some ((⟨0,0,[],[]⟩:zal),c51.2)) (chk ((0:Int)≤(↑(List.length m_.Next):Int)∧(↑(List.length m_.Next):Int)≤(↑(List.length m_.Next):Int)∧zbm (Int.toNat (↑(List.length m_.Next):Int)) 8) ((iter (fun (s:List Int×Nat)=>zec.s2 s.1 s.2) fuel ((List.replicate (List.length m_.Next) 0),0):Option (List Int)).bind (fun (y67:List Int)=>idx c51.1 m_.Start fun e83=>idx y67 e83 fun e84=>(iter (fun (s:List Int×List Int×List (List Int)×List (List Int)×Nat)=>zec.s58 m_ c51 s.1 s.2.1 s.2.2.1 s.2.2.2.1 s.2.2.2.2) fuel ([m_.Start],(List.set y67 e83.toNat 0),[],[],0):Option (List (List Int)×List (List Int))).bind (fun (s:List (List Int)×List (List Int))=>zec.k59 m_ s.1 s.2))))
def zmm (m_:zal):Option (Bool) :=
 (zec m_).bind fun c51=>(cond (decide (c51.2=0)) (some (decide ((↑(List.length c51.1.Next):Int)=(↑(List.length m_.Next):Int)))) (some false):Option (Bool)).bind (fun (y55:Bool)=>some y55)
end
section
section
variable {S R A B α β:Type}
theorem zbq {step:S→Option (S⊕R)} (I:S→Prop) (m:S→Nat) (Q:R→Prop) (h:∀ s,I s→(∃ s',step s=some (.inl s')∧I s'∧m s'<m s)∨∃ r,step s=some (.inr r)∧Q r) :
  ∀ (n:Nat) (s:S),I s→m s<n→∃ r,iter step n s=some r∧Q r
 | 0,_,_,hm=>absurd hm (Nat.not_lt_zero _)
 | n+1,s,hi,hm=>by
  unfold iter;rcases h s hi with ⟨s',e,hi',hm'⟩ | ⟨r,e,hq⟩
  ·rw [e];exact zbq I m Q h n s' hi' (by omega)
  ·rw [e];exact ⟨r,rfl,hq⟩
theorem zdy {step:S→Option (S⊕R)} {r:R} (I:S→Prop) (m:S→Nat) (h:∀ s,I s→(∃ s',step s=some (.inl s')∧I s'∧m s'<m s)∨step s=some (.inr r)) {n:Nat} {s:S} (hi:I s) (hm:m s<n):iter step n s=some r:=by
 obtain ⟨r',e,rfl⟩:=zbq I m (fun r'=>r'=r) (fun s hs=>(h s hs).imp id fun e=>⟨r,e,rfl⟩) n s hi hm;exact e
def walk (g:A→Nat→α→Option (A⊕R)) (fin:A→Option R):A→Nat→List α→Option R
 | a,_,[]=>fin a
 | a,i,x::l=>(g a i x).bind (Sum.elim (fun a'=>walk g fin a' (i+1) l) some)
theorem zaq {l:List α} {i:Nat} {x:α} {k:α→Option β} (h:l[i]?=some x):idxn l i k=k x:=by unfold idxn;rw [h]
theorem zb2 {l:List α} {n:Int} {i:Nat} {x:α} {k:α→Option β} (hn:n=(i:Int)) (h:l[i]?=some x):idx l n k=k x:=by
 subst hn;unfold idx;rw [if_pos (by omega),Int.toNat_natCast,h]
theorem zav {c:Prop} [Decidable c] {k:Option α} (h:c):chk c k=k:=by unfold chk;rw [if_pos h]
theorem zan {a:α} {f:α→Option β}:(some a).bind f=f a:=(Option.bind_some a f).trans (Eq.trans rfl rfl)
theorem za4:100000000000000<fuel:=by unfold fuel;omega
theorem zbw {l:List α} {i:Nat} {x:α} (h:l[i]?=some x):decide ((↑i:Int)<(↑l.length:Int))=true:=by
 have:=(zkI.1 h).1;simpa using this
theorem zcr (l:List α):decide ((↑l.length:Int)<(↑l.length:Int))=false:=by simp
def scan (g:Nat→α→Option R):Nat→List α→Option R
 | _,[]=>none
 | i,x::l=>match g i x with | some r=>some r | none=>scan g (i+1) l
theorem zd5 {g:Nat→α→Option R}:∀ {l:List α} {j:Nat},scan g j l=none↔∀ i x,l[i]?=some x→g (j+i) x=none
 | [],j=>by simp [scan]
 | y::l,j=>by
  constructor
  ·intro h i x hx;unfold scan at h;cases e:g j y with
   | some r=>rw [e] at h;cases h
   | none =>
    rw [e] at h
    match i,hx with
    | 0,hx =>
     simp at hx;subst hx;exact e
    | i+1,hx =>
     have:=(zd5 (g:=g) (l:=l) (j:=j+1)).1 h i x (by simpa using hx)
     rwa [show j+1+i=j+(i+1) by omega] at this
  ·intro h;unfold scan;have h0:=h 0 y rfl;rw [Nat.add_zero] at h0;rw [h0]
   exact (zd5 (g:=g) (l:=l) (j:=j+1)).2 fun i x hx=>by
    have:=h (i+1) x (by simpa using hx)
    rwa [show j+(i+1)=j+1+i by omega] at this
theorem zce {step:Nat→Option (Nat⊕(Unit⊕R))} {l:List α} (g:Nat→α→Option R) (h1:∀ i x,l[i]?=some x→step i=some (match g i x with | some r=>.inr (.inr r) | none=>.inl (i+1))) (h2:step l.length=some (.inr (.inl ()))) (hl:l.length≤100000000000000) :
  iter step fuel 0=some (match scan g 0 l with | some r=>.inr r | none=>.inl ()):=by
 have key:∀ (n i:Nat),i≤l.length→l.length-i<n→iter step n i=some (match scan g i (l.drop i) with | some r=>.inr r | none=>.inl ()):=by
  intro n
  induction n with
  | zero=>intro i _ h;omega
  | succ n ih =>
   intro i hi hn;rcases Nat.lt_or_ge i l.length with h | h
   ·rw [List.drop_eq_getElem_cons h];unfold iter scan;rw [h1 i _ (zkM h)];cases g i l[i] with
    | some r=>rfl
    | none=>exact ih (i+1) h (by omega)
   ·have e:i=l.length:=by omega
    subst e;rw [List.drop_length];unfold iter scan;rw [h2]
 exact key fuel 0 (Nat.zero_le _) (by have:=za4;omega)
def foldi (f:A→Nat→α→A):A→Nat→List α→A
 | a,_,[]=>a
 | a,i,x::l=>foldi f (f a i x) (i+1) l
theorem zwl {step:A×Nat→Option ((A×Nat)⊕R)} {l:List α} (f:A→Nat→α→A) (fin:A→R) (Inv:A→Nat→Prop) (h1:∀ a i x,Inv a i→l[i]?=some x→step (a,i)=some (.inl (f a i x,i+1))∧Inv (f a i x) (i+1))
  (h2:∀ a,Inv a l.length→step (a,l.length)=some (.inr (fin a))) (hl:l.length≤100000000000000) {a0:A} (h0:Inv a0 0):iter step fuel (a0,0)=some (fin (foldi f a0 0 l))∧Inv (foldi f a0 0 l) l.length:=by
 have key:∀ (n i:Nat) (a:A),Inv a i→i≤l.length→l.length-i<n→iter step n (a,i)=some (fin (foldi f a i (l.drop i)))∧Inv (foldi f a i (l.drop i)) l.length:=by
  intro n
  induction n with
  | zero=>intro i _ _ _ h;omega
  | succ n ih =>
   intro i a hv hi hn;rcases Nat.lt_or_ge i l.length with h | h
   ·rw [List.drop_eq_getElem_cons h];unfold iter foldi;obtain ⟨e,hv'⟩:=h1 a i _ hv (zkM h);rw [e];exact ih (i+1) _ hv' h (by omega)
   ·have e:i=l.length:=by omega
    subst e;rw [List.drop_length];unfold iter foldi;rw [h2 a hv];exact ⟨rfl,hv⟩
 exact key fuel 0 a0 h0 (Nat.zero_le _) (by have:=za4;omega)
theorem zua {f:A→α→A}:∀ (l:List α) (a:A) (i:Nat),foldi (fun a _ x=>f a x) a i l=l.foldl f a
 | [],_,_=>rfl
 | x::l,a,i=>by unfold foldi;exact zua l (f a x) (i+1)
end
end
section
open Go.RowKit
set_option maxRecDepth 100000
theorem zkp (x y:Int):cmp_Compare_int x y=some (cmpI x y):=by
 unfold cmp_Compare_int cmp_isNaN_int cmpI;by_cases h1:x<y
 ·simp [h1]
 ·by_cases h2:y<x<;>simp [h1,h2]
theorem zli (s t:List Int) (hs:s.length≤100000000000000):zbh s t=some (lexI s t):=by
 have key:=zbq (step:=fun k=>zbh.s2 s t k) (fun k=>k≤s.length∧k≤t.length∧lexI s t=lexI (s.drop k) (t.drop k)) (fun k=>s.length-k)
  (fun r=>Sum.elim (fun (_:Unit)=>cond (decide ((↑(List.length s):Int)<(↑(List.length t):Int))) (some (-1:Int)) (some 0)) some r=some (lexI s t)) (fun k ⟨h1,h2,h3⟩=>by
   unfold zbh.s2
   rcases Nat.lt_or_ge k s.length with h | h
   ·have hx:=zkM h
    rw [zbw hx,zkD,zaq hx]
    by_cases h4:t.length≤k
    ·right
     refine ⟨.inr 1,by simp [h4],?_⟩
     rw [h3,lexI_long h h4]
     rfl
    ·have hy:=zkM (show k<t.length by omega)
     have hst:=lexI_step hx hy
     have d4:decide ((↑(List.length t):Int)≤(↑k:Int))=false:=by simp;omega
     rw [d4,zkC,zaq hy,zkp]
     by_cases h5:cmpI s[k] t[k]=0
     ·left
      rw [if_pos h5] at hst
      exact ⟨k+1,by simp [h5],⟨by omega,by omega,by rw [h3,hst]⟩,by omega⟩
     ·right
      rw [if_neg h5] at hst
      exact ⟨.inr (cmpI s[k] t[k]),by simp [h5],by rw [h3,hst];rfl⟩
   ·right
    have e:k=s.length:=by omega
    subst e
    rw [zcr,zkC]
    refine ⟨.inl (),rfl,?_⟩
    rw [h3,lexI_end (Nat.le_refl _)]
    by_cases h4:s.length<t.length<;>simp [h4]) fuel 0 ⟨Nat.zero_le _,Nat.zero_le _,rfl⟩ (by have:=za4;simp only [Nat.sub_zero];omega)
 obtain ⟨r,e,hq⟩:=key;unfold zbh;rw [e];exact hq
theorem cmp_Or_two (x y:Int):zea [x,y]=some (if x≠0 then x else y):=by
 unfold zea;have e:fuel=(fuel-3)+1+1+1:=by unfold fuel;omega
 rw [e];by_cases h1:x=0
 ·by_cases h2:y=0
  ·simp [iter,zea.s2,idxn,h1,h2]
  ·simp [iter,zea.s2,idxn,h1,h2]
 ·simp [iter,zea.s2,idxn,h1]
theorem zkg (s t:List Int) (hs:s.length≤100000000000000):zit s t=some (lexI s t):=by
 unfold zit;rw [zli s t hs];rfl
theorem zh1 (s t:List Int) (hs:s.length≤100000000000000):zcw s t=some (cmpW s t):=by
 unfold zcw;rw [zli s t hs,zkp];show (zea [cmpI s.length t.length,lexI s t]).bind some=_;rw [cmp_Or_two];show some _=some _;congr 1;unfold cmpI cmpW;by_cases h1:s.length<t.length
 ·simp [h1]
 ·by_cases h2:t.length<s.length
  ·simp [h1,h2]
  ·simp [h1,h2]
theorem cmpE_word_Lex:CmpE Tryz.prog 126 (fun x=>nL cI x) (fun x y=>zit x y) :=
 ⟨fun args w=>zge rfl rfl rfl args w,cmpG_lex fun x y r hx h=>by rw [zkg x y (by omega)] at h;injection h with h;exact h.symm⟩
theorem zry:CmpE Tryz.prog 101 (fun x=>nL cI x) (fun x y=>zcw x y) :=
 ⟨fun args w=>zge rfl rfl rfl args w,cmpG_compare fun x y r hx h=>by rw [zh1 x y (by omega)] at h;injection h with h;exact h.symm⟩
theorem zrp:CmpE Tryz.prog 157 (fun x=>.agg (zad x)) (fun x y=>zcd x y) :=
 ⟨fun args w=>zge rfl rfl rfl args w,cmpG_find1 (T:=zaa) (i:=fun x=>x.In) (o:=fun x=>x.Out) (f:=fun x y=>zcd x y) (fun _=>rfl) fun x y r hx h=>by
  simp only [zcd] at h
  rw [zkg _ _ (by omega)] at h
  injection h with h
  exact h.symm⟩
end
section
set_option maxRecDepth 100000
section
variable {α β R:Type}
theorem get_at {l:List α} {i:Nat} (h:i<l.length):l[i]?=some l[i]:=zkM h
theorem zra [DecidableEq α] {a b:List α} {step:Nat→Option (Nat⊕(Unit⊕Bool))} (hlen:a.length=b.length) (h1:∀ i x y,a[i]?=some x→b[i]?=some y→step i=some (if x=y then .inl (i+1) else .inr (.inr false)))
  (h2:step a.length=some (.inr (.inl ()))) (hl:a.length≤100000000000000):(iter step fuel 0).bind (Sum.elim (fun _=>some true) some)=some (decide (a=b)):=by
 rw [zce (l:=a) (fun i x=>if b[i]?=some x then none else some false) (fun i x hx=>?_) h2 hl]
 ·cases e:scan (fun i x=>if b[i]?=some x then none else some false) 0 a with
  | none =>
   have:=zd5.1 e
   have hab:a=b:=by
    apply List.ext_getElem?;intro i;rcases Nat.lt_or_ge i a.length with h | h
    ·have h3:=this i _ (get_at h);rw [Nat.zero_add] at h3;split at h3
     ·rename_i h4;rw [get_at h,h4]
     ·cases h3
    ·rw [List.getElem?_eq_none h,List.getElem?_eq_none (by omega)]
   simp [hab]
  | some r =>
   have hne:a≠b:=fun hab=>by
    subst hab;have:scan (fun i x=>if a[i]?=some x then none else some false) 0 a=none:=zd5.2 fun i x hx=>by rw [Nat.zero_add,if_pos hx]
    rw [this] at e;cases e
   have hr:r=false:=by
    have key:∀ (l:List α) (j:Nat),scan (fun i x=>if b[i]?=some x then none else some false) j l=some r→r=false:=by
     intro l
     induction l with
     | nil=>intro j h;cases h
     | cons x l ih =>
      intro j h;unfold scan at h;split at h
      ·rename_i r' h3;injection h with h
       subst h;split at h3
       ·cases h3
       ·injection h3 with h3
        exact h3.symm
      ·exact ih _ h
    exact key a 0 e
   subst hr;simp [hne]
 ·have hi:=(zkI.1 hx).1;have hy:=get_at (l:=b) (i:=i) (by omega);rw [h1 i x _ hx hy];by_cases h:x=b[i]'(by omega)
  ·rw [if_pos h,hy,if_pos (by rw [h])]
  ·rw [if_neg h,hy,if_neg (fun h3=>h (by injection h3 with h3;exact h3.symm))]
end
theorem zp3 (a b:List Int) (hl:a.length≤100000000000000):zf2 a b=some (decide (a=b)):=by
 unfold zf2;by_cases hlen:a.length=b.length
 ·rw [show decide ((↑(List.length a):Int)≠(↑(List.length b):Int))=false by simp [hlen],zkC];refine zra hlen (fun i x y hx hy=>?_) ?_ hl
  ·simp only [zf2.s2];rw [zbw hx,zkD,zaq hx,zaq hy];by_cases h:x=y<;>simp [h]
  ·simp only [zf2.s2];rw [zcr];rfl
 ·rw [show decide ((↑(List.length a):Int)≠(↑(List.length b):Int))=true by simp;omega,zkD];have:a≠b:=fun h=>hlen (by rw [h]);simp [this]
theorem ztj (a b:List (List Int)) (hl:a.length≤100000000000000) (hw:∀ x∈a,x.length≤100000000000000):zfa a b=some (decide (a=b)):=by
 unfold zfa;by_cases hlen:a.length=b.length
 ·rw [show decide ((↑(List.length a):Int)≠(↑(List.length b):Int))=false by simp [hlen],zkC];refine zra hlen (fun i x y hx hy=>?_) ?_ hl
  ·simp only [zfa.s2];rw [zbw hx,zkD,zaq hx,zaq hy,zp3 x y (hw x (zkH hx))];by_cases h:x=y<;>simp [h]
  ·simp only [zfa.s2];rw [zcr];rfl
 ·rw [show decide ((↑(List.length a):Int)≠(↑(List.length b):Int))=true by simp;omega,zkD];have:a≠b:=fun h=>hlen (by rw [h]);simp [this]
def SmW (x:List Int):Prop:=x.length≤2000000
def SmL (l:List (List Int)):Prop:=l.length≤2000000∧∀ x∈l,SmW x
theorem R01_Size_eq (n:Int):zrc n=some (decide (1≤n∧n≤1024)):=by
 unfold zrc;by_cases h1:1≤n<;>by_cases h2:n≤1024<;>simp [h1,h2]
theorem zsl (n:Int):zhc n=some (decide (1≤n∧n≤1024)):=by
 unfold zhc;by_cases h1:1≤n<;>by_cases h2:n≤1024<;>simp [h1,h2]
theorem zh8 {α R:Type} {p:α→Bool} {r:R}:∀ (l:List α) (j:Nat),scan (fun _ x=>if p x=true then none else some r) j l=if l.all p=true then none else some r
 | [],_=>rfl
 | x::l,j=>by
  unfold scan;by_cases h:p x=true
  ·simp only [h,if_true,List.all_cons,Bool.true_and];exact zh8 l (j+1)
  ·simp [h]
theorem zfh (w:List Int) (n:Int) (hl:SmW w):zdr w n=some (zbn w n):=by
 unfold zdr zbn;rw [R01_Size_eq];by_cases h1:1≤n∧n≤1024
 ·rw [if_pos h1];simp only [Option.bind_some,h1,and_self,decide_true,Bool.not_true,zkC];by_cases h2:1024<w.length
  ·rw [if_pos h2,show decide ((1024:Int)<(↑(List.length w):Int))=true from zkB (by omega),zkD]
  ·rw [if_neg h2,show decide ((1024:Int)<(↑(List.length w):Int))=false from zkA (by omega),zkC]
   have key:=zce (step:=fun s=>zdr.s2 w n s) (l:=w) (fun _ x=>if decide (0≤x∧x<n)=true then none else some (1:Int)) (fun i x hx=>by
    simp only [zdr.s2]
    rw [zbw hx,zkD,zaq hx,zaq hx]
    by_cases a1:x<0
    ·simp [a1,show ¬ (0≤x) by omega]
    ·by_cases a2:n≤x
     ·simp [a1,a2,show ¬ (x<n) by omega]
     ·simp [a1,a2,show 0≤x by omega,show x<n by omega]) (by
    simp only [zdr.s2]
    rw [zcr]
    rfl) (by unfold SmW at hl;omega)
   rw [key,zh8 (p:=fun x=>decide (0≤x∧x<n))];by_cases h:(w.all fun x=>decide (0≤x∧x<n))=true
   ·rw [if_pos h,if_pos h];rfl
   ·rw [if_neg h,if_neg h];rfl
 ·rw [if_neg h1];simp [h1]
theorem zid (w:List Int) (n:Int) (hl:SmW w):zhn w n=some (zbn w n):=by
 unfold zhn zbn zc1 za6;rw [zsl];by_cases h1:1≤n∧n≤1024
 ·rw [if_pos h1];simp only [Option.bind_some,h1,and_self,decide_true,Bool.not_true,zkC];by_cases h2:1024<w.length
  ·rw [if_pos h2,show decide ((1024:Int)<(↑(List.length w):Int))=true from zkB (by omega),zkD]
  ·rw [if_neg h2,show decide ((1024:Int)<(↑(List.length w):Int))=false from zkA (by omega),zkC]
   have key:=zce (step:=fun s=>za6.s2 w (fun u0=>zho u0 n) s) (l:=w) (fun i x=>if decide (0≤x∧x<n)=true then none else some (i:Int)) (fun i x hx=>by
    simp only [za6.s2,zho]
    rw [zbw hx,zkD,zaq hx]
    by_cases a1:x<0
    ·simp [a1,show ¬ (0≤x) by omega]
    ·by_cases a2:n≤x
     ·simp [a1,a2,show ¬ (x<n) by omega]
     ·simp [a1,a2,show 0≤x by omega,show x<n by omega]) (by
    simp only [za6.s2]
    rw [zcr]
    rfl) (by unfold SmW at hl;omega)
   rw [key];cases e:scan (fun i x=>if decide (0≤x∧x<n)=true then none else some (i:Int)) 0 w with
   | none =>
    have h3:=zd5.1 e
    have h:(w.all fun x=>decide (0≤x∧x<n))=true:=List.all_eq_true.2 fun x hx=>by
     obtain ⟨i,hi,rfl⟩:=List.mem_iff_getElem.1 hx;have:=h3 i _ (get_at hi);split at this
     ·assumption
     ·cases this
    rw [if_pos h];simp
   | some r =>
    have h:¬ (w.all fun x=>decide (0≤x∧x<n))=true:=fun h=>by
     have:scan (fun i x=>if decide (0≤x∧x<n)=true then none else some (i:Int)) 0 w=none:=zd5.2 fun i x hx=>if_pos (List.all_eq_true.1 h x (zkH hx));rw [this] at e;cases e
    have hr:0≤r:=by
     have key:∀ (l:List Int) (j:Nat),scan (fun i x=>if decide (0≤x∧x<n)=true then none else some (i:Int)) j l=some r→0≤r:=by
      intro l
      induction l with
      | nil=>intro j h;cases h
      | cons x l ih =>
       intro j h;unfold scan at h;split at h
       ·rename_i r' h3;injection h with h
        subst h;split at h3
        ·cases h3
        ·injection h3 with h3
         omega
       ·exact ih _ h
     exact key w 0 e
    rw [if_neg h];simp [hr]
 ·rw [if_neg h1];simp [h1]
theorem zhz (a b:List Int) (ha:SmW a):zd7 a b=some (za9 a b:Int):=by
 unfold zd7;rw [zdy (r:=za9 a b) (fun k=>k≤a.length∧za9 a b=za9 (a.drop k) (b.drop k)+k) (fun k=>a.length-k) (fun k ⟨h1,h2⟩=>?_) ⟨Nat.zero_le _,by simp⟩ (by have:=za4;unfold SmW at ha;omega)]
 ·rfl
 ·simp only [zd7.s2];rcases Nat.lt_or_ge k a.length with h | h
  ·have hx:=get_at h;rcases Nat.lt_or_ge k b.length with h' | h'
   ·have hy:=get_at h';rw [zbw hx,zbw hy,zkD,zkD,zaq hx,zaq hy];rw [List.drop_eq_getElem_cons h,List.drop_eq_getElem_cons h'] at h2;by_cases e:a[k]=b[k]
    ·left;unfold SmW at ha;refine ⟨k+1,?_,⟨h,?_⟩,by omega⟩
     ·rw [zav (by unfold inR;omega)];simp [e]
     ·rw [h2,e];simp [za9];omega
    ·right;simp only [za9,e,if_false,Nat.zero_add] at h2;simp [e,h2]
   ·right;rw [zbw hx,zkD,show decide ((↑k:Int)<(↑(List.length b):Int))=false by simp;omega];rw [zsb (Or.inr h'),Nat.zero_add] at h2;simp [h2]
  ·right;rw [show decide ((↑k:Int)<(↑(List.length a):Int))=false by simp;omega];rw [zsb (Or.inl h),Nat.zero_add] at h2;simp [h2]
theorem zps (a b:List Int) (ha:SmW a):zk1 a b=some (decide (a=b)):=by
 unfold zk1;rw [zhz a b ha];have h:=same_iff a b;by_cases h1:a.length=b.length
 ·rw [show decide ((↑(List.length a):Int)=(↑(List.length b):Int))=true from zkB (by omega),zkD];by_cases h2:za9 a b=a.length
  ·have:a=b:=h.1 ⟨h1,h2⟩;subst this;simp [zph]
  ·have:a≠b:=fun e=>h2 (h.2 e).2;simp only [Option.bind_some,this,decide_false];rw [zkA (by omega)]
 ·have:a≠b:=fun e=>h1 (by rw [e]);rw [show decide ((↑(List.length a):Int)=(↑(List.length b):Int))=false from zkA (by omega),zkC];simp [this]
theorem R01_Lex_eq (a b:List Int) (ha:SmW a):zwp a b=some (lexI a b):=by
 unfold zwp;rw [zhz a b ha];have hle:=zoc a b;have hlc:=zve a b;rw [hlc];simp only [Option.bind_some];by_cases h1:za9 a b=a.length
 ·rw [show decide ((↑(za9 a b):Int)=↑a.length)=true from zkB (by omega),zkD,zkD];by_cases h2:za9 a b=b.length
  ·rw [show decide ((↑(za9 a b):Int)=↑b.length)=true from zkB (by omega),if_pos ⟨h1,h2⟩];rfl
  ·rw [show decide ((↑(za9 a b):Int)=↑b.length)=false from zkA (by omega),if_neg (fun h=>h2 h.2),if_pos (Or.inl h1)];rfl
 ·rw [show decide ((↑(za9 a b):Int)=↑a.length)=false from zkA (by omega),zkC,zkC,if_neg (fun h=>h1 h.1)];by_cases h2:za9 a b=b.length
  ·rw [show decide ((↑(za9 a b):Int)<(↑(List.length b):Int))=false from zkA (by omega),if_neg (fun h=>by omega)];rfl
  ·have hx:=get_at (l:=a) (i:=za9 a b) (by omega);have hy:=get_at (l:=b) (i:=za9 a b) (by omega);rw [show decide ((↑(za9 a b):Int)<(↑(List.length b):Int))=true from zkB (by omega),zkD,zb2 rfl hx,zb2 rfl hy];rw [List.getD_eq_getElem?_getD,List.getD_eq_getElem?_getD,hx,hy];by_cases h3:a[za9 a b]'(by omega)<b[za9 a b]'(by omega)
   ·rw [if_pos (Or.inr ⟨by omega,h3⟩)];simp [h3]
   ·rw [if_neg (fun h=>by
     rcases h with h | ⟨_,h⟩
     ·omega
     ·exact h3 h)]
    simp [h3]
theorem zg2 (a b:List Int) (ha:SmW a):zdx a b=some (cmpW a b):=by
 unfold zdx cmpW;rw [R01_Lex_eq a b ha];by_cases h1:a.length<b.length
 ·rw [show decide ((↑(List.length a):Int)<(↑(List.length b):Int))=true from zkB (by omega),if_pos h1];rfl
 ·rw [show decide ((↑(List.length a):Int)<(↑(List.length b):Int))=false from zkA (by omega),if_neg h1,zkC];by_cases h2:b.length<a.length
  ·rw [show decide ((↑(List.length b):Int)<(↑(List.length a):Int))=true from zkB (by omega),if_pos h2];rfl
  ·rw [show decide ((↑(List.length b):Int)<(↑(List.length a):Int))=false from zkA (by omega),if_neg h2];rfl
theorem zr8 (l:List (List Int)) (w:List Int) (hl:SmL l):zhg l w=some (decide (w∈l)):=by
 unfold zhg
 have key:=zce (step:=fun s=>zhg.s2 l w s) (l:=l) (fun _ x=>if decide (x≠w)=true then none else some true) (fun i x hx=>by
  simp only [zhg.s2]
  rw [zbw hx,zkD,zaq hx,zps x w (hl.2 x (zkH hx))]
  by_cases h:x=w<;>simp [h]) (by
  simp only [zhg.s2]
  rw [zcr]
  rfl) (by have:=hl.1;omega)
 rw [key,zh8 (p:=fun x=>decide (x≠w))];by_cases h:w∈l
 ·have:¬ (l.all fun x=>decide (x≠w))=true:=fun h2=>by
   have:=List.all_eq_true.1 h2 w h;simp at this
  rw [if_neg this];simp [h]
 ·have:(l.all fun x=>decide (x≠w))=true:=List.all_eq_true.2 fun x hx=>by
   have:x≠w:=fun e=>h (e ▸ hx);simpa using this
  rw [if_pos this];simp [h]
end
section
set_option maxRecDepth 100000
section
variable {κ ν:Type} [BEq κ]
theorem zk4 {k:κ} {v:ν} (hb:∀ a b:κ,(a==b)=true↔a=b):∀ m:List (κ×ν),mget k (mset k v m)=some v
 | []=>by
  unfold mset mget;rw [(hb k k).2 rfl]
 | p::m=>by
  unfold mset;cases h:k==p.1 with
  | true =>
   show mget k ((k,v)::m)=_;unfold mget;rw [(hb k k).2 rfl]
  | false =>
   show mget k (p::mset k v m)=_;unfold mget;rw [h];exact zk4 hb m
theorem znw {k k':κ} {v:ν} (hb:∀ a b:κ,(a==b)=true↔a=b) (hne:¬ k'=k):∀ m:List (κ×ν),mget k' (mset k v m)=mget k' m
 | []=>by
  have e:(k'==k)=false:=by
   cases e:k'==k with
   | true=>exact absurd ((hb _ _).1 e) hne
   | false=>rfl
  unfold mset mget;simp only [e];rfl
 | p::m=>by
  unfold mset;cases h:k==p.1 with
  | true =>
   have e1:k=p.1:=(hb _ _).1 h;show mget k' ((k,v)::m)=mget k' (p::m)
   have e:(k'==k)=false:=by
    cases e:k'==k with
    | true=>exact absurd ((hb _ _).1 e) hne
    | false=>rfl
   unfold mget;rw [← e1];simp only [e]
  | false =>
   show mget k' (p::mset k v m)=mget k' (p::m);unfold mget;rw [znw hb hne m]
end
theorem ba_beq (a b:ByteArray):(a==b)=true↔a=b:=by
 cases a;cases b;show ByteArray.beq _ _=true↔_;unfold ByteArray.beq;simp
def zfx (l:List (List Int)) (i:Nat) (w:List Int):Bool:=match i with
 | 0=>true
 | i+1=>match l[i]? with | some p=>decide (cmpW p w<0) | none=>true
theorem zui {l:List (List Int)} (h:∀ i w,l[i]?=some w→zfx l i w=true):Asc l:=by
 have one:∀ i p w,l[i]?=some p→l[i+1]?=some w→cmpW p w=-1:=fun i p w hp hw=>by
  have h1:=h (i+1) w hw;unfold zfx at h1;simp only [hp] at h1;have h1:=of_decide_eq_true h1;have:=zhm p w;omega
 have key:∀ (d i:Nat) p w,l[i]?=some p→l[i+d+1]?=some w→cmpW p w=-1:=by
  intro d
  induction d with
  | zero=>exact one
  | succ d ih =>
   intro i p w hp hw;have hj:=(zkI.1 hw).1;have hm:=get_at (l:=l) (i:=i+d+1) (by omega);exact zgl _ _ _ (ih i p _ hp hm) (one _ _ _ hm (by rw [show i+d+1+1=i+(d+1)+1 by omega];exact hw))
 rw [Asc,List.pairwise_iff_getElem];intro i j hi hj hij;exact key (j-i-1) i _ _ (get_at hi) (by rw [show i+(j-i-1)+1=j by omega];exact get_at hj)
theorem zm4 (l:List (List Int)) (hl:SmL l) {i:Nat} {w:List Int} (h:l[i]?=some w):zfn l (↑i:Int)=some (zfx l i w):=by
 have hi:=(zkI.1 h).1;have hl1:l.length≤2000000:=hl.1;unfold zfn zfx;cases i with
 | zero=>rfl
 | succ i =>
  have hp:=get_at (show i<l.length by omega)
  rw [show decide ((↑(i+1):Int)=0)=false from zkA (by omega),zkC,zav (by unfold inR;omega),zb2 (i:=i) (by omega) hp,zb2 rfl h,
   zh1 _ _ (by have:SmW (l[i]'(by omega)):=hl.2 _ (zkH hp);unfold SmW at this;omega)]
  simp only [hp];rfl
def preG (t:zac) (known:List Int→Bool) (i:Nat) (w:List Int):Option Int :=
 if zbn w t.Inputs≠0 then some (zbn w t.Inputs) else if (i=0∧0<w.length)∨zfx t.Prefixes i w=false then some 10 else if 0<w.length∧known (w.take (w.length-1))=false then some 1 else none
def sufG (t:zac) (i:Nat) (w:List Int):Option Int :=
 if zbn w t.Inputs≠0 then some (zbn w t.Inputs) else if w.length=0 then some 19 else if zfx t.Suffixes i w=false then some 10 else none
def zdn (t:zac):Int :=
 if t.Inputs<1∨64<t.Inputs then 2 else if t.Prefixes.length=0 then 19 else if 10000<t.Prefixes.length∨10000<t.Suffixes.length∨160000<(↑t.Prefixes.length:Int)*(t.Inputs+1)*↑t.Suffixes.length then 11 else
 match scan (preG t fun w=>decide (w∈t.Prefixes)) 0 t.Prefixes with
 | some e=>e
 | none=>match scan (sufG t) 0 t.Suffixes with
  | some e=>e
  | none=>if ∀ a∈List.range t.Inputs.toNat,[(↑a:Int)]∈t.Suffixes then (if 1023<zgj t.Prefixes+zgj t.Suffixes then 3 else 0) else 1
theorem keys_mget (l:List (List Int)) (w:List Int):∀ (m:List (ByteArray×Bool)),((mget (⟨(keyL w).toArray⟩:ByteArray) (l.foldl (fun m x=>mset ⟨(keyL x).toArray⟩ true m) m)).getD false)=(decide (w∈l)||(mget (⟨(keyL w).toArray⟩:ByteArray) m).getD false):=by
 induction l with
 | nil=>intro m;simp
 | cons x l ih =>
  intro m;rw [List.foldl_cons,ih];by_cases h:w=x
  ·subst h;rw [zk4 ba_beq];simp
  ·have:¬ ((⟨(keyL w).toArray⟩:ByteArray)=⟨(keyL x).toArray⟩):=fun e=>h (keyL_inj (by
    injection e with e
    injection e))
   rw [znw ba_beq this];simp [h]
theorem zs5 (l:List (List Int)):∀ n:Nat,l.foldl (fun (n:Int) w=>max n (↑w.length:Int)) (↑n:Int)=↑(l.foldl (fun n w=>max n w.length) n):=by
 induction l with
 | nil=>intro n;rfl
 | cons x l ih =>
  intro n;rw [List.foldl_cons,List.foldl_cons,show max (↑n:Int) (↑x.length:Int)=((max n x.length:Nat):Int) by omega,ih]
theorem zm5 (l:List (List Int)) (hl:SmL l):zcu l=some (↑(zgj l):Int):=by
 unfold zcu
 have h:=zwl (step:=fun (s:Int×Nat)=>zcu.s2 l s.1 s.2) (l:=l) (fun a _ x=>max a (↑x.length:Int)) (fun a=>a) (fun _ _=>True) (fun a i x _ hx=>by
  refine ⟨?_,trivial⟩
  simp only [zcu.s2]
  rw [zbw hx,zkD,zaq hx]) (fun a _=>by
  simp only [zcu.s2]
  rw [zcr]
  rfl) (by have:=hl.1;omega) (a0:=0) trivial
 rw [h.1,zua];have:=zs5 l 0;simp only [Int.natCast_zero] at this;show some _=some _;rw [this];rfl
theorem zpb (l:List (List Int)) (hl:SmL l):zdo l=some (↑(zgj l):Int):=by
 unfold zdo
 have h:=zwl (step:=fun (s:Int×Nat)=>zdo.s2 l s.1 s.2) (l:=l) (fun a _ x=>max a (↑x.length:Int)) (fun a=>a) (fun _ _=>True) (fun a i x _ hx=>by
  refine ⟨?_,trivial⟩
  simp only [zdo.s2]
  rw [zbw hx,zkD,zaq hx]) (fun a _=>by
  simp only [zdo.s2]
  rw [zcr]
  rfl) (by have:=hl.1;omega) (a0:=0) trivial
 rw [h.1,zua];have:=zs5 l 0;simp only [Int.natCast_zero] at this;show some _=some _;rw [this];rfl
theorem zms {l:List (List Int)} (hl:SmL l):zgj l≤2000000:=(zp2 l _).2 fun x hx=>hl.2 x hx
def SmT (t:zac):Prop:=inR t.Inputs∧SmL t.Prefixes∧SmL t.Suffixes∧∀ x∈t.Prefixes,∀ a∈x,inR a
theorem zoe {w:List Int} (h:SmW w) (h2:∀ a∈w,inR a):zlr w=some ⟨(keyL w).toArray⟩:=by
 unfold zlr;rw [zav h2,zav (show w.length≤2000000 from h)]
theorem prod_fit {p s:Nat} {n:Int} (hp:¬ 10000<p) (hs:¬ 10000<s) (hn1:¬ n<1) (hn2:¬ 64<n):inR (n+1)∧inR ((↑p:Int)*(n+1))∧inR ((↑p:Int)*(n+1)*↑s):=by
 have h1:0≤(↑p:Int)*(n+1):=Int.mul_nonneg (by omega) (by omega);have h2:(↑p:Int)*(n+1)≤10000*65:=Int.mul_le_mul (by omega) (by omega) (by omega) (by omega);have h3:0≤(↑p:Int)*(n+1)*↑s:=Int.mul_nonneg h1 (by omega);have h4:(↑p:Int)*(n+1)*↑s≤10000*65*10000:=Int.mul_le_mul h2 (by omega) (by omega) (by omega);unfold inR;omega
theorem zu9 (t:zac) (ht:SmT t):zdj t=some (match scan (preG t fun w=>decide (w∈t.Prefixes)) 0 t.Prefixes with | some e=>e | none=>0):=by
 obtain ⟨_,hp,_,_⟩:=ht;have hp1:t.Prefixes.length≤2000000:=hp.1;unfold zdj
 have key:=zce (step:=fun s=>zdj.s2 t s) (l:=t.Prefixes) (preG t fun w=>decide (w∈t.Prefixes)) (fun i w hw=>by
  have hwm:=zkH hw
  have hws:SmW w:=hp.2 w hwm
  have hwl:w.length≤2000000:=hws
  simp only [zdj.s2]
  rw [zbw hw,zkD,zaq hw,zfh w _ hws]
  simp only [Option.bind_some,preG]
  by_cases h1:zbn w t.Inputs=0
  ·rw [show decide (zbn w t.Inputs≠0)=false from zkA (by simpa using h1),zkC,if_neg (by simpa using h1)]
   have hc:(cond (decide ((↑i:Int)=0)) (cond (decide (0<(↑(List.length w):Int))) (some true) (cond (decide (0<(↑i:Int))) (idx t.Prefixes ((↑i:Int)-1) fun e249=>(zdx e249 w).bind fun c250=>some (decide (0≤c250))) (some false))) (cond (decide (0<(↑i:Int))) (idx t.Prefixes ((↑i:Int)-1) fun e252=>(zdx e252 w).bind fun c253=>some (decide (0≤c253))) (some false)):Option Bool)=some (decide ((i=0∧0<w.length)∨zfx t.Prefixes i w=false)):=by
    cases i with
    | zero =>
     by_cases h2:0<w.length
     ·simp [h2]
     ·simp [h2,zfx]
    | succ i =>
     have hi:=(zkI.1 hw).1
     have hpv:=get_at (show i<t.Prefixes.length by omega)
     rw [show decide ((↑(i+1):Int)=0)=false from zkA (by omega),zkC,show decide (0<(↑(i+1):Int))=true from zkB (by omega),zkD,zb2 (i:=i) (by omega) hpv,
      zg2 _ _ (hp.2 _ (zkH hpv))]
     simp only [zfx,hpv,Option.bind_some]
     congr 1
     by_cases h2:cmpW (t.Prefixes[i]'(by omega)) w<0
     ·rw [zkB h2,zkA (by omega)]
      simp
     ·rw [zkA h2,zkB (by omega)]
      simp
   rw [hc]
   simp only [Option.bind_some]
   by_cases h2:(i=0∧0<w.length)∨zfx t.Prefixes i w=false
   ·rw [zkB h2,zkD,if_pos h2]
   ·rw [zkA h2,zkC,if_neg h2]
    by_cases h3:0<w.length
    ·rw [show decide (0<(↑(List.length w):Int))=true from zkB (by omega),zkD,zav (by omega),zr8 _ _ hp,show Int.toNat ((↑(List.length w):Int)-1)=w.length-1 by omega]
     by_cases h4:w.take (w.length-1)∈t.Prefixes<;>simp [h3,h4]
    ·rw [show decide (0<(↑(List.length w):Int))=false from zkA (by omega),zkC]
     simp [h3]
  ·rw [show decide (zbn w t.Inputs≠0)=true from zkB h1,zkD,if_pos h1]) (by
  simp only [zdj.s2]
  rw [zcr]
  rfl) (by omega)
 rw [key];cases scan (preG t fun w=>decide (w∈t.Prefixes)) 0 t.Prefixes<;>rfl
theorem zwq (t:zac) (ht:SmT t) (hn:1≤t.Inputs∧t.Inputs≤64):zbz t=some (match scan (sufG t) 0 t.Suffixes with | some e=>e | none=>if ∀ a∈List.range t.Inputs.toNat,[(↑a:Int)]∈t.Suffixes then 0 else 1):=by
 obtain ⟨_,_,hp,_⟩:=ht;have hp1:t.Suffixes.length≤2000000:=hp.1;unfold zbz
 have key:=zce (step:=fun s=>zbz.s2 t s) (l:=t.Suffixes) (sufG t) (fun i w hw=>by
  have hwm:=zkH hw
  have hws:SmW w:=hp.2 w hwm
  simp only [zbz.s2]
  rw [zbw hw,zkD,zaq hw,zfh w _ hws]
  simp only [Option.bind_some,sufG]
  by_cases h1:zbn w t.Inputs=0
  ·rw [show decide (zbn w t.Inputs≠0)=false from zkA (by simpa using h1),zkC,if_neg (by simpa using h1)]
   by_cases h2:w.length=0
   ·rw [show decide ((↑(List.length w):Int)=0)=true from zkB (by omega),zkD,if_pos h2]
   ·rw [show decide ((↑(List.length w):Int)=0)=false from zkA (by omega),zkC,if_neg h2]
    cases i with
    | zero=>simp [zfx]
    | succ i =>
     have hi:=(zkI.1 hw).1
     have hpv:=get_at (show i<t.Suffixes.length by omega)
     rw [show decide (0<(↑(i+1):Int))=true from zkB (by omega),zkD,zb2 (i:=i) (by omega) hpv,zg2 _ _ (hp.2 _ (zkH hpv))]
     simp only [zfx,hpv,Option.bind_some]
     by_cases h3:cmpW (t.Suffixes[i]'(by omega)) w<0
     ·rw [zkA (show ¬ 0≤cmpW (t.Suffixes[i]'(by omega)) w by omega),zkB h3]
      rfl
     ·rw [zkB (show 0≤cmpW (t.Suffixes[i]'(by omega)) w by omega),zkA h3]
      rfl
  ·rw [show decide (zbn w t.Inputs≠0)=true from zkB h1,zkD,if_pos h1]) (by
  simp only [zbz.s2]
  rw [zcr]
  rfl) (by omega)
 rw [key];cases scan (sufG t) 0 t.Suffixes with
 | some e=>rfl
 | none =>
  show (iter (fun (s:Nat)=>zbz.s4 t s) fuel 0:Option (Unit⊕Int)).bind (Sum.elim (fun (_:Unit)=>some 0) some)=_
  have key2:=zce (step:=fun s=>zbz.s4 t s) (l:=List.range t.Inputs.toNat) (fun _ (a:Nat)=>if decide ([(↑a:Int)]∈t.Suffixes)=true then none else some (1:Int)) (fun i a ha=>by
   have hi:i<t.Inputs.toNat:=by
    have:=(zkI.1 ha).1
    simpa using this
   rw [List.getElem?_range hi] at ha
   injection ha with ha
   subst ha
   simp only [zbz.s4]
   rw [show decide ((↑i:Int)<t.Inputs)=true from zkB (by omega),zkD,zr8 _ _ hp,zav (by unfold inR;omega)]
   by_cases h:[(↑i:Int)]∈t.Suffixes<;>simp [h]) (by
   simp only [zbz.s4]
   rw [List.length_range,show decide ((↑t.Inputs.toNat:Int)<t.Inputs)=false from zkA (by omega)]
   rfl) (by simp;omega)
  rw [key2,zh8 (p:=fun (a:Nat)=>decide ([(↑a:Int)]∈t.Suffixes))];by_cases h:∀ a∈List.range t.Inputs.toNat,[(↑a:Int)]∈t.Suffixes
  ·rw [if_pos h,if_pos (List.all_eq_true.2 fun a ha=>zkB (h a ha))];rfl
  ·rw [if_neg h,if_neg (fun h2=>h fun a ha=>of_decide_eq_true (List.all_eq_true.1 h2 a ha))];rfl
theorem zht (t:zac) (ht:SmT t):zg1 t=some (zdn t):=by
 unfold zg1 zdn;by_cases h1:t.Inputs<1
 ·simp [h1]
 by_cases h2:64<t.Inputs
 ·simp [h1,h2]
 rw [if_neg (by omega),zkA h1,zkC,zkA h2];simp only [Option.bind_some,zkC];by_cases h3:t.Prefixes.length=0
 ·rw [show decide ((↑(List.length t.Prefixes):Int)=0)=true from zkB (by omega),zkD,if_pos h3]
 rw [show decide ((↑(List.length t.Prefixes):Int)=0)=false from zkA (by omega),zkC,if_neg h3];by_cases h4:10000<t.Prefixes.length
 ·rw [show decide (10000<(↑(List.length t.Prefixes):Int))=true from zkB (by omega),if_pos (Or.inl h4)];rfl
 rw [show decide (10000<(↑(List.length t.Prefixes):Int))=false from zkA (by omega),zkC];by_cases h5:10000<t.Suffixes.length
 ·rw [show decide (10000<(↑(List.length t.Suffixes):Int))=true from zkB (by omega),if_pos (Or.inr (Or.inl h5))];rfl
 rw [show decide (10000<(↑(List.length t.Suffixes):Int))=false from zkA (by omega)];obtain ⟨f1,f2,f3⟩:=prod_fit h4 h5 h1 h2;simp only [Option.bind_some,zkC];rw [zav f1,zav f2,zav f3];by_cases h6:160000<(↑t.Prefixes.length:Int)*(t.Inputs+1)*↑t.Suffixes.length
 ·rw [zkB h6,zkD,if_pos (Or.inr (Or.inr h6))]
 rw [zkA h6,zkC,if_neg (fun h=>by rcases h with h | h | h<;>contradiction),zu9 t ht,zwq t ht (by omega)]
 have hcheck:∀ {w:List Int},zbn w t.Inputs≠0→zbn w t.Inputs≠0:=fun h=>h;cases e1:scan (preG t fun w=>decide (w∈t.Prefixes)) 0 t.Prefixes with
 | some e =>
  have hne:e≠0:=by
   have key:∀ (l:List (List Int)) (j:Nat),scan (preG t fun w=>decide (w∈t.Prefixes)) j l=some e→e≠0:=by
    intro l
    induction l with
    | nil=>intro j h;cases h
    | cons x l ih =>
     intro j h;unfold scan at h;split at h
     ·rename_i r' h3;injection h with h
      subst h;unfold preG at h3
      repeat' split at h3
      all_goals first | (injection h3 with h3;subst h3;first | assumption | decide) | cases h3
     ·exact ih _ h
   exact key _ 0 e1
  simp [hne]
 | none =>
  simp only [Option.bind_some];rw [show decide ((0:Int)≠0)=false from rfl,zkC];cases e2:scan (sufG t) 0 t.Suffixes with
  | some e =>
   have hne:e≠0:=by
    have key:∀ (l:List (List Int)) (j:Nat),scan (sufG t) j l=some e→e≠0:=by
     intro l
     induction l with
     | nil=>intro j h;cases h
     | cons x l ih =>
      intro j h;unfold scan at h;split at h
      ·rename_i r' h3;injection h with h
       subst h;unfold sufG at h3
       repeat' split at h3
       all_goals first | (injection h3 with h3;subst h3;first | assumption | decide) | cases h3
      ·exact ih _ h
    exact key _ 0 e2
   simp [hne]
  | none =>
   have l1:=zms ht.2.1;have l2:=zms ht.2.2.1;by_cases h7:∀ a∈List.range t.Inputs.toNat,[(↑a:Int)]∈t.Suffixes
   ·rw [if_pos h7,if_pos h7];simp only [Option.bind_some];rw [show decide ((0:Int)≠0)=false from rfl,zkC,zpb _ ht.2.1,zpb _ ht.2.2.1];simp only [Option.bind_some];rw [zav (by unfold inR;omega)];by_cases h8:1023<zgj t.Prefixes+zgj t.Suffixes
    ·rw [if_pos h8,zkB (by omega)];rfl
    ·rw [if_neg h8,zkA (by omega)];rfl
   ·rw [if_neg h7,if_neg h7];rfl
end
section
set_option maxRecDepth 100000
end
section
set_option maxRecDepth 100000
theorem zox {x y:Int}:cmpW [x] [y]=-1↔x<y:=by
 simp only [cmpW,lexI,zkL,List.length_nil];by_cases h:x<y
 ·simp [h]
 ·by_cases h2:y<x<;>simp [h,h2]
theorem zu1 {x y:List Int} (h:cmpW x y=-1):x.length≤y.length:=by
 unfold cmpW at h;split at h
 ·omega
 ·split at h
  ·cases h
  ·omega
theorem zdh {w:List Int} {n:Int} (h:zbn w n=0):∀ a∈w,0≤a∧a<n:=by
 unfold zbn at h;split at h
 ·split at h
  ·cases h
  ·split at h
   ·rename_i h3;intro a ha;exact of_decide_eq_true (List.all_eq_true.1 h3 a ha)
   ·cases h
 ·cases h
theorem one_of {w:List Int} (h0:w.length≠0) (h1:w.length≤1):∃ a,w=[a]:=by
 match w,h0,h1 with
 | [a],_,_=>exact ⟨a,rfl⟩
theorem singles_iff {l:List (List Int)} {n:Int} (hA:Asc l) (hc:∀ w∈l,zbn w n=0∧w.length≠0) (hn:1≤n):(∀ a∈List.range n.toNat,[(↑a:Int)]∈l)↔∃ w,l[n.toNat-1]?=some w∧w.length≤1:=by
 constructor
 ·intro h
  have key:∀ a,a<n.toNat→l[a]?=some [(↑a:Int)]:=by
   intro a
   induction a using Nat.strongRecOn with
   | _ a ih =>
    intro ha;obtain ⟨j,hj,e⟩:=List.mem_iff_getElem.1 (h a (List.mem_range.2 ha));have ej:l[j]?=some [(↑a:Int)]:=by rw [get_at hj,e]
    rcases Nat.lt_trichotomy j a with hlt | heq | hgt
    ·have:=ih j hlt (by omega);rw [ej] at this;injection this with this
     injection this with this
     omega
    ·rw [← heq,ej];rw [heq]
    ·have hx:=get_at (l:=l) (i:=a) (by omega);have hcmp:=hA.get hgt hx ej;have hxm:=zkH hx;obtain ⟨b,hb⟩:=one_of (hc _ hxm).2 (zu1 hcmp);rw [hb] at hcmp hx;have hlt:=zox.1 hcmp;have hr:=zdh (hc _ hxm).1 b (by rw [hb];simp);have hbb:=ih b.toNat (by omega) (by omega);rw [show ((b.toNat:Nat):Int)=b by omega] at hbb;have:=hA.get (show b.toNat<a by omega) hbb hx;rw [zga] at this;cases this
  exact ⟨_,key (n.toNat-1) (by omega),by simp⟩
 ·rintro ⟨w,hw,hw1⟩
  have one:∀ i,i<n.toNat→∃ b:Int,l[i]?=some [b]∧0≤b∧b<n:=fun i hi=>by
   have hlen:=(zkI.1 hw).1;have hx:=get_at (l:=l) (i:=i) (by omega)
   have hl1:(l[i]'(by omega)).length≤1:=by
    rcases Nat.lt_or_ge i (n.toNat-1) with h | h
    ·have:=zu1 (hA.get h hx hw);omega
    ·have e:i=n.toNat-1:=by omega
     subst e;rw [hx] at hw;injection hw with hw
     rw [hw];exact hw1
   have hxm:=zkH hx;obtain ⟨b,hb⟩:=one_of (hc _ hxm).2 hl1;rw [hb] at hx;exact ⟨b,hx,zdh (hc _ hxm).1 b (by rw [hb];simp)⟩
  have lo:∀ i (b:Int),i<n.toNat→l[i]?=some [b]→(↑i:Int)≤b:=by
   intro i
   induction i with
   | zero =>
    intro b hi hb;obtain ⟨b',e,h1,_⟩:=one 0 hi;rw [hb] at e;injection e with e
    injection e with e
    omega
   | succ i ih =>
    intro b hi hb;obtain ⟨b',e,h1,_⟩:=one i (by omega);have:=ih b' (by omega) e;have:=zox.1 (hA.get (Nat.lt_succ_self i) e hb);omega
  have hi':∀ d i (b:Int),i+d+1=n.toNat→l[i]?=some [b]→b+↑d<n:=by
   intro d
   induction d with
   | zero =>
    intro i b hi hb;obtain ⟨b',e,_,h2⟩:=one i (by omega);rw [hb] at e;injection e with e
    injection e with e
    omega
   | succ d ih =>
    intro i b hi hb;obtain ⟨b',e,_,_⟩:=one (i+1) (by omega);have:=ih (i+1) b' (by omega) e;have:=zox.1 (hA.get (Nat.lt_succ_self i) hb e);omega
  intro a ha;have ha:=List.mem_range.1 ha;obtain ⟨b,e,_,_⟩:=one a ha;have h1:=lo a b ha e;have h2:=hi' (n.toNat-1-a) a b (by omega) e;have:b=(↑a:Int):=by omega
  subst this;exact zkH e
theorem zut {t:zac} (h:scan (sufG t) 0 t.Suffixes=none):Asc t.Suffixes∧∀ w∈t.Suffixes,zbn w t.Inputs=0∧w.length≠0:=by
 have h0:=zd5.1 h
 have key:∀ i w,t.Suffixes[i]?=some w→zbn w t.Inputs=0∧w.length≠0∧zfx t.Suffixes i w=true:=fun i w hw=>by
  have:=h0 i w hw;rw [Nat.zero_add] at this;unfold sufG at this;split at this
  ·cases this
  ·rename_i h1;split at this
   ·cases this
   ·rename_i h2;split at this
    ·cases this
    ·rename_i h3;refine ⟨by simpa using h1,h2,?_⟩;cases hp:zfx t.Suffixes i w with
     | true=>rfl
     | false=>exact absurd hp h3
 refine ⟨zui fun i w hw=>(key i w hw).2.2,fun w hw=>?_⟩;obtain ⟨i,hi,rfl⟩:=List.mem_iff_getElem.1 hw;exact ⟨(key i _ (get_at hi)).1,(key i _ (get_at hi)).2.1⟩
theorem zpf (t:zac) (ht:SmT t):zbl t=some (zdn t):=by
 unfold zbl zdn;by_cases h1:t.Inputs<1
 ·simp [h1]
 by_cases h2:64<t.Inputs
 ·simp [h1,h2]
 rw [if_neg (by omega),zkA h1,zkC,zkA h2];simp only [Option.bind_some,zkC];by_cases h3:t.Prefixes.length=0
 ·rw [show decide ((↑(List.length t.Prefixes):Int)=0)=true from zkB (by omega),zkD,if_pos h3]
 rw [show decide ((↑(List.length t.Prefixes):Int)=0)=false from zkA (by omega),zkC,if_neg h3];by_cases h4:10000<t.Prefixes.length
 ·rw [show decide (10000<(↑(List.length t.Prefixes):Int))=true from zkB (by omega),if_pos (Or.inl h4)];rfl
 rw [show decide (10000<(↑(List.length t.Prefixes):Int))=false from zkA (by omega),zkC];by_cases h5:10000<t.Suffixes.length
 ·rw [show decide (10000<(↑(List.length t.Suffixes):Int))=true from zkB (by omega),if_pos (Or.inr (Or.inl h5))];rfl
 rw [show decide (10000<(↑(List.length t.Suffixes):Int))=false from zkA (by omega),zkC];obtain ⟨f1,f2,f3⟩:=prod_fit h4 h5 h1 h2;rw [zav f1,zav f2,zav f3];simp only [Option.bind_some];by_cases h6:160000<(↑t.Prefixes.length:Int)*(t.Inputs+1)*↑t.Suffixes.length
 ·rw [zkB h6,zkD,if_pos (Or.inr (Or.inr h6))]
 rw [zkA h6,zkC,if_neg (fun h=>by rcases h with h | h | h<;>contradiction)]
 obtain ⟨_,hp,hs,hr⟩:=ht
 have hk:=zwl (step:=fun (s:(List (ByteArray×Bool))×Nat)=>zbl.s2 t s.1 s.2) (l:=t.Prefixes) (fun m _ x=>mset ⟨(keyL x).toArray⟩ true m) (fun m=>m) (fun _ _=>True) (fun m i x _ hx=>by
  have hxm:=zkH hx
  refine ⟨?_,trivial⟩
  simp only [zbl.s2]
  rw [zbw hx,zkD,zaq hx,zoe (hp.2 x hxm) (hr x hxm)]
  rfl) (fun m _=>by
  simp only [zbl.s2]
  rw [zcr]
  rfl) (by omega) (a0:=[]) trivial
 rw [hk.1,zua];simp only [Option.bind_some]
 have key:=zce (step:=fun s=>zbl.s4 t (t.Prefixes.foldl (fun m x=>mset ⟨(keyL x).toArray⟩ true m) []) s) (l:=t.Prefixes) (preG t fun w=>decide (w∈t.Prefixes)) (fun i w hw=>by
  have hwm:=zkH hw
  have hws:SmW w:=hp.2 w hwm
  have hwl:w.length≤2000000:=hws
  simp only [zbl.s4]
  rw [zbw hw,zkD,zaq hw,zid w _ hws,zm4 _ hp hw]
  simp only [Option.bind_some,preG]
  by_cases g1:zbn w t.Inputs=0
  ·rw [show decide (zbn w t.Inputs≠0)=false from zkA (by simpa using g1),zkC,if_neg (by simpa using g1)]
   have hc:(cond (decide ((↑i:Int)=0)) (cond (decide (0<(↑(List.length w):Int))) (some true) (some (!zfx t.Prefixes i w))) (some (!zfx t.Prefixes i w)):Option Bool)=some (decide ((i=0∧0<w.length)∨zfx t.Prefixes i w=false)):=by
    by_cases g2:i=0
    ·rw [show decide ((↑i:Int)=0)=true from zkB (by omega),zkD]
     by_cases g3:0<w.length
     ·rw [show decide (0<(↑(List.length w):Int))=true from zkB (by omega),zkD,zkB (Or.inl ⟨g2,g3⟩)]
     ·rw [show decide (0<(↑(List.length w):Int))=false from zkA (by omega),zkC]
      cases zfx t.Prefixes i w<;>simp [g3]
    ·rw [show decide ((↑i:Int)=0)=false from zkA (by omega),zkC]
     cases zfx t.Prefixes i w<;>simp [g2]
   rw [hc]
   simp only [Option.bind_some]
   by_cases g2:(i=0∧0<w.length)∨zfx t.Prefixes i w=false
   ·rw [zkB g2,zkD,if_pos g2]
   ·rw [zkA g2,zkC,if_neg g2]
    by_cases g3:0<w.length
    ·have hts:SmW (w.take (w.length-1)):=by
      show (w.take (w.length-1)).length≤2000000
      rw [List.length_take]
      omega
     rw [show decide (0<(↑(List.length w):Int))=true from zkB (by omega),zkD,zav (by omega),show Int.toNat ((↑(List.length w):Int)-1)=w.length-1 by omega,zoe hts (fun a ha=>hr w hwm a (List.mem_of_mem_take ha))]
     simp only [Option.bind_some]
     rw [keys_mget]
     by_cases g4:w.take (w.length-1)∈t.Prefixes<;>simp [g3,g4,mget]
    ·rw [show decide (0<(↑(List.length w):Int))=false from zkA (by omega),zkC]
     simp [g3]
  ·rw [show decide (zbn w t.Inputs≠0)=true from zkB g1,zkD,if_pos g1]) (by
  simp only [zbl.s4]
  rw [zcr]
  rfl) (by omega)
 rw [key];cases e1:scan (preG t fun w=>decide (w∈t.Prefixes)) 0 t.Prefixes with
 | some e=>rfl
 | none =>
  show (iter (fun (s:Nat)=>zbl.s6 t s) fuel 0:Option (Unit⊕Int)).bind _=_
  have key2:=zce (step:=fun s=>zbl.s6 t s) (l:=t.Suffixes) (sufG t) (fun i w hw=>by
   have hwm:=zkH hw
   have hws:SmW w:=hs.2 w hwm
   simp only [zbl.s6]
   rw [zbw hw,zkD,zaq hw,zid w _ hws,zm4 _ hs hw]
   simp only [Option.bind_some,sufG]
   by_cases g1:zbn w t.Inputs=0
   ·rw [show decide (zbn w t.Inputs≠0)=false from zkA (by simpa using g1),zkC,if_neg (by simpa using g1)]
    by_cases g2:w.length=0
    ·rw [show decide ((↑(List.length w):Int)=0)=true from zkB (by omega),zkD,if_pos g2]
    ·rw [show decide ((↑(List.length w):Int)=0)=false from zkA (by omega),zkC,if_neg g2]
     cases zfx t.Suffixes i w<;>rfl
   ·rw [show decide (zbn w t.Inputs≠0)=true from zkB g1,zkD,if_pos g1]) (by
   simp only [zbl.s6]
   rw [zcr]
   rfl) (by omega)
  rw [key2];cases e2:scan (sufG t) 0 t.Suffixes with
  | some e=>rfl
  | none =>
   obtain ⟨hA,hcs⟩:=zut e2;have hiff:=singles_iff hA hcs (show 1≤t.Inputs by omega);have l1:=zms hp;have l2:=zms hs;simp only [Option.bind_some,Sum.elim_inl];rw [zm5 _ hp,zm5 _ hs];simp only [Option.bind_some];rw [zav (show inR ((↑(zgj t.Prefixes):Int)+↑(zgj t.Suffixes)) by unfold inR;omega)];by_cases g1:(↑t.Suffixes.length:Int)<t.Inputs
   ·have hno:¬ ∀ a∈List.range t.Inputs.toNat,[(↑a:Int)]∈t.Suffixes:=fun h=>by
     obtain ⟨w,hw,_⟩:=hiff.1 h;have:=(zkI.1 hw).1;omega
    rw [zkB g1,zkD,if_neg hno];rfl
   ·have hx:=get_at (l:=t.Suffixes) (i:=t.Inputs.toNat-1) (by omega);rw [zkA g1,zkC,zav (by unfold inR;omega),zb2 (i:=t.Inputs.toNat-1) (by omega) hx];by_cases g2:1<(t.Suffixes[t.Inputs.toNat-1]'(by omega)).length
    ·have hno:¬ ∀ a∈List.range t.Inputs.toNat,[(↑a:Int)]∈t.Suffixes:=fun h=>by
      obtain ⟨w,hw,hw1⟩:=hiff.1 h;rw [hx] at hw;injection hw with hw
      rw [hw] at g2;omega
     rw [if_neg hno,zkB (by omega)];rfl
    ·have hyes:∀ a∈List.range t.Inputs.toNat,[(↑a:Int)]∈t.Suffixes:=hiff.2 ⟨_,hx,by omega⟩;rw [if_pos hyes,zkA (by omega)];simp only [Option.bind_some,zkC];by_cases h8:1023<zgj t.Prefixes+zgj t.Suffixes
     ·rw [if_pos h8,zkB (by omega)];rfl
     ·rw [if_neg h8,zkA (by omega)];rfl
end
end Go.Proofs.YtedabpfahmealaaGreatDoor.Sym
namespace Go.Proofs.YtedabpfahmealaaGreatDoor
section
structure zo0 (cf:List Int→List Int→Int):Prop where
 range:∀ a b,cf a b=-1∨cf a b=0∨cf a b=1
 zero:∀ a b,cf a b=0↔a=b
 swap:∀ a b,cf b a=- cf a b
 trans:∀ a b c,cf a b=-1→cf b c=-1→cf a c=-1
theorem cmpW_total:zo0 cmpW:=⟨zhm,znz,zq3,zgl⟩
theorem lexI_total:zo0 lexI:=⟨zgn,zkh,ziy,zjt⟩
def zc7 (l:List (List Int)):List (List Int):=l.foldl (fun acc x=>if acc.getLast?=some x then acc else acc++[x]) []
theorem zwy (l:List (List Int)) (x:List Int):zc7 (l++[x])=if (zc7 l).getLast?=some x then zc7 l else zc7 l++[x]:=by
 unfold zc7;rw [List.foldl_append];rfl
theorem zv9:∀ (l acc:List (List Int)),(l.foldl (fun acc x=>if acc.getLast?=some x then acc else acc++[x]) acc).getLast?=if l=[] then acc.getLast? else l.getLast?
 | [],acc=>by rw [if_pos rfl];rfl
 | x::l,acc=>by
  have hx:(if acc.getLast?=some x then acc else acc++[x]).getLast?=some x:=by
   split
   ·assumption
   ·simp
  rw [List.foldl_cons,zv9 l,if_neg (show ¬ x::l=[] by simp)];cases l with
  | nil=>rw [if_pos rfl,hx];rfl
  | cons y l =>
   rw [if_neg (show ¬ y::l=[] by simp),List.getLast?_cons_cons]
theorem dedupA_last (l:List (List Int)):(zc7 l).getLast?=l.getLast?:=by
 unfold zc7;rw [zv9];split
 ·rename_i h;rw [h]
 ·rfl
theorem zwn {l:List (List Int)} {k:Nat} {x y:List Int} (hy:l[k]?=some y) (hx:l[k+1]?=some x) :
  zc7 (l.take (k+1+1))=if x=y then zc7 (l.take (k+1)) else zc7 (l.take (k+1))++[x]:=by
 rw [zbp hx,zwy,dedupA_last,zbp hy];simp only [List.getLast?_append,List.getLast?_singleton,Option.some_or];by_cases h:y=x
 ·subst h;simp
 ·have h':¬ x=y:=fun e=>h e.symm;simp [h,h']
theorem ztp {l:List (List Int)} (h:l.length≤1):zc7 l=l:=by
 match l,h with
 | [],_=>rfl
 | [x],_=>rfl
theorem dedup_asc {cf:List Int→List Int→Int} (T:zo0 cf):∀ {l:List (List Int)},l.Pairwise (fun a b=>0≤cf b a)→(zc7 l).Pairwise (fun a b=>cf a b=-1)∧∀ x,x∈zc7 l↔x∈l:=by
 intro l
 -- from the end of the list
 suffices H:∀ n (l:List (List Int)),l.length=n→l.Pairwise (fun a b=>0≤cf b a)→(zc7 l).Pairwise (fun a b=>cf a b=-1)∧∀ x,x∈zc7 l↔x∈l from H _ l rfl
 intro n
 induction n with
 | zero =>
  intro l hl _;have:l=[]:=List.eq_nil_of_length_eq_zero hl;subst this;exact ⟨List.Pairwise.nil,fun x=>Iff.rfl⟩
 | succ n ih =>
  intro l hl hp
  obtain ⟨m,x,rfl⟩:∃ m x,l=m++[x]:=by
   have hne:l≠[]:=by intro e;rw [e] at hl;simp at hl
   exact ⟨l.dropLast,l.getLast hne,(List.dropLast_concat_getLast hne).symm⟩
  have hml:m.length=n:=by simpa using hl
  rw [List.pairwise_append] at hp;obtain ⟨hp1,_,hp3⟩:=hp;obtain ⟨h1,h2⟩:=ih m hml hp1;rw [zwy];by_cases h:(zc7 m).getLast?=some x
  ·rw [if_pos h];refine ⟨h1,fun y=>?_⟩;have hx:x∈m:=(h2 x).1 (List.mem_of_getLast? h);rw [h2,List.mem_append,List.mem_singleton];constructor
   ·exact Or.inl
   ·rintro (h' | rfl)
    ·exact h'
    ·exact hx
  ·rw [if_neg h];refine ⟨?_,fun y=>by rw [List.mem_append,List.mem_append,h2]⟩;rw [List.pairwise_append];refine ⟨h1,by simp,fun a ha b hb=>?_⟩;rw [List.mem_singleton] at hb;subst hb;have ha':a∈m:=(h2 a).1 ha;have hle:0≤cf b a:=hp3 a ha' b (by simp);have hr:=T.range b a;have hsw:=T.swap b a;by_cases e:cf b a=0
   ·-- a would be the last one
    exfalso;have hab:b=a:=(T.zero _ _).1 e;subst hab
    -- the last of m is the greatest, and b is in m and not less than it
    have hne:zc7 m≠[]:=fun e=>by rw [e] at ha;cases ha
    have hl2:=List.getLast?_eq_some_getLast hne;have hlast:(zc7 m).getLast hne∈m:=(h2 _).1 (List.getLast_mem hne);have h3:0≤cf b ((zc7 m).getLast hne):=hp3 _ hlast b (by simp);have hsplit:zc7 m=(zc7 m).dropLast++[(zc7 m).getLast hne]:=(List.dropLast_concat_getLast hne).symm
    have h4:b=(zc7 m).getLast hne∨cf b ((zc7 m).getLast hne)=-1:=by
     rw [hsplit] at ha h1;rw [List.pairwise_append] at h1;rcases List.mem_append.1 ha with h5 | h5
     ·exact Or.inr (h1.2.2 b h5 _ (by simp))
     ·exact Or.inl (List.mem_singleton.1 h5)
    rcases h4 with h4 | h4
    ·exact h (by rw [hl2,← h4])
    ·omega
   ·omega
theorem dedupA_length (l:List (List Int)):(zc7 l).length≤l.length:=by
 suffices H:∀ (l acc:List (List Int)),(l.foldl (fun acc x=>if acc.getLast?=some x then acc else acc++[x]) acc).length≤acc.length+l.length by
  simpa [zc7] using H l []
 intro l
 induction l with
 | nil=>intro acc;simp
 | cons x l ih =>
  intro acc;rw [List.foldl_cons];refine Nat.le_trans (ih _) ?_;split
  ·simp
  ·simp;omega
end
section
def prefixes (x:List Int):List (List Int):=(List.range (x.length+1)).map x.take
def suffixes (x:List Int):List (List Int):=(List.range (x.length+1)).map x.drop
def preL (l:List (List Int)):List (List Int):=l.flatMap prefixes
theorem prefixes_take (x:List Int) {j:Nat} (hj:j≤x.length):(prefixes x).take (j+1)=(prefixes x).take j++[x.take j]:=by
 have:(prefixes x)[j]?=some (x.take j):=by simp [prefixes,List.getElem?_range (show j<x.length+1 by omega)]
 exact zbp this
theorem zf7 (x:List Int):(prefixes x).length=x.length+1:=by simp [prefixes]
theorem preL_step {l:List (List Int)} {k:Nat} {x:List Int} (h:l[k]?=some x):preL (l.take (k+1))=preL (l.take k)++prefixes x:=by rw [zbp h];simp [preL]
def topB (all:List (List Int)) (x:List Int):Bool:=all.all fun y=>decide (y=x∨¬ x <+: y)
def maxR (l:List (List Int)):List (List Int):=(sortW l).filter (topB (sortW l))
def tailB (x:List Int) (l:List (List Int)):Bool:=l.all fun y=>decide (y.length=x.length∨¬ x <+: y)
theorem top_eq {all:List (List Int)} (hs:Asc all) {k:Nat} {x:List Int} (hx:all[k]?=some x):tailB x (all.drop (k+1))=topB all x:=by
 rw [Bool.eq_iff_iff,tailB,topB,List.all_eq_true,List.all_eq_true];simp only [decide_eq_true_eq];constructor
 ·intro h y hy;obtain ⟨i,hi⟩:=List.getElem?_of_mem hy;rcases Nat.lt_trichotomy i k with hik | hik | hik
  ·right;intro hp;have hc:=hs.get hik hi hx;have hl:=hp.length_le
   have:x=y:=hp.eq_of_length_le (by
    unfold cmpW at hc
    split at hc
    ·omega
    ·split at hc
     ·omega
     ·omega)
   rw [this,zga] at hc;omega
  ·left;rw [hik,hx] at hi;injection hi with hi
   exact hi.symm
  ·have hmem:y∈all.drop (k+1):=by
    have:(all.drop (k+1))[i-(k+1)]?=some y:=by rw [List.getElem?_drop,show k+1+(i-(k+1))=i by omega];exact hi
    exact List.mem_of_getElem? this
   rcases h y hmem with h1 | h1
   ·by_cases hp:x <+: y
    ·left;exact (hp.eq_of_length h1.symm).symm
    ·exact Or.inr hp
   ·exact Or.inr h1
 ·intro h y hy;obtain ⟨i,hi⟩:=List.getElem?_of_mem hy;rw [List.getElem?_drop] at hi;rcases h y (List.mem_of_getElem? hi) with h1 | h1
  ·have hc:=hs.get (show k<k+1+i by omega) hx hi;rw [h1,zga] at hc;omega
  ·exact Or.inr h1
theorem tailB_step {x y:List Int} {all:List (List Int)} {k j:Nat} (hk:k+1≤j) (hy:all[j]?=some y) :
  tailB x ((all.take (j+1)).drop (k+1))=(tailB x ((all.take j).drop (k+1))&&decide (y.length=x.length∨¬ x <+: y)):=by
 have hj:j<all.length:=(List.getElem?_eq_some_iff.1 hy).1;rw [zbp hy,List.drop_append_of_le_length (by rw [List.length_take];omega)];simp [tailB,List.all_append]
theorem filter_step {p:List Int→Bool} {all:List (List Int)} {k:Nat} {x:List Int} (h:all[k]?=some x):(all.take (k+1)).filter p=(all.take k).filter p++(if p x=true then [x] else []):=by
 rw [zbp h,List.filter_append];by_cases hp:p x=true<;>simp [hp]
theorem mem_maxR {l:List (List Int)} {x:List Int} (h:x∈maxR l):x∈l:=by
 unfold maxR at h;exact (zdd l x).1 (List.mem_filter.1 h).1
theorem maxR_length (l:List (List Int)):(maxR l).length≤l.length:=Nat.le_trans (List.length_filter_le _ _) (zhu l)
def zmc:List (List Int)→List (List Int)
 | []=>[]
 | [x]=>[x]
 | x::y::l=>if x <+: y then zmc (y::l) else x::zmc (y::l)
theorem keepM_end {L:List (List Int)} {k:Nat} {x:List Int} (hx:L[k]?=some x) (hl:k+1=L.length):zmc (L.drop k)=x::zmc (L.drop (k+1)):=by
 obtain ⟨h1,h2⟩:=List.getElem?_eq_some_iff.1 hx;rw [List.drop_eq_getElem_cons h1,h2,List.drop_eq_nil_of_le (by omega)];rfl
theorem keepM_step {L:List (List Int)} {k:Nat} {x y:List Int} (hx:L[k]?=some x) (hy:L[k+1]?=some y):zmc (L.drop k)=if x <+: y then zmc (L.drop (k+1)) else x::zmc (L.drop (k+1)):=by
 obtain ⟨h1,h2⟩:=List.getElem?_eq_some_iff.1 hx;obtain ⟨h3,h4⟩:=List.getElem?_eq_some_iff.1 hy;rw [List.drop_eq_getElem_cons h1,h2,List.drop_eq_getElem_cons h3,h4];rfl
theorem zux:∀ L:List (List Int),(zmc L).Sublist L
 | []=>List.Sublist.refl _
 | [x]=>List.Sublist.refl _
 | x::y::l=>by
  rw [zmc];split
  ·exact (zux (y::l)).cons x
  ·exact (zux (y::l)).cons_cons x
theorem zpm:∀ (x z y:List Int),lexI x z=-1→(z=y∨lexI z y=-1)→x <+: y→x <+: z
 | [],z,_,_,_,_=>List.nil_prefix
 | a::x,[],_,h,_,_=>by simp [lexI] at h
 | a::x,b::z,[],_,_,h=>by simp at h
 | a::x,b::z,c::y,h1,h2,h3=>by
  rw [List.cons_prefix_cons] at h3;obtain ⟨rfl,h3⟩:=h3;simp only [lexI] at h1
  have hle:b≤a:=by
   rcases h2 with h2 | h2
   ·injection h2 with e1 e2;omega
   ·simp only [lexI] at h2;split at h2
    ·omega
    ·split at h2
     ·omega
     ·omega
  have hab:a=b:=by
   split at h1
   ·omega
   ·split at h1
    ·omega
    ·omega
  subst hab;rw [if_neg (by omega),if_neg (by omega)] at h1;rw [List.cons_prefix_cons];refine ⟨rfl,zpm x z y h1 ?_ h3⟩;rcases h2 with h2 | h2
  ·injection h2 with e1 e2;exact Or.inl e2
  ·simp only [lexI] at h2;rw [if_neg (by omega),if_neg (by omega)] at h2;exact Or.inr h2
theorem zsj:∀ (x y:List Int),x <+: y→x≠y→lexI x y=-1
 | [],[],_,h=>absurd rfl h
 | [],_::_,_,_=>rfl
 | a::x,[],h,_=>by simp at h
 | a::x,b::y,h,hne=>by
  rw [List.cons_prefix_cons] at h;obtain ⟨rfl,h⟩:=h;simp only [lexI];rw [if_neg (by omega),if_neg (by omega)];exact zsj x y h (fun e=>hne (by rw [e]))
theorem mem_keepM:∀ {L:List (List Int)},L.Pairwise (fun a b=>lexI a b=-1)→∀ x,x∈zmc L↔x∈L∧∀ y∈L,y=x∨¬ x <+: y
 | [],_,x=>by simp [zmc]
 | [z],_,x=>by
  simp only [zmc,List.mem_singleton];constructor
  ·rintro rfl;exact ⟨rfl,fun y hy=>Or.inl hy⟩
  ·exact fun h=>h.1
 | z::y::l,h,x=>by
  obtain ⟨h1,h2⟩:=List.pairwise_cons.1 h;have ih:=mem_keepM (L:=y::l) h2
  have hzl:∀ t∈y::l,z≠t:=fun t ht e=>by
   have:=h1 t ht;rw [e,lexI_refl] at this;omega
  have hlow:∀ t∈y::l,¬ t <+: z:=fun t ht hp=>by
   have h3:=h1 t ht;have h4:=zsj t z hp (fun e=>hzl t ht e.symm);rw [ziy] at h4;omega
  have hyl:∀ t∈y::l,y=t∨lexI y t=-1:=fun t ht=>by
   rcases List.mem_cons.1 ht with e | e
   ·exact Or.inl e.symm
   ·exact Or.inr ((List.pairwise_cons.1 h2).1 t e)
  rw [zmc];by_cases hp:z <+: y
  ·rw [if_pos hp,ih];constructor
   ·rintro ⟨ha,hb⟩;refine ⟨List.mem_cons_of_mem _ ha,fun t ht=>?_⟩;rcases List.mem_cons.1 ht with rfl | ht
    ·exact Or.inr (hlow x ha)
    ·exact hb t ht
   ·rintro ⟨ha,hb⟩;rcases List.mem_cons.1 ha with rfl | ha
    ·rcases hb y (by simp) with e | e
     ·exact absurd e.symm (hzl y (by simp))
     ·exact absurd hp e
    ·exact ⟨ha,fun t ht=>hb t (List.mem_cons_of_mem _ ht)⟩
  ·rw [if_neg hp,List.mem_cons,ih];constructor
   ·rintro (rfl | ⟨ha,hb⟩)
    ·refine ⟨by simp,fun t ht=>?_⟩;rcases List.mem_cons.1 ht with rfl | ht
     ·exact Or.inl rfl
     ·exact Or.inr fun hpt=>hp (zpm x y t (h1 y (by simp)) (hyl t ht) hpt)
    ·refine ⟨List.mem_cons_of_mem _ ha,fun t ht=>?_⟩;rcases List.mem_cons.1 ht with rfl | ht
     ·exact Or.inr (hlow x ha)
     ·exact hb t ht
   ·rintro ⟨ha,hb⟩;rcases List.mem_cons.1 ha with rfl | ha
    ·exact Or.inl rfl
    ·exact Or.inr ⟨ha,fun t ht=>hb t (List.mem_cons_of_mem _ ht)⟩
theorem znc (l:List (List Int)) (x:List Int):x∈maxR l↔x∈l∧∀ y∈l,y=x∨¬ x <+: y:=by
 unfold maxR;rw [List.mem_filter,zdd,topB,List.all_eq_true];simp only [zdd,decide_eq_true_eq]
theorem maxR_asc (l:List (List Int)):Asc (maxR l):=List.Pairwise.sublist List.filter_sublist (zet l)
theorem sortW_keepM {L l:List (List Int)} (h:L.Pairwise fun a b=>lexI a b=-1) (hm:∀ x,x∈L↔x∈l):sortW (zmc L)=maxR l :=
 zpn (zet _) (maxR_asc l) fun x=>by
  rw [zdd,mem_keepM h,znc];simp only [hm]
end
end Go.Proofs.YtedabpfahmealaaGreatDoor
namespace Go.Proofs.YtedabpfahmealaaGreatDoor.Sym
section
set_option maxRecDepth 100000
theorem ziu {α:Type} {l:List (List α)} {i:Nat} {x:List α} (h:l[i]?=some x):(l.take (i+1)).flatten=(l.take i).flatten++x:=by
 rw [zbp h];simp
theorem zh2 {α:Type} {l:List (List α)} (i:Nat):(l.take i).flatten.length≤l.flatten.length:=by
 have h:l.flatten=(l.take i).flatten++(l.drop i).flatten:=by rw [← List.flatten_append,List.take_append_drop]
 rw [h,zkJ];omega
theorem concat_ints (l:List (List Int)) (hl:l.length≤100000000) (hf:l.flatten.length≤1000000000):za3 l=some l.flatten:=by
 unfold za3
 rw [zdy (r:=l.flatten.length) (fun s=>s.2≤l.length∧s.1=(l.take s.2).flatten.length) (fun s=>l.length-s.2) (fun s ⟨h1,h2⟩=>by
  simp only [za3.s2]
  by_cases h3:s.2<l.length
  ·left
   have hx:=get_at h3
   have h4:=ziu hx
   have h5:=zh2 (l:=l) (s.2+1)
   rw [h4,zkJ] at h5
   refine ⟨((l.take (s.2+1)).flatten.length,s.2+1),?_,⟨by omega,rfl⟩,by simp only;omega⟩
   rw [zbw hx,zkD,zaq hx,zav (by unfold inR;omega),zkA (by omega),zkC,h4,zkJ,h2]
  ·right
   have e:s.2=l.length:=by omega
   rw [zkA (by omega),zkC,h2,e,List.take_length]) (s:=(0,0)) ⟨Nat.zero_le _,by simp⟩ (by have:=za4;simp only;omega)]
 simp only [Option.bind_some];unfold zny;rw [zav (by omega)];simp only [Option.bind_some]
 rw [zdy (r:=l.flatten) (fun s=>s.2≤l.length∧s.1=(l.take s.2).flatten) (fun s=>l.length-s.2) (fun s ⟨h1,h2⟩=>by
  simp only [za3.s4]
  by_cases h3:s.2<l.length
  ·left
   have hx:=get_at h3
   have h4:=ziu hx
   have h5:=zh2 (l:=l) (s.2+1)
   rw [h4,zkJ] at h5
   refine ⟨((l.take (s.2+1)).flatten,s.2+1),?_,⟨by omega,rfl⟩,by simp only;omega⟩
   rw [zbw hx,zkD,zaq hx,zav (by rw [h2];unfold zbm;omega),h4,h2]
  ·right
   have e:s.2=l.length:=by omega
   rw [zkA (by omega),zkC,h2,e,List.take_length]) (s:=([],0)) ⟨Nat.zero_le _,by simp⟩ (by have:=za4;simp only;omega)]
 rfl
theorem zfi (l:List (List Int)) (hl:l.length≤100000000) (hf:l.flatten.length≤1000000000):zfw l=some l.flatten:=by
 unfold zfw;rw [concat_ints l hl hf];rfl
theorem totB_of {cf:List Int→List Int→Int} (T:zo0 cf) {f:List Int→List Int→Option Int} {l:List (List Int)} (hf:∀ a∈l,∀ b∈l,f a b=some (cf a b)):totB f l=true:=by
 refine List.all_eq_true.2 fun a ha=>List.all_eq_true.2 fun b hb=>?_;rw [hf a ha b hb,hf b hb a ha];simp only [Bool.and_eq_true];refine ⟨⟨⟨?_,?_⟩,?_⟩,List.all_eq_true.2 fun c hc=>?_⟩
 ·rw [beq_iff_eq];have:=T.zero a b;by_cases h:a=b
  ·simp [h,this.2 h];rw [← h];exact (T.zero a a).2 rfl
  ·have h2:¬ cf a b=0:=fun e=>h (this.1 e);simp [h,h2]
 ·rw [beq_iff_eq];have:=T.swap a b;by_cases h:cf a b<0
  ·simp [h];omega
  ·simp [h];omega
 ·have:=T.range a b;exact zkB (by omega)
 ·rw [hf b hb c hc,hf a ha c hc];have r1:=T.range a b;have r2:=T.range b c;by_cases h1:cf a b<0
  ·by_cases h2:cf b c<0
   ·have:=T.trans a b c (by omega) (by omega);simp [h1,h2,this]
   ·simp [h1,h2]
  ·simp [h1]
theorem libSort_eq {cf:List Int→List Int→Int} (T:zo0 cf) {f:List Int→List Int→Option Int} {l:List (List Int)} (hl:l.length≤1000000000) (hf:∀ a∈l,∀ b∈l,f a b=some (cf a b)) :
  ∃ S,zsk l f=some S∧S.Perm l∧S.Pairwise (fun a b=>0≤cf b a):=by
 refine ⟨zg4 f l,?_,zep f l,?_⟩
 ·unfold zsk;rw [zav hl,totB_of T hf];rfl
 ·have h:=zjl (totB_iff (totB_of T hf));rw [List.pairwise_iff_getElem] at h ⊢;intro i j hi hj hij;have:=h i j hi hj hij;have m1:=(zep f l).mem_iff.1 (List.getElem_mem hi);have m2:=(zep f l).mem_iff.1 (List.getElem_mem hj);unfold NGt cfv at this;rw [hf _ m2 _ m1] at this;simp only [Option.getD_some] at this;omega
theorem compact_eq {q:List Int→List Int→Option Bool} {l:List (List Int)} (hl:l.length≤1000000000) (hq:∀ a∈l,∀ b∈l,q a b=some (decide (a=b))):zam l q=some (zc7 l):=by
 unfold zam;by_cases h2:l.length<2
 ·rw [zkB (by omega),zkD,ztp (by omega)]
 rw [zkA (by omega),zkC]
 have key:=zbq (step:=fun k=>zam.s20 l q k) (fun k=>1≤k∧k≤l.length∧zc7 (l.take k)=l.take k) (fun k=>l.length-k) (fun r=>Sum.elim (fun (_:Unit)=>some l) some r=some (zc7 l)) (fun k ⟨h1,h3,h4⟩=>by
  simp only [zam.s20]
  by_cases h5:k<l.length
  ·have hx:=get_at h5
   have hp:=get_at (l:=l) (i:=k-1) (by omega)
   have hst:=zwn (l:=l) (k:=k-1) (x:=l[k]) hp (by rw [show k-1+1=k by omega];exact hx)
   rw [show k-1+1=k by omega] at hst
   rw [zbw hx,zkD,zaq hx,zb2 (i:=k-1) (by omega) hp,hq _ (List.getElem_mem _) _ (List.getElem_mem _)]
   simp only [Option.bind_some]
   by_cases h6:l[k]=l[k-1]'(by omega)
   ·right
    rw [if_pos h6] at hst
    rw [zkB h6,zkD,zav (by omega)]
    have inner:=zbq (step:=fun (s:List (List Int)×Nat×Nat)=>zam.s18 q k s.1 s.2.1 s.2.2) (fun s=>1≤s.2.2∧k+s.2.2≤l.length∧s.1.length=l.length∧s.2.1=(zc7 (l.take (k+s.2.2))).length∧s.2.1<k+s.2.2∧s.1.take s.2.1=zc7 (l.take (k+s.2.2))∧∀ j,s.2.1≤j→s.1[j]?=l[j]?) (fun s=>l.length-(k+s.2.2))
     (fun r=>r.2≤l.length∧r.1.length=l.length∧r.1.take r.2=zc7 l) (fun s ⟨g1,g2,g3,g4,g5,g6,g7⟩=>by
      obtain ⟨y,kk,t⟩:=s
      simp only at g1 g2 g3 g4 g5 g6 g7
      simp only [zam.s18]
      by_cases g8:k+t<l.length
      ·left
       have gx:=get_at (l:=l) (i:=k+t) g8
       have gp:=get_at (l:=l) (i:=k+(t-1)) (by omega)
       have yx:y[k+t]?=some l[k+t]:=by rw [g7 _ (by omega)];exact gx
       have yp:y[k+(t-1)]?=some (l[k+(t-1)]'(by omega)):=by rw [g7 _ (by omega)];exact gp
       have hst2:=zwn (l:=l) (k:=k+(t-1)) (x:=l[k+t]) gp (by rw [show k+(t-1)+1=k+t by omega];exact gx)
       rw [show k+(t-1)+1=k+t by omega] at hst2
       rw [zkB (show (↑t:Int)<(↑(List.length y-k):Int) by omega),zkD,zaq yx,zav (by omega),show Int.toNat ((↑t:Int)-1)=t-1 by omega,zaq yp,hq _ (List.getElem_mem _) _ (List.getElem_mem _)]
       simp only [Option.bind_some]
       by_cases g9:l[k+t]=l[k+(t-1)]'(by omega)
       ·rw [if_pos g9] at hst2
        refine ⟨(y,kk,t+1),by rw [zkB g9];rfl,⟨by simp only;omega,by simp only;omega,g3,?_,by simp only;omega,?_,g7⟩,by simp only;omega⟩
        ·simp only
         rw [show k+(t+1)=k+t+1 by omega,hst2]
         exact g4
        ·simp only
         rw [show k+(t+1)=k+t+1 by omega,hst2]
         exact g6
       ·rw [if_neg g9] at hst2
        have yk:=get_at (l:=y) (i:=kk) (by omega)
        refine ⟨(y.set kk l[k+t],kk+1,t+1),?_,⟨by simp only;omega,by simp only;omega,by simp only [List.length_set];exact g3,?_,by simp only;omega,?_,fun j hj=>?_⟩,by simp only;omega⟩
        ·rw [zkA g9]
         simp only [Bool.not_false,zkD]
         rw [zaq yx,zaq yk,zav (by unfold inR;omega)]
        ·simp only
         rw [show k+(t+1)=k+t+1 by omega,hst2,zkJ,← g4]
         rfl
        ·simp only
         have e1:(y.set kk l[k+t])[kk]?=some l[k+t]:=by rw [List.getElem?_set];simp;omega
         rw [show k+(t+1)=k+t+1 by omega,hst2,zbp e1,List.take_set_of_le (Nat.le_refl _),g6]
        ·simp only at hj
         rw [List.getElem?_set_ne (by omega)]
         exact g7 j (by omega)
      ·right
       have e:k+t=l.length:=by omega
       refine ⟨(y,kk),?_,by simp only;omega,g3,?_⟩
       ·rw [zkA (by omega),zkC]
       ·simp only
        rw [e,List.take_length] at g6
        exact g6) fuel (l,k,1) ⟨Nat.le_refl _,by simp only;omega,rfl,by simp only;rw [hst,h4,List.length_take];omega,by simp only;omega,by simp only;rw [hst,h4],fun j _=>rfl⟩ (by have:=za4;simp only;omega)
    obtain ⟨⟨y,kk⟩,e,g1,g2,g3⟩:=inner
    simp only at g1 g2 g3
    refine ⟨.inr (zc7 l),?_,rfl⟩
    rw [e]
    simp only [Option.bind_some,zam.k19]
    have e2:(List.take kk y++List.replicate (List.length y-kk) ([]:List Int)).length=l.length:=by
     rw [zkJ,List.length_take,List.length_replicate]
     omega
    rw [zav (by omega),zav (by omega),zav (by rw [e2];omega),List.take_append_of_le_length (by rw [List.length_take];omega),List.take_take,Nat.min_self,g3]
   ·left
    rw [if_neg h6] at hst
    refine ⟨k+1,by rw [zkA h6];rfl,⟨by omega,by omega,?_⟩,by omega⟩
    rw [hst,h4,zbp hx]
  ·right
   have e:k=l.length:=by omega
   subst e
   refine ⟨.inl (),?_,?_⟩
   ·rw [zcr];rfl
   ·rw [List.take_length] at h4
    rw [h4]
    rfl) fuel 1 ⟨Nat.le_refl _,by omega,ztp (by rw [List.length_take];omega)⟩ (by have:=za4;omega)
 obtain ⟨r,e,hr⟩:=key;rw [e];exact hr
theorem zh4 {w:List Int} (h:SmW w):zd3 w=some w:=by
 unfold zd3 zo1;exact zav (by unfold SmW at h;unfold zbm;omega)
theorem zxq {l:List (List Int)} (h:l.length≤2000000):zia l=some l:=by
 unfold zia zo1;exact zav (by unfold zbm;omega)
theorem zx9 {cf:List Int→List Int→Int} (T:zo0 cf) {f:List Int→List Int→Option Int} {l:List (List Int)} (hl:SmL l) (hf:∀ a∈l,∀ b∈l,f a b=some (cf a b)) :
  ∃ S,zcn l f=some S∧S.Pairwise (fun a b=>cf a b=-1)∧(∀ x,x∈S↔x∈l)∧S.length≤l.length:=by
 have hl1:l.length≤2000000:=hl.1;obtain ⟨S,e1,hp,hs⟩:=libSort_eq T (by omega:l.length≤1000000000) hf;obtain ⟨d1,d2⟩:=dedup_asc T hs;have hm:∀ x,x∈zc7 S↔x∈l:=fun x=>by rw [d2,hp.mem_iff]
 have hlen:(zc7 S).length≤l.length:=by
  have:=dedupA_length S;rw [hp.length_eq] at this;exact this
 refine ⟨zc7 S,?_,d1,hm,hlen⟩;unfold zcn zic;rw [zxq hl1];simp only [Option.bind_some];rw [e1];simp only [Option.bind_some]
 rw [compact_eq (by rw [hp.length_eq];omega) (fun a ha b hb=>by
  unfold zfd
  rw [hf a (hp.mem_iff.1 ha) b (hp.mem_iff.1 hb)]
  simp only [Option.bind_some]
  congr 1
  exact decide_eq_decide.2 (T.zero a b))]
 simp only [Option.bind_some]
 rw [zdy (r:=zc7 S) (fun s=>s.1=zc7 S) (fun s=>(zc7 S).length-s.2) (fun s h1=>by
  simp only [zcn.s2]
  by_cases h3:s.2<(zc7 S).length
  ·left
   have hx:=get_at h3
   have hxs:SmW ((zc7 S)[s.2]):=hl.2 _ ((hm _).1 (List.getElem_mem _))
   refine ⟨(zc7 S,s.2+1),?_,rfl,by simp only;omega⟩
   rw [zbw hx,zkD,h1,zaq hx,zh4 hxs]
   simp only [Option.bind_some]
   rw [zaq hx,zav (by unfold inR;omega),List.set_getElem_self]
  ·right
   rw [zkA (by omega),zkC,h1]) (s:=(zc7 S,0)) rfl (by have:=za4;simp only;omega)]
 rfl
theorem zsh {l:List (List Int)} (hl:SmL l):zha l=some (sortW l):=by
 obtain ⟨S,e,h1,h2,_⟩:=zx9 cmpW_total (f:=fun u0 u1=>zcw u0 u1) hl fun a ha b hb=>zh1 a b (by have:SmW a:=hl.2 a ha;unfold SmW at this;omega);unfold zha;rw [e];show some S=_;congr 1;exact zpn h1 (zet l) fun x=>by rw [h2,zdd]
theorem zkn {l:List (List Int)} (h:SmL l):SmL (sortW l):=⟨Nat.le_trans (zhu l) h.1,fun x hx=>h.2 x ((zdd l x).1 hx)⟩
theorem R02_place_eq {l:List (List Int)} {w:List Int} (hA:Asc l) (hl:SmL l):zgc l w=some (↑(zci l w):Int):=by
 have hl1:l.length≤2000000:=hl.1;have hsp:=zmd l w;have hle:=zqd l w;unfold zgc
 rw [zdy (r:=zci l w) (fun s=>s.1≤zci l w∧zci l w≤s.2∧s.2≤l.length) (fun s=>s.2-s.1) (fun s ⟨h1,h2,h3⟩=>by
  obtain ⟨lo,hi⟩:=s
  simp only at h1 h2 h3
  simp only [zgc.s2]
  by_cases h4:lo<hi
  ·left
   have hx:=get_at (l:=l) (i:=(lo+hi) / 2) (by omega)
   rw [zkB (by omega),zkD,zav (by unfold inR;omega),zav (by unfold inR;omega),zaq hx,zg2 _ _ (hl.2 _ (List.getElem_mem _))]
   simp only [Option.bind_some]
   by_cases h5:cmpW (l[(lo+hi) / 2]'(by omega)) w<0
   ·refine ⟨((lo+hi) / 2+1,hi),by rw [zkB h5,zkD,zav (by unfold inR;omega)],⟨?_,h2,h3⟩,by simp only;omega⟩
    simp only
    rcases Nat.lt_or_ge ((lo+hi) / 2) (zci l w) with h | h
    ·exact h
    ·exfalso
     have hp:=get_at (l:=l) (i:=zci l w) (by omega)
     have hne:=hsp.2 _ hp
     have r1:=zhm (l[(lo+hi) / 2]'(by omega)) w
     rcases Nat.lt_or_ge (zci l w) ((lo+hi) / 2) with h' | h'
     ·have:=hA.get h' hp hx
      exact hne (zgl _ _ _ this (by omega))
     ·have e:zci l w=(lo+hi) / 2:=by omega
      simp only [e] at hne
      omega
   ·refine ⟨(lo,(lo+hi) / 2),by rw [zkA h5,zkC],⟨h1,?_,by simp only;omega⟩,by simp only;omega⟩
    simp only
    rcases Nat.lt_or_ge ((lo+hi) / 2) (zci l w) with h | h
    ·exfalso
     have:=hsp.1 _ _ h hx
     omega
    ·exact h
  ·right
   rw [zkA (by omega),zkC,show lo=zci l w by omega]) (s:=(0,l.length)) ⟨Nat.zero_le _,hle,Nat.le_refl _⟩ (by have:=za4;simp only;omega)]
 rfl
theorem zvg {l:List (List Int)} {w:List Int} (hA:Asc l) (hl:SmL l) (hw:SmW w):zgi l w=some (insW l w):=by
 have hl1:l.length≤2000000:=hl.1;have hw1:w.length≤2000000:=hw;have hle:=zqd l w;have hmp:=hA.mem_place w;unfold zgi;rw [R02_place_eq hA hl];simp only [Option.bind_some];by_cases hm:w∈l
 ·have hx:=hmp.1 hm;have hlt:=(zkI.1 hx).1;rw [zkB (show (↑(zci l w):Int)<(↑(List.length l):Int) by omega),zkD,zb2 rfl hx,zps _ _ hw];unfold insW;rw [if_pos hm];simp
 ·have hc:(cond (decide ((↑(zci l w):Int)<(↑(List.length l):Int))) (idx l (↑(zci l w):Int) fun e59=>(zk1 e59 w).bind fun c60=>some c60) (some false):Option Bool)=some false:=by
   by_cases hlt:zci l w<l.length
   ·have hx:=get_at hlt;rw [zkB (by omega),zkD,zb2 rfl hx,zps _ _ (hl.2 _ (List.getElem_mem _))];have:¬ l[zci l w]=w:=fun e=>hm (hmp.2 (by rw [hx,e]));simp [this]
   ·rw [zkA (by omega),zkC]
  rw [hc];simp only [Option.bind_some,zkC];have hlen:(l++[([]:List Int)]).length=l.length+1:=by simp
  rw [zav (by unfold zbm;omega),zav (by rw [hlen];unfold inR;omega)]
  have key:=zbq (step:=fun (s:List (List Int)×Int)=>zgi.s2 (↑(zci l w):Int) s.1 s.2) (fun s=>∃ i:Nat,s.2=(i:Int)∧zci l w≤i∧i≤l.length∧∃ z,s.1=stage l z i) (fun s=>s.2.toNat-zci l w) (fun r=>∃ z,r=stage l z (zci l w)) (fun s ⟨i,h1,h2,h3,z,h4⟩=>by
   obtain ⟨y,i'⟩:=s
   simp only at h1 h4
   subst h1 h4
   simp only [zgi.s2]
   by_cases h5:zci l w<i
   ·left
    have hx:=get_at (l:=l) (i:=i-1) (by omega)
    have e1:(stage l z i)[i-1]?=some (l[i-1]'(by omega)):=by rw [stage_before (by omega) h3];exact hx
    have e2:(stage l z i)[i]?=some z:=stage_at h3
    refine ⟨(stage l (l[i-1]'(by omega)) (i-1),↑(i-1:Nat)),?_,⟨i-1,rfl,by omega,by omega,_,rfl⟩,by simp only;omega⟩
    rw [zkB (by omega),zkD,zav (by unfold inR;omega),zb2 (i:=i-1) (by omega) e1,zb2 rfl e2,zav (by unfold inR;omega),Int.toNat_natCast,stage_set h3]
    have h6:=stage_down (us:=l) (j:=i-1) hx
    rw [show i-1+1=i by omega] at h6
    rw [h6,show (↑i:Int)-1=((i-1:Nat):Int) by omega]
   ·right
    have e:i=zci l w:=by omega
    subst e
    refine ⟨_,by rw [zkA (by omega),zkC],z,rfl⟩) fuel (l++[[]],(↑(l++[([]:List Int)]).length:Int)-1) ⟨l.length,by simp only [hlen];omega,hle,Nat.le_refl _,[],(stage_end l []).symm⟩ (by have:=za4;simp only [hlen];omega)
  obtain ⟨r,e,z,hz⟩:=key;subst hz;rw [e];simp only [Option.bind_some];have e2:(stage l z (zci l w))[zci l w]?=some z:=stage_at hle;rw [zav (by unfold zbm;simp;omega),zb2 rfl e2,Int.toNat_natCast,stage_set hle,List.nil_append];unfold insW;rw [if_neg hm];rfl
theorem sml_ins {l:List (List Int)} {w:List Int} (hl:l.length≤1999999∧∀ x∈l,SmW x) (hw:SmW w):SmL (insW l w):=by
 refine ⟨by have:=zvr l w;omega,fun x hx=>?_⟩;rcases (zfo l w x).1 hx with h | h
 ·exact hl.2 x h
 ·rw [h];exact hw
theorem zmi {l:List (List Int)} (hl:SmL l):zen l=some (sortW l):=by
 have hl1:l.length≤2000000:=hl.1;unfold zen
 rw [zdy (r:=sortW l) (fun s=>s.2≤l.length∧s.1=sortW (l.take s.2)) (fun s=>l.length-s.2) (fun s ⟨h1,h2⟩=>by
  obtain ⟨y,i⟩:=s
  simp only at h1 h2
  subst h2
  simp only [zen.s2]
  by_cases h3:i<l.length
  ·left
   have hx:=get_at h3
   have hsm:SmL (sortW (l.take i)):=zkn ⟨by rw [List.length_take];omega,fun x hx=>hl.2 x (List.mem_of_mem_take hx)⟩
   refine ⟨(sortW (l.take (i+1)),i+1),?_,⟨h3,rfl⟩,by simp only;omega⟩
   rw [zbw hx,zkD,zaq hx,zvg (zet _) hsm (hl.2 _ (List.getElem_mem _)),zbp hx,zr0]
   rfl
  ·right
   have e:i=l.length:=by omega
   subst e
   rw [zkA (by omega),zkC,List.take_length]) (s:=([],0)) ⟨Nat.zero_le _,by simp [sortW]⟩ (by have:=za4;simp only;omega)]
 rfl
theorem znv {ls:List (List (List Int))} (h0:ls.length≤100000000) (hl:SmL ls.flatten):zfc ls=some (sortW ls.flatten):=by
 have hl1:ls.flatten.length≤2000000:=hl.1;unfold zfc
 rw [zdy (r:=ls.flatten) (fun s=>s.2≤ls.length∧s.1=(ls.take s.2).flatten) (fun s=>ls.length-s.2) (fun s ⟨h1,h2⟩=>by
  simp only [zfc.s2]
  by_cases h3:s.2<ls.length
  ·left
   have hx:=get_at h3
   have h4:=ziu hx
   have h5:=zh2 (l:=ls) (s.2+1)
   rw [h4,zkJ] at h5
   refine ⟨((ls.take (s.2+1)).flatten,s.2+1),?_,⟨by omega,rfl⟩,by simp only;omega⟩
   rw [zbw hx,zkD,zaq hx,zav (by rw [h2];unfold zbm;omega),h4,h2]
  ·right
   have e:s.2=ls.length:=by omega
   rw [zkA (by omega),zkC,h2,e,List.take_length]) (s:=([],0)) ⟨Nat.zero_le _,by simp⟩ (by have:=za4;simp only;omega)]
 simp only [Option.bind_some];rw [zmi hl];rfl
end
section
set_option maxRecDepth 100000
theorem preL_take_len {l:List (List Int)} (i:Nat):(preL (l.take i)).length≤(preL l).length:=by
 unfold preL;rw [List.flatMap_def,List.flatMap_def,List.map_take];exact zh2 i
theorem sortW_append (a b:List (List Int)):sortW (a++b)=b.foldl insW (sortW a):=by simp [sortW]
theorem zwb {l:List (List Int)} {i:Nat} {x:List Int} {y:List (List Int)} (hx:l[i]?=some x) (hx1:x.length≤1000000) (hy:SmL y) (hlen:y.length+x.length+1≤2000000) :
  iter (fun (s:List (List Int)×Nat)=>zcb.s13 l i s.1 s.2) fuel (sortW y,0)=some (sortW (y++prefixes x)):=by
 refine zdy (fun s=>s.2≤x.length+1∧s.1=sortW (y++(prefixes x).take s.2)) (fun s=>x.length+1-s.2) (fun s ⟨g1,g2⟩=>?_) ⟨Nat.zero_le _,by simp⟩ (by have:=za4;simp only;omega);obtain ⟨z,k⟩:=s;simp only at g1 g2;subst g2;simp only [zcb.s13];rw [zaq hx];by_cases g3:k<x.length+1
 ·left
  have e1:SmL (y++(prefixes x).take k):=by
   refine ⟨by rw [zkJ,List.length_take,zf7];omega,fun u hu=>?_⟩;rcases List.mem_append.1 hu with h | h
   ·exact hy.2 u h
   ·have h2:=List.mem_of_mem_take h;unfold prefixes at h2;obtain ⟨j,_,rfl⟩:=List.mem_map.1 h2;unfold SmW;rw [List.length_take];omega
  have e2:SmW (x.take k):=by
   unfold SmW;rw [List.length_take];omega
  have e3:=zvg (zet (y++(prefixes x).take k)) (zkn e1) e2;refine ⟨(sortW (y++(prefixes x).take (k+1)),k+1),?_,⟨g3,rfl⟩,by simp only;omega⟩;rw [zkB (by omega),zkD,zaq hx,zav (by omega),e3];simp only [zan];rw [zav (by unfold inR;omega),prefixes_take _ (by omega),← List.append_assoc,zr0]
 ·right;have e:k=x.length+1:=by omega
  subst e;rw [zkA (by omega),zkC,← zf7,List.take_length]
theorem zwc {l:List (List Int)} (hl:SmL l) (hw:∀ x∈l,x.length≤1000000) (hp:SmL (preL l)):zcb l=some (sortW (preL l)):=by
 have hl1:l.length≤2000000:=hl.1;have hp1:(preL l).length≤2000000:=hp.1;unfold zcb
 have key:=zdy (step:=fun (s:List (List Int)×Nat)=>zcb.s14 l s.1 s.2) (r:=sortW (preL l)) (fun s=>s.2≤l.length∧s.1=sortW (preL (l.take s.2))) (fun s=>l.length-s.2) (fun s ⟨h1,h2⟩=>by
  obtain ⟨y,i⟩:=s
  simp only at h1 h2
  subst h2
  simp only [zcb.s14]
  by_cases h3:i<l.length
  ·left
   have hx:=get_at h3
   have hst:=preL_step hx
   have hle:=preL_take_len (l:=l) (i+1)
   rw [hst,zkJ,zf7] at hle
   have hin:=zwb (y:=preL (l.take i)) hx (hw _ (List.getElem_mem _)) ⟨by omega,fun u hu=>hp.2 u (by
    unfold preL at hu ⊢
    obtain ⟨z,hz,hz2⟩:=List.mem_flatMap.1 hu
    exact List.mem_flatMap.2 ⟨z,List.mem_of_mem_take hz,hz2⟩)⟩ (by omega)
   refine ⟨(sortW (preL (l.take i)++prefixes l[i]),i+1),?_,⟨h3,by simp only;rw [hst]⟩,by simp only;omega⟩
   rw [zbw hx,zkD,hin]
   simp only [zan]
  ·right
   have e:i=l.length:=by omega
   subst e
   rw [zkA (by omega),zkC,List.take_length]) (n:=fuel) (s:=([],0)) ⟨Nat.zero_le _,by simp [preL,sortW]⟩ (by have:=za4;simp only;omega)
 rw [key];simp only [zan]
theorem zl8 (l:List (List Int)) (hl:l.length≤100000000) (hf:l.flatten.length≤1000000000):zf3 l=some l.flatten:=by
 unfold zf3
 rw [zdy (r:=l.flatten) (fun s=>s.2≤l.length∧s.1=(l.take s.2).flatten) (fun s=>l.length-s.2) (fun s ⟨h1,h2⟩=>by
  simp only [zf3.s2]
  by_cases h3:s.2<l.length
  ·left
   have hx:=get_at h3
   have h4:=ziu hx
   have h5:=zh2 (l:=l) (s.2+1)
   rw [h4,zkJ] at h5
   refine ⟨((l.take (s.2+1)).flatten,s.2+1),?_,⟨by omega,rfl⟩,by simp only;omega⟩
   rw [zbw hx,zkD,zaq hx,zav (by rw [h2];unfold zbm;omega),h4,h2]
  ·right
   have e:s.2=l.length:=by omega
   rw [zkA (by omega),zkC,h2,e,List.take_length]) (s:=([],0)) ⟨Nat.zero_le _,by simp⟩ (by have:=za4;simp only;omega)]
 rfl
theorem zfp {u v:List Int} (hu:SmW u) (hv:SmW v):zff u v=some (u++v):=by
 unfold zff;unfold SmW at hu hv;rw [zl8 [u,v] (by simp) (by simp;omega)];simp
theorem zjj {l:List (List Int)} (hl:SmL l):zd6 l=some l:=by
 have hl1:l.length≤2000000:=hl.1;unfold zd6
 rw [zdy (r:=l) (fun s=>s.2≤l.length∧s.1=l.take s.2) (fun s=>l.length-s.2) (fun s ⟨h1,h2⟩=>by
  simp only [zd6.s2]
  by_cases h3:s.2<l.length
  ·left
   have hx:=get_at h3
   refine ⟨(l.take (s.2+1),s.2+1),?_,⟨by omega,rfl⟩,by simp only;omega⟩
   rw [zbw hx,zkD,zaq hx,zfp (hl.2 _ (List.getElem_mem _)) (by simp [SmW])]
   simp only [zan]
   rw [zav (by rw [h2,List.length_take];unfold zbm;omega),zbp hx,h2,List.append_nil]
  ·right
   have e:s.2=l.length:=by omega
   rw [zkA (by omega),zkC,h2,e,List.take_length]) (s:=([],0)) ⟨Nat.zero_le _,by simp⟩ (by have:=za4;simp only;omega)]
 rfl
theorem zoh (a b:List (List Int)):[a,b].flatten=a++b:=by simp
theorem zjy {a b:List (List Int)} (h:a.length+b.length≤2000000) (ha:SmL a) (hb:SmL b):SmL (a++b) :=
 ⟨by rw [zkJ];exact h,fun x hx=>(List.mem_append.1 hx).elim (ha.2 x) (hb.2 x)⟩
theorem zsf:SmL []:=⟨by simp,fun x hx=>by cases hx⟩
theorem zwm {t:zac} {p s:List (List Int)} (h1:SmL t.Prefixes) (h2:SmL t.Suffixes) (hp:SmL p) (hs:SmL s) (h3:t.Prefixes.length+p.length≤2000000) (h4:t.Suffixes.length+s.length≤2000000) :
  zop t p s=some ⟨t.Inputs,sortW (t.Prefixes++p),sortW (t.Suffixes++s)⟩:=by
 unfold zop;rw [zjj h1,zjj h2,zjj hp,zjj hs];simp only [zan];rw [znv (by simp) (by rw [zoh];exact zjy h3 h1 hp),znv (by simp) (by rw [zoh];exact zjy h4 h2 hs),zoh,zoh];rfl
def zxd (t:zac) (p s:List (List Int)):zac×Int :=
 if zdn ⟨t.Inputs,sortW (t.Prefixes++p),sortW (t.Suffixes++s)⟩≠0 then (t,zdn ⟨t.Inputs,sortW (t.Prefixes++p),sortW (t.Suffixes++s)⟩) else (⟨t.Inputs,sortW (t.Prefixes++p),sortW (t.Suffixes++s)⟩,0)
def zij (t:zac) (w:List Int):zac×Int :=
 if zdn t≠0 then (t,zdn t) else if zbn w t.Inputs≠0 then (t,zbn w t.Inputs) else zxd t (sortW (preL [w])) []
def zhi (t:zac) (w:List Int):zac×Int :=
 if zdn t≠0 then (t,zdn t) else if w.length=0 then (t,19) else if zbn w t.Inputs≠0 then (t,zbn w t.Inputs) else zxd t [] [w]
theorem smt_grow {t:zac} {p s:List (List Int)} (ht:SmT t) (hp:SmL p) (hs:SmL s) (h3:t.Prefixes.length+p.length≤2000000) (h4:t.Suffixes.length+s.length≤2000000) (hr:∀ x∈p,∀ a∈x,inR a) :
  SmT ⟨t.Inputs,sortW (t.Prefixes++p),sortW (t.Suffixes++s)⟩ :=
 ⟨ht.1,zkn (zjy h3 ht.2.1 hp),zkn (zjy h4 ht.2.2.1 hs),fun x hx=>by
  rcases List.mem_append.1 ((zdd _ _).1 hx) with h | h
  ·exact ht.2.2.2 x h
  ·exact hr x h⟩
theorem zor (w:List Int):preL [w]=prefixes w:=by simp [preL]
theorem sml_pre {w:List Int} (hw:w.length≤100000):SmL (preL [w]):=by
 rw [zor];refine ⟨by rw [zf7];omega,fun x hx=>?_⟩;unfold prefixes at hx;obtain ⟨k,_,rfl⟩:=List.mem_map.1 hx;show (w.take k).length≤2000000;rw [List.length_take];omega
theorem sml_one {w:List Int} (hw:w.length≤100000):SmL [w]:=⟨by simp,fun x hx=>by rcases List.mem_singleton.1 hx with rfl;show x.length≤2000000;omega⟩
theorem R23_Prefix_eq {t:zac} {w:List Int} (ht:SmT t) (hw:w.length≤100000) (hr:∀ a∈w,inR a) (h3:t.Prefixes.length+200000≤2000000):zlh t w=some (zij t w):=by
 unfold zlh zij
 have hpl:(sortW (preL [w])).length≤100001:=by
  have:=zhu (preL [w]);rw [zor,zf7] at this;rw [zor];omega
 have hsp:=zkn (sml_pre hw);rw [zht t ht,zfh w _ (by unfold SmW;omega),zwc (sml_one hw) (fun x hx=>by rcases List.mem_singleton.1 hx with rfl;omega) (sml_pre hw)];simp only [zan];by_cases h1:zdn t=0
 ·by_cases h2:zbn w t.Inputs=0
  ·rw [zkA (by simpa using h1),zkA (by simpa using h2),if_neg (by simpa using h1),if_neg (by simpa using h2),zkC,zkC];rw [zwm ht.2.1 ht.2.2.1 hsp zsf (by omega) (by have:=ht.2.2.1.1;simp;omega)];simp only [zan]
   have hg:=smt_grow (s:=[]) ht hsp zsf (by omega) (by have:=ht.2.2.1.1;simp;omega) (fun x hx a ha=>by
    have hx:=(zdd _ _).1 hx
    rw [zor] at hx
    unfold prefixes at hx
    obtain ⟨k,_,rfl⟩:=List.mem_map.1 hx
    exact hr a (List.mem_of_mem_take ha))
   rw [zht _ hg];unfold zxd;simp only [zan];by_cases h5:zdn ⟨t.Inputs,sortW (t.Prefixes++sortW (preL [w])),sortW (t.Suffixes++[])⟩=0
   ·rw [zkA (by simpa using h5),zkC,if_neg (by simpa using h5)]
   ·rw [zkB h5,zkD,if_pos h5]
  ·rw [zkA (by simpa using h1),zkB h2,if_neg (by simpa using h1),if_pos h2,zkC,zkD]
 ·rw [zkB h1,if_pos h1,zkD]
theorem R23_Suffix_eq {t:zac} {w:List Int} (ht:SmT t) (hw:w.length≤100000) (h3:t.Suffixes.length+200000≤2000000):zlj t w=some (zhi t w):=by
 unfold zlj zhi;rw [zht t ht,zfh w _ (by unfold SmW;omega)];simp only [zan];by_cases h1:zdn t=0
 ·rw [zkA (by simpa using h1),if_neg (by simpa using h1),zkC];by_cases h0:w.length=0
  ·rw [zkB (by omega),zkD,if_pos h0]
  ·rw [zkA (by omega),zkC,if_neg h0];by_cases h2:zbn w t.Inputs=0
   ·rw [zkA (by simpa using h2),if_neg (by simpa using h2),zkC];rw [zwm ht.2.1 ht.2.2.1 zsf (sml_one hw) (by have:=ht.2.1.1;simp;omega) (by simp;omega)];simp only [zan];have hg:=smt_grow (p:=[]) (s:=[w]) ht zsf (sml_one hw) (by have:=ht.2.1.1;simp;omega) (by simp;omega) (fun x hx=>by cases hx);rw [zht _ hg];unfold zxd;simp only [zan];by_cases h5:zdn ⟨t.Inputs,sortW (t.Prefixes++[]),sortW (t.Suffixes++[w])⟩=0
    ·rw [zkA (by simpa using h5),zkC,if_neg (by simpa using h5)]
    ·rw [zkB h5,zkD,if_pos h5]
   ·rw [zkB h2,if_pos h2,zkD]
 ·rw [zkB h1,if_pos h1,zkD]
theorem zwd (l:List (List Int)) (m:Int) (hl:l.length≤2000000):zf4 l m=some (decide (m<↑l.length)||!l.all fun x=>decide (x.length≤30)):=by
 unfold zf4;by_cases h:m<↑l.length
 ·rw [zkB h,zkD];rfl
 ·have key:=zce (step:=fun s=>zf4.s2 l s) (l:=l) (fun _ x=>if decide (x.length≤30)=true then none else some true) (fun i x hx=>by
   simp only [zf4.s2]
   rw [zbw hx,zkD,zaq hx]
   by_cases h1:x.length≤30
   ·rw [zkA (by omega),zkC,zkB h1];rfl
   ·rw [zkB (by omega),zkD,zkA h1];rfl) (by
   simp only [zf4.s2]
   rw [zcr]
   rfl) (by omega)
  rw [zkA h,zkC,key,zh8 (p:=fun (x:List Int)=>decide (x.length≤30))];cases (l.all fun x=>decide (x.length≤30))<;>rfl
def zv2 (t:zac) (o:zab):Bool :=
 decide (4<t.Inputs)||(decide (30<t.Prefixes.length)||!t.Prefixes.all fun x=>decide (x.length≤30))||(decide (12<t.Suffixes.length)||!t.Suffixes.all fun x=>decide (x.length≤30))||decide (400<o.Traces.length)||!o.Traces.all fun x=>decide (x.In.length≤90)
theorem L23_Great_eq (t:zac) (o:zab) (h1:t.Prefixes.length≤2000000) (h2:t.Suffixes.length≤2000000) (h3:o.Traces.length≤2000000):ze8 t o=some (zv2 t o):=by
 unfold ze8 zv2;rw [zwd _ _ h1,zwd _ _ h2];have e1:((30:Int)<↑t.Prefixes.length)↔30<t.Prefixes.length:=by omega
 have e2:((12:Int)<↑t.Suffixes.length)↔12<t.Suffixes.length:=by omega
 have e3:((400:Int)<↑o.Traces.length)↔400<o.Traces.length:=by omega
 simp only [e1,e2,e3,zan]
 have key:=zce (step:=fun s=>ze8.s2 o s) (l:=o.Traces) (fun _ x=>if decide (x.In.length≤90)=true then none else some true) (fun i x hx=>by
  simp only [ze8.s2]
  rw [zbw hx,zkD,zaq hx]
  by_cases h1:x.In.length≤90
  ·rw [zkA (by omega),zkC,zkB h1];rfl
  ·rw [zkB (by omega),zkD,zkA h1];rfl) (by
  simp only [ze8.s2]
  rw [zcr]
  rfl) (by omega)
 rw [key,zh8 (p:=fun (x:zaa)=>decide (x.In.length≤90))];cases decide (4<t.Inputs)<;>cases (decide (30<t.Prefixes.length)||!t.Prefixes.all fun x=>decide (x.length≤30))<;>cases (decide (12<t.Suffixes.length)||!t.Suffixes.all fun x=>decide (x.length≤30))<;>cases decide (400<o.Traces.length)<;>cases (o.Traces.all fun x=>decide (x.In.length≤90))<;>rfl
end
section
set_option maxRecDepth 100000
def SmO (o:zab):Prop:=o.Traces.length≤1100000∧∀ t∈o.Traces,t.In.length≤1100000∧t.Out.length≤2000000
theorem zfu (w p:List Int) (hw:SmW w):zdp w p=some (decide (p <+: w)):=by
 unfold zdp;rw [zhz w p hw,zan];congr 1;exact decide_eq_decide.2 (by rw [← zrt w p];omega)
theorem zxh (a b:List Int) (ha:SmW a):zeb a b=some (za9 a b:Int):=by
 have ha':a.length≤2000000:=ha;have hle:=zoc a b;unfold zeb
 have key:=zbq (step:=fun k=>zeb.s2 a b k) (fun k=>k≤a.length∧k≤b.length∧za9 a b=za9 (a.drop k) (b.drop k)+k) (fun k=>a.length-k) (fun r=>Sum.elim (fun (_:Unit)=>some (min (↑(List.length a):Int) (↑(List.length b):Int))) some r=some (za9 a b:Int)) (fun k ⟨h1,h2,h3⟩=>by
  simp only [zeb.s2]
  by_cases h4:k<a.length∧k<b.length
  ·have hx:=get_at h4.1
   have hy:=get_at h4.2
   rw [zkB (show (↑k:Int)<min (↑(List.length a):Int) (↑(List.length b):Int) by omega),zkD,zaq hx,zaq hy]
   rw [List.drop_eq_getElem_cons h4.1,List.drop_eq_getElem_cons h4.2] at h3
   by_cases e:a[k]=b[k]
   ·left
    refine ⟨k+1,by simp [e],⟨h4.1,h4.2,?_⟩,by omega⟩
    rw [h3,e]
    simp [za9]
    omega
   ·right
    simp only [za9,e,if_false,Nat.zero_add] at h3
    exact ⟨.inr (k:Int),by simp [e],by rw [h3];rfl⟩
  ·right
   rw [zkA (by omega),zkC]
   refine ⟨.inl (),rfl,?_⟩
   rw [zsb (by omega),Nat.zero_add] at h3
   simp only [Sum.elim_inl]
   congr 1
   omega) fuel 0 ⟨Nat.zero_le _,Nat.zero_le _,by simp⟩ (by have:=za4;omega)
 obtain ⟨r,e,hq⟩:=key;rw [e];exact hq
theorem zgk (w p:List Int) (hw:SmW w):zem w p=some (decide (p <+: w)):=by
 unfold zem;rw [zxh w p hw,zan];congr 1;exact decide_eq_decide.2 (by rw [← zrt w p];omega)
def zo2 (n:Int) (t:zaa):Prop:=zbn t.In n=0∧t.Out.length=t.In.length∧∀ y∈t.Out,0≤y∧y≤1048576
theorem zxp (t:zaa) (n:Int) (h1:SmW t.In) (h2:SmW t.Out):∃ e,zcz t n=some e∧(e=0→zo2 n t):=by
 unfold zcz;rw [zfh _ _ h1,zan];by_cases g1:zbn t.In n=0
 ·rw [zkA (by simpa using g1),zkC];by_cases g2:t.Out.length=t.In.length
  ·rw [zkA (by omega),zkC]
   have key:=zce (step:=fun s=>zcz.s2 t s) (l:=t.Out) (fun _ y=>if decide (0≤y∧y≤1048576)=true then none else some (2:Int)) (fun i y hy=>by
    simp only [zcz.s2]
    rw [zbw hy,zkD,zaq hy,zaq hy]
    by_cases a1:y<0
    ·rw [zkB a1,zkD,zan,zkD,zkA (show ¬ (0≤y∧y≤1048576) by omega)];rfl
    ·by_cases a2:1048576<y
     ·rw [zkA a1,zkC,zkB a2,zan,zkD,zkA (show ¬ (0≤y∧y≤1048576) by omega)];rfl
     ·rw [zkA a1,zkC,zkA a2,zan,zkC,zkB (show (0≤y∧y≤1048576) by omega)];rfl) (by
    simp only [zcz.s2]
    rw [zcr]
    rfl) (by unfold SmW at h2;omega)
   rw [key,zh8 (p:=fun y=>decide (0≤y∧y≤1048576))];by_cases h:(t.Out.all fun y=>decide (0≤y∧y≤1048576))=true
   ·rw [if_pos h];exact ⟨0,rfl,fun _=>⟨g1,g2,fun y hy=>of_decide_eq_true (List.all_eq_true.1 h y hy)⟩⟩
   ·rw [if_neg h];exact ⟨2,rfl,fun e=>by cases e⟩
  ·rw [zkB (by omega),zkD];exact ⟨1,rfl,fun e=>by cases e⟩
 ·rw [zkB g1,zkD];exact ⟨_,rfl,fun e=>absurd e g1⟩
def Agree (a b:zaa):Prop:=a.Out.take (za9 a.In b.In)=b.Out.take (za9 a.In b.In)
theorem zxg (a b:zaa) {n:Int} (ha:zo2 n a) (hb:zo2 n b) (h1:SmW a.In):∃ d,zdg a b=some d∧(¬ 0≤d→Agree a b):=by
 have h1':a.In.length≤2000000:=h1;have hc:=zoc a.In b.In;have la:=ha.2.1;have lb:=hb.2.1;unfold zdg;rw [zhz _ _ h1,zan]
 have key:=zbq (step:=fun k=>zdg.s2 a b (↑(za9 a.In b.In):Int) k) (fun k=>k≤za9 a.In b.In∧a.Out.take k=b.Out.take k) (fun k=>za9 a.In b.In-k) (fun r=>match r with | .inl ()=>Agree a b | .inr d=>0≤d) (fun k ⟨g1,g2⟩=>by
  simp only [zdg.s2]
  by_cases g3:k<za9 a.In b.In
  ·have hx:=get_at (l:=a.Out) (i:=k) (by omega)
   have hy:=get_at (l:=b.Out) (i:=k) (by omega)
   rw [zkB (by omega),zkD,zaq hx,zaq hy]
   by_cases e:a.Out[k]'(by omega)=b.Out[k]'(by omega)
   ·left
    refine ⟨k+1,by rw [zkA (by simpa using e),zkC,zav (by unfold inR;omega)],⟨g3,?_⟩,by omega⟩
    rw [zbp hx,zbp hy,g2,e]
   ·right
    exact ⟨.inr (k:Int),by rw [zkB e,zkD],by simp⟩
  ·right
   have e:k=za9 a.In b.In:=by omega
   subst e
   exact ⟨.inl (),by rw [zkA (by omega),zkC],g2⟩) fuel 0 ⟨Nat.zero_le _,by simp⟩ (by have:=za4;omega)
 obtain ⟨r,e,hq⟩:=key;rw [e];cases r with
 | inl u=>exact ⟨-1,rfl,fun _=>hq⟩
 | inr d=>exact ⟨d,rfl,fun h=>absurd hq h⟩
structure zc2 (o:zab):Prop where
 inp:1≤o.Inputs∧o.Inputs≤64
 num:o.Traces.length≤10000
 prop:∀ t∈o.Traces,zo2 o.Inputs t∧t.In≠[]
 asc:∀ (i j:Nat) a b,i<j→o.Traces[i]?=some a→o.Traces[j]?=some b→cmpW a.In b.In=-1
 apart:∀ (i j:Nat) a b,i<j→o.Traces[i]?=some a→o.Traces[j]?=some b→¬ a.In <+: b.In∧Agree a b
theorem R16_apart_tot (o:zab) (ho:SmO o) (hp:∀ t∈o.Traces,zo2 o.Inputs t):∃ e,zco o=some e∧(e=0→∀ (i j:Nat) a b,i<j→o.Traces[i]?=some a→o.Traces[j]?=some b→¬ a.In <+: b.In∧Agree a b):=by
 obtain ⟨hl,hs⟩:=ho;unfold zco
 have inner:∀ (i:Nat) (a:zaa),o.Traces[i]?=some a→∃ p c,iter (fun (s:Bool×Bool×Nat)=>zco.s30 o i s.1 s.2.1 s.2.2) fuel (false,false,i+1)=some (p,c)∧(p=false→c=false→∀ j b,i<j→o.Traces[j]?=some b→¬ a.In <+: b.In∧Agree a b):=by
  intro i a ha;have hi:=(zkI.1 ha).1;have ham:=zkH ha
  have key:=zbq (step:=fun (s:Bool×Bool×Nat)=>zco.s30 o i s.1 s.2.1 s.2.2) (fun s=>i<s.2.2∧s.2.2≤o.Traces.length∧(s.1=false→s.2.1=false→∀ j b,i<j→j<s.2.2→o.Traces[j]?=some b→¬ a.In <+: b.In∧Agree a b)) (fun s=>o.Traces.length-s.2.2) (fun r=>r.1=false→r.2=false→∀ j b,i<j→o.Traces[j]?=some b→¬ a.In <+: b.In∧Agree a b) (fun s ⟨g1,g2,g3⟩=>by
   obtain ⟨p,c,k⟩:=s
   simp only at g1 g2 g3
   simp only [zco.s30]
   by_cases g4:k<o.Traces.length
   ·left
    have hx:=get_at g4
    have hxm:=List.getElem_mem g4
    have sx:SmW o.Traces[k].In:=by have:=(hs _ hxm).1;unfold SmW;omega
    have sa:SmW a.In:=by have:=(hs _ ham).1;unfold SmW;omega
    obtain ⟨d,hd,hd2⟩:=zxg a o.Traces[k] (hp a ham) (hp _ hxm) sa
    have hc1:(cond p (some true) (idxn o.Traces k fun e743=>idxn o.Traces i fun e744=>(zdp e743.In e744.In).bind fun c745=>some c745):Option Bool)=some (p||decide (a.In <+: o.Traces[k].In)):=by
     cases p with
     | true=>rfl
     | false =>
      rw [zkC,zaq hx,zaq ha,zfu _ _ sx,zan]
      rfl
    rw [zbw hx,zkD,hc1,zan]
    cases c with
    | true =>
     refine ⟨(p||decide (a.In <+: o.Traces[k].In),true,k+1),rfl,⟨by simp only;omega,by simp only;omega,fun _ h=>by cases h⟩,by simp only;omega⟩
    | false =>
     rw [zkC,zaq ha,zaq hx,hd,zan]
     refine ⟨(p||decide (a.In <+: o.Traces[k].In),decide (0≤d),k+1),rfl,⟨by simp only;omega,by simp only;omega,fun h1 h2 j b hj1 hj2 hb=>?_⟩,by simp only;omega⟩
     simp only [Bool.or_eq_false_iff] at h1
     rcases Nat.lt_or_ge j k with h | h
     ·exact g3 h1.1 rfl j b hj1 h hb
     ·simp only at hj2
      have e:j=k:=by omega
      subst e
      rw [hx] at hb
      injection hb with hb
      subst hb
      exact ⟨of_decide_eq_false h1.2,hd2 (of_decide_eq_false h2)⟩
   ·right
    have e:k=o.Traces.length:=by omega
    refine ⟨(p,c),by rw [zkA (by omega),zkC],fun h1 h2 j b hj hb=>g3 h1 h2 j b hj ?_ hb⟩
    have:=(zkI.1 hb).1
    omega) fuel (false,false,i+1) ⟨by simp only;omega,by simp only;omega,fun _ _ j b h1 h2=>by simp only at h2;omega⟩ (by have:=za4;simp only;omega)
  obtain ⟨⟨p,c⟩,e,hq⟩:=key;exact ⟨p,c,e,hq⟩
 have key:=zbq (step:=fun i=>zco.s32 o i) (fun i=>i≤o.Traces.length∧∀ i' j a b,i'<i→i'<j→o.Traces[i']?=some a→o.Traces[j]?=some b→¬ a.In <+: b.In∧Agree a b) (fun i=>o.Traces.length-i) (fun r=>match r with | .inl ()=>∀ (i j:Nat) a b,i<j→o.Traces[i]?=some a→o.Traces[j]?=some b→¬ a.In <+: b.In∧Agree a b | .inr e=>e≠0) (fun i ⟨g1,g2⟩=>by
  simp only [zco.s32]
  by_cases g3:i<o.Traces.length
  ·have hx:=get_at g3
   obtain ⟨p,c,e,hq⟩:=inner i _ hx
   rw [zbw hx,zkD,e,zan]
   simp only [zco.k31]
   cases p with
   | true=>exact .inr ⟨.inr 7,rfl,(show (7:Int)≠0 by decide)⟩
   | false =>
    cases c with
    | true=>exact .inr ⟨.inr 13,rfl,(show (13:Int)≠0 by decide)⟩
    | false =>
     left
     refine ⟨i+1,rfl,⟨g3,fun i' j a b h1 h2 ha hb=>?_⟩,by omega⟩
     rcases Nat.lt_or_ge i' i with h | h
     ·exact g2 i' j a b h h2 ha hb
     ·have e:i'=i:=by omega
      subst e
      rw [hx] at ha
      injection ha with ha
      subst ha
      exact hq rfl rfl j b h2 hb
  ·right
   refine ⟨.inl (),by rw [zkA (by omega),zkC],fun i' j a b h ha hb=>g2 i' j a b ?_ h ha hb⟩
   have:=(zkI.1 ha).1
   omega) fuel 0 ⟨Nat.zero_le _,fun i' j a b h=>by omega⟩ (by have:=za4;omega)
 obtain ⟨r,e,hq⟩:=key;rw [e];cases r with
 | inl u=>exact ⟨0,rfl,fun _=>hq⟩
 | inr e'=>exact ⟨e',rfl,fun h=>absurd h hq⟩
theorem R16_Valid_tot (o:zab) (ho:SmO o):∃ e,zfy o=some e∧(e=0→zc2 o):=by
 obtain ⟨hl,hs⟩:=ho;unfold zfy;by_cases h1:o.Inputs<1
 ·rw [zkB h1,zkD,zan,zkD];exact ⟨2,rfl,fun e=>by cases e⟩
 by_cases h2:64<o.Inputs
 ·rw [zkA h1,zkC,zkB h2,zan,zkD];exact ⟨2,rfl,fun e=>by cases e⟩
 rw [zkA h1,zkC,zkA h2,zan,zkC];by_cases h3:10000<o.Traces.length
 ·rw [zkB (by omega),zkD];exact ⟨11,rfl,fun e=>by cases e⟩
 rw [zkA (by omega),zkC]
 have key:=zbq (step:=fun i=>zfy.s2 o i) (fun i=>i≤o.Traces.length∧(∀ j t,j<i→o.Traces[j]?=some t→zo2 o.Inputs t∧t.In≠[])∧∀ j a b,j+1<i→o.Traces[j]?=some a→o.Traces[j+1]?=some b→cmpW a.In b.In=-1) (fun i=>o.Traces.length-i)
  (fun r=>match r with | .inl ()=>(∀ t∈o.Traces,zo2 o.Inputs t∧t.In≠[])∧∀ (j:Nat) a b,o.Traces[j]?=some a→o.Traces[j+1]?=some b→cmpW a.In b.In=-1 | .inr e=>e≠0) (fun i ⟨g1,g2,g3⟩=>by
  simp only [zfy.s2]
  by_cases g4:i<o.Traces.length
  ·have hx:=get_at g4
   have hxm:=List.getElem_mem g4
   have sx:SmW o.Traces[i].In:=by have:=(hs _ hxm).1;unfold SmW;omega
   obtain ⟨e,he,he2⟩:=zxp o.Traces[i] o.Inputs sx (hs _ hxm).2
   rw [zbw hx,zkD,zaq hx,zfh _ _ sx,zan]
   by_cases g5:zbn o.Traces[i].In o.Inputs=0
   ·rw [zkA (by simpa using g5),zkC]
    by_cases g6:o.Traces[i].In.length=0
    ·rw [zkB (by omega),zkD]
     exact .inr ⟨.inr 19,rfl,(show (19:Int)≠0 by decide)⟩
    ·rw [zkA (by omega),zkC,he,zan]
     by_cases g7:e=0
     ·rw [zkA (by simpa using g7),zkC]
      have hP:=he2 g7
      have fin:∀ b:Bool,(b=false→0<i→∀ a,o.Traces[i-1]?=some a→cmpW a.In o.Traces[i].In=-1)→(∃ s',(some b).bind (fun (y160:Bool)=>cond y160 (some (.inr (.inr 10))) (some (.inl (i+1))))=some (.inl s':Nat⊕(Unit⊕Int))∧(s'≤o.Traces.length∧(∀ j t,j<s'→o.Traces[j]?=some t→zo2 o.Inputs t∧t.In≠[])∧∀ j a b,j+1<s'→o.Traces[j]?=some a→o.Traces[j+1]?=some b→cmpW a.In b.In=-1)∧o.Traces.length-s'<o.Traces.length-i)∨∃ r,(some b).bind (fun (y160:Bool)=>cond y160 (some (.inr (.inr 10))) (some (.inl (i+1))))=some (.inr r:Nat⊕(Unit⊕Int))∧(match r with | .inl ()=>(∀ t∈o.Traces,zo2 o.Inputs t∧t.In≠[])∧∀ (j:Nat) a b,o.Traces[j]?=some a→o.Traces[j+1]?=some b→cmpW a.In b.In=-1 | .inr e=>e≠0):=by
       intro b hb
       cases b with
       | true=>exact .inr ⟨.inr 10,rfl,(show (10:Int)≠0 by decide)⟩
       | false =>
        left
        refine ⟨i+1,rfl,⟨g4,fun j t hj ht=>?_,fun j a b hj ha hb'=>?_⟩,by omega⟩
        ·rcases Nat.lt_or_ge j i with h | h
         ·exact g2 j t h ht
         ·have ej:j=i:=by omega
          subst ej
          rw [hx] at ht
          injection ht with ht
          subst ht
          exact ⟨hP,fun e=>g6 (by rw [e];rfl)⟩
        ·rcases Nat.lt_or_ge (j+1) i with h | h
         ·exact g3 j a b h ha hb'
         ·have ej:j+1=i:=by omega
          subst ej
          rw [hx] at hb'
          injection hb' with hb'
          subst hb'
          exact hb rfl (by omega) a (by simpa using ha)
      by_cases g8:0<i
      ·have hpv:=get_at (l:=o.Traces) (i:=i-1) (by omega)
       have sp:SmW (o.Traces[i-1]'(by omega)).In:=by have:=(hs _ (List.getElem_mem (show i-1<o.Traces.length by omega))).1;unfold SmW;omega
       rw [zkB (by omega),zkD,zb2 (i:=i-1) (by omega) hpv,zg2 _ _ sp,zan]
       refine fin _ fun hb _ a ha=>?_
       rw [hpv] at ha
       injection ha with ha
       subst ha
       have h5:=of_decide_eq_false hb
       have:=zhm (o.Traces[i-1]'(by omega)).In o.Traces[i].In
       omega
      ·rw [zkA (by omega),zkC]
       exact fin false fun _ h=>absurd h g8
     ·rw [zkB g7,zkD]
      exact .inr ⟨.inr e,rfl,g7⟩
   ·rw [zkB g5,zkD]
    exact .inr ⟨.inr _,rfl,g5⟩
  ·right
   refine ⟨.inl (),by rw [zkA (by omega),zkC],fun t ht=>?_,fun j a b ha hb=>g3 j a b ?_ ha hb⟩
   ·obtain ⟨j,hj,rfl⟩:=List.mem_iff_getElem.1 ht
    exact g2 j _ (by omega) (get_at hj)
   ·have:=(zkI.1 hb).1
    omega) fuel 0 ⟨Nat.zero_le _,fun j t h=>by omega,fun j a b h=>by omega⟩ (by have:=za4;omega)
 obtain ⟨r,e,hq⟩:=key;rw [e,zan];cases r with
 | inr e'=>exact ⟨e',rfl,fun h=>absurd h hq⟩
 | inl u =>
  obtain ⟨hp,hone⟩:=hq;obtain ⟨e',he,he2⟩:=R16_apart_tot o ⟨hl,hs⟩ fun t ht=>(hp t ht).1;simp only [Sum.elim_inl];rw [he,zan];refine ⟨e',rfl,fun h=>⟨by omega,by omega,hp,?_,he2 h⟩⟩
  have key:∀ (d i:Nat) a b,o.Traces[i]?=some a→o.Traces[i+d+1]?=some b→cmpW a.In b.In=-1:=by
   intro d
   induction d with
   | zero=>exact fun i a b=>hone i a b
   | succ d ih =>
    intro i a b ha hb;have hj:=(zkI.1 hb).1;have hm:=get_at (l:=o.Traces) (i:=i+d+1) (by omega);exact zgl _ _ _ (ih i a _ ha hm) (hone _ _ _ hm (by rw [show i+d+1+1=i+(d+1)+1 by omega];exact hb))
  intro i j a b hij ha hb;exact key (j-i-1) i a b ha (by rw [show i+(j-i-1)+1=j by omega];exact hb)
end
section
set_option maxRecDepth 100000
def ansO (o:zab) (w:List Int):Option (List Int) :=
 if w=[] then some [] else (o.Traces.find? fun t=>decide (w <+: t.In)).map fun t=>t.Out.take w.length
abbrev tw {α:Type} (x:Option (List α)):List α×Bool:=match x with | some r=>(r,true) | none=>([],false)
theorem zyb {o:zab} (ho:SmO o) {t:zaa} (h:t∈o.Traces):SmW t.In:=by
 have:=(ho.2 t h).1;unfold SmW;omega
theorem zug {p w:List Int} (h:p <+: w):p.length≤w.length:=h.length_le
theorem zq6 {o:zab} {w:List Int} (ho:SmO o) (hv:zc2 o):zd8 o w=some (tw (ansO o w)):=by
 have hl:=ho.1;unfold zd8 ansO;by_cases h0:w=[]
 ·subst h0;rfl
 ·rw [if_neg h0,zkA (by
   intro h
   exact h0 (List.eq_nil_of_length_eq_zero (by omega))),zkC]
  have key:=zce (step:=fun i=>zd8.s2 o w i) (l:=o.Traces) (fun _ t=>if w <+: t.In then some (t.Out.take w.length,true) else none) (fun i t ht=>by
   have htm:=zkH ht
   have hP:=(hv.prop t htm).1
   simp only [zd8.s2]
   rw [zbw ht,zkD,zaq ht,zfu _ _ (zyb ho htm),zan]
   by_cases h:w <+: t.In
   ·have hlen:=zug h
    have:=hP.2.1
    have h2:=(ho.2 t htm).1
    rw [zkB h,zkD,zaq ht,zav (by omega),zl8 _ (by simp) (by simp;omega),zan,if_pos h]
    simp
   ·rw [zkA h,zkC,if_neg h]) (by
   simp only [zd8.s2]
   rw [zcr]
   rfl) (by omega)
  rw [key,zan]
  have key2:∀ (l:List zaa) (j:Nat),scan (fun _ t=>if w <+: t.In then some (t.Out.take w.length,true) else none) j l=((l.find? fun t=>decide (w <+: t.In)).map fun t=>t.Out.take w.length).map fun r=>(r,true):=by
   intro l
   induction l with
   | nil=>intro j;rfl
   | cons t l ih =>
    intro j;unfold scan;by_cases h:w <+: t.In
    ·rw [if_pos h,List.find?_cons_of_pos (by simpa using h)];rfl
    ·rw [if_neg h,List.find?_cons_of_neg (by simpa using h)];exact ih _
  rw [key2];cases (o.Traces.find? fun t=>decide (w <+: t.In)).map fun t=>t.Out.take w.length<;>rfl
def zs2 (o:zab) (F:List zaa):Prop:=F.Perm o.Traces∧F.Pairwise fun a b=>lexI a.In b.In=-1
theorem in_inj {o:zab} (hv:zc2 o) {a b:zaa} (ha:a∈o.Traces) (hb:b∈o.Traces) (h:a.In=b.In):a=b:=by
 obtain ⟨i,hi,rfl⟩:=List.mem_iff_getElem.1 ha;obtain ⟨j,hj,rfl⟩:=List.mem_iff_getElem.1 hb;rcases Nat.lt_trichotomy i j with hlt | heq | hgt
 ·have:=hv.asc i j _ _ hlt (get_at hi) (get_at hj);rw [h,zga] at this;cases this
 ·subst heq;rfl
 ·have:=hv.asc j i _ _ hgt (get_at hj) (get_at hi);rw [h,zga] at this;cases this
theorem zmo {o:zab} (ho:SmO o) (hv:zc2 o):∃ F,zik o=some F∧zs2 o F:=by
 have hl:=ho.1
 have hf:∀ a∈o.Traces,∀ b∈o.Traces,zcd a b=some (lexI a.In b.In):=fun a ha b hb=>by
  unfold zcd;rw [zkg _ _ (by have:=zyb ho ha;unfold SmW at this;omega),zan]
 have htot:totB (fun u0 u1=>zcd u0 u1) o.Traces=true:=by
  refine List.all_eq_true.2 fun a ha=>List.all_eq_true.2 fun b hb=>?_;simp only [hf a ha b hb,hf b hb a ha,Bool.and_eq_true];refine ⟨⟨⟨?_,?_⟩,?_⟩,List.all_eq_true.2 fun c hc=>?_⟩
  ·rw [beq_iff_eq];have:=zkh a.In b.In;exact decide_eq_decide.2 ⟨fun h=>in_inj hv ha hb (this.1 h),fun h=>this.2 (by rw [h])⟩
  ·rw [beq_iff_eq];have:=ziy a.In b.In;exact decide_eq_decide.2 (by omega)
  ·have:=zgn a.In b.In;exact zkB (by omega)
  ·rw [hf b hb c hc,hf a ha c hc];have r1:=zgn a.In b.In;have r2:=zgn b.In c.In;by_cases h1:lexI a.In b.In<0
   ·by_cases h2:lexI b.In c.In<0
    ·have:=zjt a.In b.In c.In (by omega) (by omega);simp [h1,h2,this]
    ·simp [h1,h2]
   ·simp [h1]
 refine ⟨zg4 (fun u0 u1=>zcd u0 u1) o.Traces,?_,zep _ _,?_⟩
 ·unfold zik zja zo1 zhj zsk;rw [zav (by unfold zbm;omega),zan,zav (by omega),htot];rfl
 ·have T:=totB_iff htot;have h:=zjl T;have hperm:=zep (fun u0 u1=>zcd u0 u1) o.Traces
  have hnd:(zg4 (fun u0 u1=>zcd u0 u1) o.Traces).Nodup:=by
   refine hperm.nodup_iff.2 ?_;rw [List.Nodup,List.pairwise_iff_getElem];intro i j hi hj hij e;have:=hv.asc i j _ _ hij (get_at hi) (get_at hj);rw [e,zga] at this;cases this
  rw [List.pairwise_iff_getElem] at h ⊢;rw [List.Nodup,List.pairwise_iff_getElem] at hnd;intro i j hi hj hij;have h1:=h i j hi hj hij;have hne:=hnd i j hi hj hij;have m1:=hperm.mem_iff.1 (List.getElem_mem hi);have m2:=hperm.mem_iff.1 (List.getElem_mem hj);unfold NGt cfv at h1;simp only [hf _ m2 _ m1,Option.getD_some] at h1;have r:=zgn (zg4 (fun u0 u1=>zcd u0 u1) o.Traces)[j].In (zg4 (fun u0 u1=>zcd u0 u1) o.Traces)[i].In;have s:=ziy (zg4 (fun u0 u1=>zcd u0 u1) o.Traces)[j].In (zg4 (fun u0 u1=>zcd u0 u1) o.Traces)[i].In;have z:=zkh (zg4 (fun u0 u1=>zcd u0 u1) o.Traces)[j].In (zg4 (fun u0 u1=>zcd u0 u1) o.Traces)[i].In;have hz:¬ lexI (zg4 (fun u0 u1=>zcd u0 u1) o.Traces)[j].In (zg4 (fun u0 u1=>zcd u0 u1) o.Traces)[i].In=0:=fun e=>hne (in_inj hv m1 m2 (z.1 e).symm);omega
theorem search_eq {F:List zaa} {w:List Int} (hs:F.Pairwise fun a b=>lexI a.In b.In=-1) (hl:F.length≤2000000) (hw:∀ t∈F,SmW t.In) :
  ∃ k:Nat,∃ b,zap F w (fun u0 u1=>zcc u0 u1)=some ((↑k:Int),b)∧k≤F.length∧(∀ j t,j<k→F[j]?=some t→lexI t.In w=-1)∧∀ t,F[k]?=some t→lexI t.In w≠-1:=by
 have hc:∀ t∈F,zcc t w=some (lexI t.In w):=fun t ht=>by
  unfold zcc;rw [zkg _ _ (by have:=hw t ht;unfold SmW at this;omega),zan]
 have hlt:∀ {i j:Nat} {a b:zaa},i<j→F[i]?=some a→F[j]?=some b→lexI a.In b.In=-1:=fun {i j a b} hij ha hb=>by
  obtain ⟨hi,rfl⟩:=zkI.1 ha;obtain ⟨hj,rfl⟩:=zkI.1 hb;exact List.pairwise_iff_getElem.1 hs i j hi hj hij
 have key:=zbq (step:=fun (s:Int×Int)=>zap.s2 F w (fun u0 u1=>zcc u0 u1) s.1 s.2)
  (fun s=>∃ i j:Nat,s.1=(i:Int)∧s.2=(j:Int)∧i≤j∧j≤F.length∧(∀ k t,k<i→F[k]?=some t→lexI t.In w=-1)∧∀ k t,j≤k→F[k]?=some t→lexI t.In w≠-1) (fun s=>(s.2-s.1).toNat)
  (fun r=>∃ k:Nat,r=(k:Int)∧k≤F.length∧(∀ j t,j<k→F[j]?=some t→lexI t.In w=-1)∧∀ t,F[k]?=some t→lexI t.In w≠-1) (fun s ⟨i,j,g1,g2,g3,g4,g5,g6⟩=>by
   obtain ⟨si,sj⟩:=s
   simp only at g1 g2
   subst g1 g2
   simp only [zap.s2]
   by_cases g7:i<j
   ·left
    have hmid:((↑i:Int)+↑j) / 2^1=((i+j) / 2:Nat):=by omega
    have hx:=get_at (l:=F) (i:=(i+j) / 2) (by omega)
    rw [zkB (by omega),zkD,zav (by unfold inR;omega),zav (by omega),zav (by omega),zav (by unfold inR;omega),zb2 hmid hx,hc _ (List.getElem_mem _),zan]
    have r:=zgn (F[(i+j) / 2]'(by omega)).In w
    by_cases g8:lexI (F[(i+j) / 2]'(by omega)).In w<0
    ·refine ⟨(((i+j) / 2+1:Nat),(j:Int)),?_,⟨(i+j) / 2+1,j,rfl,rfl,by omega,g4,fun k t hk ht=>?_,g6⟩,by simp only;omega⟩
     ·rw [zkB g8,zkD,zav (by unfold inR;omega),hmid]
      simp
     ·rcases Nat.lt_or_ge k ((i+j) / 2) with h | h
      ·exact zjt _ _ _ (hlt h ht hx) (by omega)
      ·have e:k=(i+j) / 2:=by omega
       subst e
       rw [hx] at ht
       injection ht with ht
       subst ht
       omega
    ·refine ⟨((i:Int),(((i+j) / 2:Nat):Int)),?_,⟨i,(i+j) / 2,rfl,rfl,by omega,by omega,g5,fun k t hk ht=>?_⟩,by simp only;omega⟩
     ·rw [zkA g8,zkC,hmid]
     ·intro h9
      rcases Nat.lt_or_ge ((i+j) / 2) k with h | h
      ·have:=zjt _ _ _ (hlt h hx ht) h9
       omega
      ·have e:k=(i+j) / 2:=by omega
       subst e
       rw [hx] at ht
       injection ht with ht
       subst ht
       omega
   ·right
    have e:i=j:=by omega
    subst e
    refine ⟨(i:Int),by rw [zkA (by omega),zkC],i,rfl,g4,g5,fun t ht=>g6 i t (Nat.le_refl _) ht⟩) fuel (0,(↑(List.length F):Int)) ⟨0,F.length,rfl,rfl,Nat.zero_le _,Nat.le_refl _,fun k t h=>by omega,fun k t h ht=>by
    have:=(zkI.1 ht).1
    omega⟩ (by have:=za4;simp only;omega)
 obtain ⟨r,e,k,hk,h1,h2,h3⟩:=key;subst hk;unfold zap;rw [e,zan];by_cases h4:k<F.length
 ·have hx:=get_at h4;rw [zkB (by omega),zkD,zb2 rfl hx,show (fun (u0:zaa) (u1:List Int)=>zcc u0 u1) F[k] w=some (lexI F[k].In w) from hc _ (List.getElem_mem _),zan,zan];exact ⟨k,_,rfl,h1,h2,h3⟩
 ·rw [zkA (by omega),zkC,zan];exact ⟨k,_,rfl,h1,h2,h3⟩
theorem zmy {o:zab} {F:List zaa} {w:List Int} (ho:SmO o) (hv:zc2 o) (hF:zs2 o F):zd0 F w=some (tw (ansO o w)):=by
 obtain ⟨hp,hs⟩:=hF;have hFl:F.length≤1100000:=by rw [hp.length_eq];exact ho.1
 have hFm:∀ t∈F,t∈o.Traces:=fun t ht=>hp.mem_iff.1 ht;obtain ⟨k,b,e,h1,h2,h3⟩:=search_eq (w:=w) hs (by omega) fun t ht=>zyb ho (hFm t ht);unfold zd0 ansO;by_cases h0:w=[]
 ·subst h0;rfl
 ·have hwl:w.length≠0:=fun h=>h0 (List.eq_nil_of_length_eq_zero h);rw [if_neg h0,zkA (by omega),zkC,e,zan];simp only
  -- whatever trace begins with the word, the first one that is not before it does
  have hfirst:∀ t∈o.Traces,w <+: t.In→∃ u,F[k]?=some u∧w <+: u.In:=fun t ht hpre=>by
   have htF:t∈F:=hp.mem_iff.2 ht;obtain ⟨j,hj,rfl⟩:=List.mem_iff_getElem.1 htF
   have hge:lexI F[j].In w≠-1:=by
    by_cases hew:w=F[j].In
    ·rw [← hew,lexI_refl];decide
    ·have:=zsj w F[j].In hpre hew;have:=ziy w F[j].In;omega
   have hkj:k≤j:=by
    rcases Nat.lt_or_ge j k with h | h
    ·exact absurd (h2 j _ h (get_at hj)) hge
    ·exact h
   have hx:=get_at (l:=F) (i:=k) (by omega);refine ⟨_,hx,?_⟩;have hk1:=h3 _ hx;rcases Nat.lt_or_ge k j with h | h
   ·have hlt:lexI (F[k]'(by omega)).In F[j].In=-1:=List.pairwise_iff_getElem.1 hs k j (by omega) hj h;have r:=zgn (F[k]'(by omega)).In w;have s:=ziy (F[k]'(by omega)).In w;by_cases hz:lexI (F[k]'(by omega)).In w=0
    ·rw [(zkh _ _).1 hz];exact List.prefix_refl _
    ·exact zpm w _ _ (by omega) (Or.inr hlt) hpre
   ·have ej:j=k:=by omega
    subst ej;exact hpre
  cases hfd:o.Traces.find? fun t=>decide (w <+: t.In) with
  | none =>
   have hno:∀ t∈o.Traces,¬ w <+: t.In:=fun t ht=>by simpa using List.find?_eq_none.1 hfd t ht
   by_cases h4:k=F.length
   ·rw [zkB (by omega),zkD,zan,zkD];rfl
   ·have hx:=get_at (l:=F) (i:=k) (by omega);have hxm:=hFm _ (List.getElem_mem (show k<F.length by omega));rw [zkA (by omega),zkC,zb2 rfl hx,zgk _ _ (zyb ho hxm),zan,zkA (hno _ hxm)];rfl
  | some t =>
   have htm:=List.mem_of_find?_eq_some hfd;have hpre:w <+: t.In:=by simpa using List.find?_some hfd
   obtain ⟨u,hu,hpu⟩:=hfirst t htm hpre;have hum:=hFm u (zkH hu);have hku:=(zkI.1 hu).1;have lt:=(hv.prop t htm).1.2.1;have lu:=(hv.prop u hum).1.2.1;have p1:=zug hpre;have p2:=zug hpu
   -- both answer alike
   have hsame:u.Out.take w.length=t.Out.take w.length:=by
    by_cases hut:u=t
    ·rw [hut]
    ·have hag:∀ a∈o.Traces,∀ b∈o.Traces,a≠b→w <+: a.In→w <+: b.In→a.Out.take w.length=b.Out.take w.length:=by
      intro a ha b hb hab hwa hwb
      have hcm:w.length≤za9 a.In b.In:=by
       obtain ⟨x,hx⟩:=hwa;obtain ⟨y,hy⟩:=hwb;rw [← hx,← hy]
       have:∀ (w x y:List Int),w.length≤za9 (w++x) (w++y):=by
        intro w
        induction w with
        | nil=>intro x y;exact Nat.zero_le _
        | cons z w ih =>
         intro x y;have:=ih x y;simp only [List.cons_append,za9,if_true,zkL];omega
       exact this w x y
      have hred:∀ (a b:zaa),Agree a b→w.length≤za9 a.In b.In→a.Out.take w.length=b.Out.take w.length:=fun a b hA hle=>by
       have h5:=congrArg (List.take w.length) hA;rw [List.take_take,List.take_take,Nat.min_eq_left hle] at h5;exact h5
      obtain ⟨i,hi,rfl⟩:=List.mem_iff_getElem.1 ha;obtain ⟨j,hj,rfl⟩:=List.mem_iff_getElem.1 hb;rcases Nat.lt_trichotomy i j with hlt | heq | hgt
      ·exact hred _ _ (hv.apart i j _ _ hlt (get_at hi) (get_at hj)).2 hcm
      ·subst heq;rfl
      ·have hcs:w.length≤za9 o.Traces[j].In o.Traces[i].In:=by
        have:∀ a b:List Int,za9 a b=za9 b a:=by
         intro a
         induction a with
         | nil=>intro b;cases b<;>rfl
         | cons x a ih =>
          intro b;cases b with
          | nil=>rfl
          | cons y b =>
           simp only [za9];by_cases h:x=y
           ·subst h;simp [ih b]
           ·have h':¬ y=x:=fun e=>h e.symm;simp [h,h']
        rw [this];exact hcm
       exact (hred _ _ (hv.apart j i _ _ hgt (get_at hj) (get_at hi)).2 hcs).symm
     exact hag u hum t htm hut hpu hpre
   have hc:(cond (decide ((↑k:Int)=(↑(List.length F):Int))) (some true) (idx F (↑k:Int) fun e62=>(zem e62.In w).bind fun c63=>cond ((!c63)) (some true) (idx F (↑k:Int) fun e65=>some (decide ((↑(List.length e65.Out):Int)<(↑(List.length w):Int))))):Option Bool)=some false:=by
    rw [zkA (by omega),zkC,zb2 rfl hu,zgk _ _ (zyb ho hum),zan,zkB hpu,Bool.not_true,zkC,zb2 rfl hu,zkA (by omega)]
   rw [hc,zan,zkC,zb2 rfl hu,zav (by omega),hsame];rfl
end
section
set_option maxRecDepth 100000
theorem zkq {o:zab} (hv:zc2 o) {w r:List Int} (h:ansO o w=some r):r.length=w.length:=by
 unfold ansO at h;split at h
 ·rename_i h0;injection h with h
  rw [← h,h0]
 ·obtain ⟨t,ht,rfl⟩:=Option.map_eq_some_iff.1 h;have hm:=List.mem_of_find?_eq_some ht;have hp:w <+: t.In:=by simpa using List.find?_some ht
  have:=(hv.prop t hm).1.2.1;have:=zug hp;rw [List.length_take];omega
def rowO (o:zab) (w:List Int):List (List Int)→Option (List (List Int))
 | []=>some []
 | e::S=>match ansO o (w++e) with
  | none=>none
  | some r=>(rowO o w S).map fun l=>r.drop w.length::l
theorem rowO_drop {o:zab} {w:List Int} {S:List (List Int)} {k:Nat} {e:List Int} (h:S[k]?=some e):rowO o w (S.drop k)=match ansO o (w++e) with | none=>none | some r=>(rowO o w (S.drop (k+1))).map fun l=>r.drop w.length::l:=by
 obtain ⟨hk,rfl⟩:=zkI.1 h;rw [List.drop_eq_getElem_cons hk];rfl
theorem zmn {o:zab} {F:List zaa} {t:zac} {w:List Int} (ho:SmO o) (hv:zc2 o) (hF:zs2 o F) (hS:SmL t.Suffixes) (hw:SmW w):zb5 F t w=some (tw (rowO o w t.Suffixes)):=by
 have hS1:t.Suffixes.length≤2000000:=hS.1;have hw1:w.length≤2000000:=hw;unfold zb5
 have key:=zbq (step:=fun (s:List (List Int)×Nat)=>zb5.s2 F t w s.1 s.2) (fun s=>s.2≤t.Suffixes.length∧s.1.length=s.2∧rowO o w t.Suffixes=(rowO o w (t.Suffixes.drop s.2)).map (s.1++·)) (fun s=>t.Suffixes.length-s.2)
  (fun r=>Sum.elim (fun (y84:List (List Int))=>some (y84,true)) some r=some (tw (rowO o w t.Suffixes))) (fun s ⟨g1,g2,g3⟩=>by
   obtain ⟨y,k⟩:=s
   simp only at g1 g2 g3
   simp only [zb5.s2]
   by_cases g4:k<t.Suffixes.length
   ·have hx:=get_at g4
    have hxs:SmW t.Suffixes[k]:=hS.2 _ (List.getElem_mem _)
    have hx1:t.Suffixes[k].length≤2000000:=hxs
    rw [zbw hx,zkD,zaq hx,zfi _ (by simp) (by simp;omega),zan]
    simp only [List.flatten_cons,List.flatten_nil,List.append_nil]
    rw [zmy ho hv hF,zan]
    rw [rowO_drop hx] at g3
    cases ha:ansO o (w++t.Suffixes[k]) with
    | none =>
     right
     rw [ha] at g3
     refine ⟨.inr ([],false),rfl,?_⟩
     rw [g3]
     rfl
    | some r =>
     left
     rw [ha] at g3
     have hrl:=zkq hv ha
     rw [zkJ] at hrl
     have hd:SmW (r.drop w.length):=by unfold SmW;rw [List.length_drop];omega
     refine ⟨(y++[r.drop w.length],k+1),?_,⟨g4,by simp [g2],?_⟩,by simp only;omega⟩
     ·simp only [tw,Bool.not_true,zkC]
      rw [zav (by omega),zh4 hd,zan,zav (by unfold zbm;omega)]
     ·rw [g3,Option.map_map]
      simp only
      congr 1
      funext l
      simp
   ·right
    have e:k=t.Suffixes.length:=by omega
    subst e
    refine ⟨.inl y,by rw [zkA (by omega),zkC],?_⟩
    rw [g3,List.drop_length]
    simp [rowO,tw]) fuel ([],0) ⟨Nat.zero_le _,rfl,by simp⟩ (by have:=za4;simp only;omega)
 obtain ⟨r,e,hq⟩:=key;rw [zav (by unfold zbm;omega),e];exact hq
theorem R23_After_eq {o:zab} {w e:List Int} (ho:SmO o) (hv:zc2 o) (hw:SmW w) (he:SmW e):zni o w e=some (match ansO o (w++e) with | none=>([],false) | some r=>(r.drop w.length,true)):=by
 unfold zni;rw [zfp hw he,zan,zq6 ho hv,zan];cases ha:ansO o (w++e) with
 | none=>rfl
 | some r =>
  have hrl:=zkq hv ha;rw [zkJ] at hrl;simp only [tw,Bool.not_true,zkC];rw [zav (by omega)]
theorem zju {o:zab} {S:List (List Int)} {w:List Int} (ho:SmO o) (hv:zc2 o) (hS:SmL S) (hw:SmW w):zgf o S w=some (tw (rowO o w S)):=by
 have hS1:S.length≤2000000:=hS.1;unfold zgf
 have key:=zbq (step:=fun (s:List (List Int)×Nat)=>zgf.s2 o S w s.1 s.2) (fun s=>s.2≤S.length∧s.1.length=s.2∧rowO o w S=(rowO o w (S.drop s.2)).map (s.1++·)) (fun s=>S.length-s.2)
  (fun r=>Sum.elim (fun (y72:List (List Int))=>some (y72,true)) some r=some (tw (rowO o w S))) (fun s ⟨g1,g2,g3⟩=>by
   obtain ⟨y,k⟩:=s
   simp only at g1 g2 g3
   simp only [zgf.s2]
   by_cases g4:k<S.length
   ·have hx:=get_at g4
    have hxs:SmW S[k]:=hS.2 _ (List.getElem_mem _)
    rw [zbw hx,zkD,zaq hx,R23_After_eq ho hv hw hxs,zan]
    rw [rowO_drop hx] at g3
    cases ha:ansO o (w++S[k]) with
    | none =>
     right
     rw [ha] at g3
     refine ⟨.inr ([],false),rfl,?_⟩
     rw [g3]
     rfl
    | some r =>
     left
     rw [ha] at g3
     refine ⟨(y++[r.drop w.length],k+1),?_,⟨g4,by simp [g2],?_⟩,by simp only;omega⟩
     ·simp only [Bool.not_true,zkC]
      rw [zav (by unfold zbm;omega)]
     ·rw [g3,Option.map_map]
      simp only
      congr 1
      funext l
      simp
   ·right
    have e:k=S.length:=by omega
    subst e
    refine ⟨.inl y,by rw [zkA (by omega),zkC],?_⟩
    rw [g3,List.drop_length]
    simp [rowO,tw]) fuel ([],0) ⟨Nat.zero_le _,rfl,by simp⟩ (by have:=za4;simp only;omega)
 obtain ⟨r,e,hq⟩:=key;rw [e];exact hq
def chkT (t:zac) (o:zab):Int:=if zdn t≠0 then zdn t else if t.Inputs≠o.Inputs then 15 else 0
theorem zk6 {t:zac} {o:zab} (ht:SmT t):zhe t o=some (chkT t o):=by
 unfold zhe chkT;rw [zpf t ht,zan];by_cases h:zdn t=0
 ·rw [zkA (by simpa using h),zkC,if_neg (by simpa using h)];by_cases h2:t.Inputs=o.Inputs<;>simp [h2]
 ·rw [zkB h,zkD,if_pos h]
theorem R23_Check_eq {t:zac} {o:zab} (ht:SmT t):zn7 t o=some (chkT t o):=by
 unfold zn7 chkT;rw [zht t ht,zan];by_cases h:zdn t=0
 ·rw [zkA (by simpa using h),zkC,if_neg (by simpa using h)];by_cases h2:t.Inputs=o.Inputs<;>simp [h2]
 ·rw [zkB h,zkD,if_pos h]
def rowT (t:zac) (o:zab) (w:List Int):List (List Int)×Bool:=if chkT t o≠0 then ([],false) else tw (rowO o w t.Suffixes)
theorem table_Row_eq {t:zac} {o:zab} {w:List Int} (ht:SmT t) (ho:SmO o) (hv:zc2 o) (hw:SmW w):zog t o w=some (rowT t o w):=by
 obtain ⟨F,hF1,hF⟩:=zmo ho hv;unfold zog rowT;rw [zk6 ht,zan];by_cases h:chkT t o=0
 ·rw [zkA (by simpa using h),zkC,if_neg (by simpa using h),hF1,zan,zmn ho hv hF ht.2.2.1 hw,zan]
 ·rw [zkB h,zkD,if_pos h]
theorem sortW_ext {l m:List (List Int)} (h:∀ x,x∈l↔x∈m):sortW l=sortW m:=zpn (zet l) (zet m) fun x=>by rw [zdd,zdd,h]
theorem maxR_ext {l m:List (List Int)} (h:∀ x,x∈l↔x∈m):maxR l=maxR m:=by unfold maxR;rw [sortW_ext h]
theorem zxm {l:List (List Int)} (hl:SmL l):zck l=some (maxR l):=by
 have hA:=zet l;have hs:=zkn hl;have hs1:(sortW l).length≤2000000:=hs.1;unfold zck maxR;rw [zmi hl,zan]
 have inner:∀ (i:Nat) (x:List Int),(sortW l)[i]?=some x→iter (fun (s:Bool×Nat)=>zck.s13 (sortW l) i s.1 s.2) fuel (true,i+1)=some (topB (sortW l) x):=by
  intro i x hx;have hi:=(zkI.1 hx).1;refine zdy (fun s=>i+1≤s.2∧s.2≤(sortW l).length∧s.1=tailB x (((sortW l).take s.2).drop (i+1))) (fun s=>(sortW l).length-s.2) (fun s ⟨g1,g2,g3⟩=>?_) ⟨Nat.le_refl _,by simp only;omega,by simp [tailB]⟩ (by have:=za4;simp only;omega);obtain ⟨b,k⟩:=s;simp only at g1 g2 g3;simp only [zck.s13];by_cases g4:k<(sortW l).length
  ·left;have hy:=get_at g4;have hst:=tailB_step (x:=x) g1 hy;rw [← g3] at hst;refine ⟨(tailB x (((sortW l).take (k+1)).drop (i+1)),k+1),?_,⟨by simp only;omega,by simp only;omega,rfl⟩,by simp only;omega⟩;rw [zbw hy,zkD,hst];cases b with
   | false=>rfl
   | true =>
    rw [zkD,zaq hy,zaq hx,Bool.true_and];by_cases g5:(sortW l)[k].length=x.length
    ·rw [zkB (by omega),zkD,zkB (Or.inl g5)]
    ·rw [zkA (by omega),zkC,zaq hy,zaq hx,zfu _ _ (hs.2 _ (List.getElem_mem _)),zan];by_cases g6:x <+: (sortW l)[k]
     ·rw [zkB g6,zkA (fun h=>h.elim g5 fun h=>h g6)];rfl
     ·rw [zkA g6,zkB (Or.inr g6)];rfl
  ·right;have e:k=(sortW l).length:=by omega
   subst e;rw [zkA (by omega),zkC,g3,List.take_length,top_eq hA hx]
 have key:=zdy (step:=fun (s:List (List Int)×Nat)=>zck.s14 (sortW l) s.1 s.2) (r:=(sortW l).filter (topB (sortW l))) (fun s=>s.2≤(sortW l).length∧s.1=((sortW l).take s.2).filter (topB (sortW l))) (fun s=>(sortW l).length-s.2) (fun s ⟨g1,g2⟩=>by
  obtain ⟨y,i⟩:=s
  simp only at g1 g2
  subst g2
  simp only [zck.s14]
  by_cases g4:i<(sortW l).length
  ·left
   have hx:=get_at g4
   have hst:=filter_step (p:=topB (sortW l)) hx
   have hfl:=List.length_filter_le (topB (sortW l)) ((sortW l).take i)
   rw [List.length_take] at hfl
   refine ⟨(((sortW l).take (i+1)).filter (topB (sortW l)),i+1),?_,⟨by simp only;omega,rfl⟩,by simp only;omega⟩
   rw [zbw hx,zkD,inner i _ hx,zan,hst]
   cases topB (sortW l) (sortW l)[i] with
   | true =>
    rw [zkD,zaq hx,zav (by unfold zbm;omega)]
    rfl
   | false=>simp
  ·right
   have e:i=(sortW l).length:=by omega
   subst e
   rw [zkA (by omega),zkC,List.take_length]) (n:=fuel) (s:=([],0)) ⟨Nat.zero_le _,by simp⟩ (by have:=za4;simp only;omega)
 rw [key,zan]
theorem zkr {l:List (List Int)} (hl:SmL l):zcf l=some (maxR l):=by
 have hl1:l.length≤2000000:=hl.1;obtain ⟨L,e1,h1,h2,h3⟩:=zx9 lexI_total (f:=fun u0 u1=>zit u0 u1) hl fun a ha b hb=>zkg a b (by have:SmW a:=hl.2 a ha;unfold SmW at this;omega);have hLs:∀ x∈L,SmW x:=fun x hx=>hl.2 x ((h2 x).1 hx);unfold zcf;rw [e1,zan]
 have key:=zdy (step:=fun (s:List (List Int)×Nat)=>zcf.s2 L s.1 s.2) (r:=zmc L) (fun s=>s.2≤L.length∧s.1.length≤s.2∧zmc L=s.1++zmc (L.drop s.2)) (fun s=>L.length-s.2) (fun s ⟨g1,g2,g3⟩=>by
  obtain ⟨y,i⟩:=s
  simp only at g1 g2 g3
  simp only [zcf.s2]
  by_cases g4:i<L.length
  ·left
   have hx:=get_at g4
   rw [zbw hx,zkD,zaq hx]
   by_cases g5:i+1=L.length
   ·rw [keepM_end hx g5] at g3
    refine ⟨(y++[L[i]],i+1),?_,⟨by simp only;omega,by simp;omega,by simp only;rw [g3];simp⟩,by simp only;omega⟩
    rw [zkB (by omega),zkD,zan,zkD,zav (by unfold zbm;omega)]
   ·have hy:=get_at (l:=L) (i:=i+1) (by omega)
    rw [keepM_step hx hy] at g3
    rw [zkA (by omega),zkC,zaq hy,zgk _ _ (hLs _ (List.getElem_mem _)),zan,zan]
    by_cases g6:L[i] <+: (L[i+1]'(by omega))
    ·rw [if_pos g6] at g3
     refine ⟨(y,i+1),?_,⟨by simp only;omega,by simp only;omega,g3⟩,by simp only;omega⟩
     rw [zkB g6]
     rfl
    ·rw [if_neg g6] at g3
     refine ⟨(y++[L[i]],i+1),?_,⟨by simp only;omega,by simp;omega,by simp only;rw [g3];simp⟩,by simp only;omega⟩
     rw [zkA g6,Bool.not_false,zkD,zav (by unfold zbm;omega)]
  ·right
   have e:i=L.length:=by omega
   subst e
   rw [List.drop_length] at g3
   rw [zkA (by omega),zkC,g3]
   simp [zmc]) (n:=fuel) (s:=([],0)) ⟨Nat.zero_le _,by simp,by simp⟩ (by have:=za4;simp only;omega)
 have hk:=zux L;have hkl:SmL (zmc L):=⟨by have:=hk.length_le;omega,fun x hx=>hLs x (hk.mem hx)⟩;rw [key,zan,zsh hkl,zan,sortW_keepM h1 h2]
end
section
set_option maxRecDepth 100000
def zeh (o:zab) (w:List Int) (S:List (List Int)):List (List Int):=(S.map fun e=>w++e).filter fun v=>(ansO o v).isNone
theorem zym {o:zab} {w e:List Int} {S:List (List Int)} {k:Nat} (h:S[k]?=some e):zeh o w (S.take (k+1))=zeh o w (S.take k)++(if (ansO o (w++e)).isNone=true then [w++e] else []):=by
 unfold zeh;rw [zbp h,List.map_append,List.filter_append];simp only [List.map_cons,List.map_nil,List.filter_cons,List.filter_nil]
theorem zj4 (o:zab) (w:List Int) (S:List (List Int)):(zeh o w S).length≤S.length:=by
 unfold zeh;have:=List.length_filter_le (fun v=>(ansO o v).isNone) (S.map fun e=>w++e);rw [zkK] at this;exact this
theorem zg3 {o:zab} {w v:List Int} {S:List (List Int)}:v∈zeh o w S↔(∃ e∈S,v=w++e)∧ansO o v=none:=by
 unfold zeh;rw [List.mem_filter,List.mem_map,Option.isNone_iff_eq_none];constructor
 ·rintro ⟨⟨e,he,rfl⟩,h⟩;exact ⟨⟨e,he,rfl⟩,h⟩
 ·rintro ⟨⟨e,he,rfl⟩,h⟩;exact ⟨⟨e,he,rfl⟩,h⟩
theorem zvv {o:zab} {F:List zaa} {w:List Int} (ho:SmO o) (hv:zc2 o) (hF:zs2 o F):zey F w=some (ansO o w).isSome:=by
 unfold zey;rw [zmy ho hv hF,zan];cases ansO o w<;>rfl
theorem zu3 {o:zab} {F:List zaa} {t:zac} {w:List Int} {y:List (List Int)} (ho:SmO o) (hv:zc2 o) (hF:zs2 o F) (hS:SmL t.Suffixes) (hw:SmW w) (hy:y.length+t.Suffixes.length≤3000000):zcp w t F y=some (y++zeh o w t.Suffixes):=by
 have hS1:t.Suffixes.length≤2000000:=hS.1;have hw1:w.length≤2000000:=hw;unfold zcp
 have key:=zdy (step:=fun (s:List (List Int)×Nat)=>zcp.s2 w t F s.1 s.2) (r:=y++zeh o w t.Suffixes) (fun s=>s.2≤t.Suffixes.length∧s.1=y++zeh o w (t.Suffixes.take s.2)) (fun s=>t.Suffixes.length-s.2) (fun s ⟨g1,g2⟩=>by
  obtain ⟨z,k⟩:=s
  simp only at g1 g2
  subst g2
  simp only [zcp.s2]
  by_cases g4:k<t.Suffixes.length
  ·left
   have hx:=get_at g4
   have hx1:t.Suffixes[k].length≤2000000:=hS.2 _ (List.getElem_mem _)
   have hst:=zym (o:=o) (w:=w) hx
   have hml:=zj4 o w (t.Suffixes.take k)
   rw [List.length_take] at hml
   refine ⟨(y++zeh o w (t.Suffixes.take (k+1)),k+1),?_,⟨by simp only;omega,rfl⟩,by simp only;omega⟩
   rw [zbw hx,zkD,zaq hx,zfi _ (by simp) (by simp;omega),zan,hst]
   simp only [List.flatten_cons,List.flatten_nil,List.append_nil]
   rw [zvv ho hv hF,zan]
   cases ha:ansO o (w++t.Suffixes[k]) with
   | none =>
    simp only [Option.isSome_none,Bool.not_false,zkD,Option.isNone_none,if_true]
    rw [zav (by rw [zkJ];unfold zbm;omega),List.append_assoc]
   | some r=>simp
  ·right
   have e:k=t.Suffixes.length:=by omega
   subst e
   rw [zkA (by omega),zkC,List.take_length]) (n:=fuel) (s:=(y,0)) ⟨Nat.zero_le _,by simp [zeh]⟩ (by have:=za4;simp only;omega)
 rw [key,zan]
theorem zim {w:List Int} {a:Int} (hw:SmW w):ze1 w a=some (w++[a]):=by
 have hw1:w.length≤2000000:=hw;unfold ze1;rw [zfi _ (by simp) (by simp;omega),zan];simp
structure zev (t:zac):Prop where
 sm:SmT t
 n:t.Inputs≤4
 p:t.Prefixes.length≤80
 s:t.Suffixes.length≤12
 pw:∀ x∈t.Prefixes,x.length≤80
 sw:∀ x∈t.Suffixes,x.length≤30
def zh6 (n:Nat) (p:List Int):List (List Int):=p::(List.range n).map fun (a:Nat)=>p++[(↑a:Int)]
def zdv (o:zab) (t:zac) (P:List (List Int)):List (List Int):=P.flatMap fun p=>(zh6 t.Inputs.toNat p).flatMap fun w=>zeh o w t.Suffixes
theorem zwe {t:zac} {o:zab} (ht:zev t) (ho:SmO o) (hv:zc2 o):zca t o=some (if chkT t o≠0 then ([],chkT t o) else (maxR (zdv o t t.Prefixes),0)):=by
 obtain ⟨F,hF1,hF⟩:=zmo ho hv;have hn:=ht.n;have hp:=ht.p;have hs:=ht.s;have hS:=ht.sm.2.2.1;unfold zca;rw [zk6 ht.sm,zan];by_cases h:chkT t o=0
 ·rw [zkA (by simpa using h),zkC,if_neg (by simpa using h),hF1,zan]
  have inner:∀ (p:List Int) (y:List (List Int)),SmW p→p.length≤1000000→y.length≤10000→iter (fun (s:List (List Int)×Nat)=>zca.s13 t F p s.1 s.2) fuel (y,0)=some (y++((List.range t.Inputs.toNat).map fun (a:Nat)=>p++[(↑a:Int)]).flatMap fun w=>zeh o w t.Suffixes) ∧
    (((List.range t.Inputs.toNat).map fun (a:Nat)=>p++[(↑a:Int)]).flatMap fun w=>zeh o w t.Suffixes).length≤48:=by
   intro p y hpw hpl hy
   have hlen:∀ k,k≤t.Inputs.toNat→(((List.range k).map fun (a:Nat)=>p++[(↑a:Int)]).flatMap fun w=>zeh o w t.Suffixes).length≤12*k:=by
    intro k
    induction k with
    | zero=>intro _;simp
    | succ k ih =>
     intro hk;rw [List.range_succ,List.map_append,List.flatMap_append,zkJ];have:=ih (by omega);have:=zj4 o (p++[(↑k:Int)]) t.Suffixes;simp only [List.map_cons,List.map_nil,List.flatMap_cons,List.flatMap_nil,List.append_nil];omega
   refine ⟨zdy (fun s=>s.2≤t.Inputs.toNat∧s.1=y++((List.range s.2).map fun (a:Nat)=>p++[(↑a:Int)]).flatMap fun w=>zeh o w t.Suffixes) (fun s=>t.Inputs.toNat-s.2) (fun s ⟨g1,g2⟩=>?_) ⟨Nat.zero_le _,by simp⟩ (by have:=za4;simp only;omega),by have:=hlen t.Inputs.toNat (Nat.le_refl _);omega⟩;obtain ⟨z,k⟩:=s;simp only at g1 g2;subst g2;simp only [zca.s13];by_cases g4:k<t.Inputs.toNat
   ·left;have hl:=hlen k (by omega);refine ⟨(y++((List.range (k+1)).map fun (a:Nat)=>p++[(↑a:Int)]).flatMap fun w=>zeh o w t.Suffixes,k+1),?_,⟨g4,rfl⟩,by simp only;omega⟩;rw [zkB (by omega),zkD,zim hpw,zan,zu3 ho hv hF hS (by show (p++[(↑k:Int)]).length≤2000000;simp;omega) (by rw [zkJ];omega),zan,zav (by unfold inR;omega)];rw [List.range_succ,List.map_append,List.flatMap_append];simp
   ·right;have e:k=t.Inputs.toNat:=by omega
    subst e;rw [zkA (by omega),zkC]
  have key:=zdy (step:=fun (s:List (List Int)×Nat)=>zca.s14 t F s.1 s.2) (r:=zdv o t t.Prefixes) (fun s=>s.2≤t.Prefixes.length∧s.1.length≤60*s.2∧s.1=zdv o t (t.Prefixes.take s.2)) (fun s=>t.Prefixes.length-s.2) (fun s ⟨g1,g0,g2⟩=>by
   obtain ⟨z,k⟩:=s
   simp only at g1 g0 g2
   subst g2
   simp only [zca.s14]
   by_cases g4:k<t.Prefixes.length
   ·left
    have hx:=get_at g4
    have hxm:SmW t.Prefixes[k]:=ht.sm.2.1.2 _ (List.getElem_mem _)
    have hxl:=ht.pw _ (List.getElem_mem g4)
    have hml:=zj4 o t.Prefixes[k] t.Suffixes
    obtain ⟨i1,i2⟩:=inner t.Prefixes[k] (zdv o t (t.Prefixes.take k)++zeh o t.Prefixes[k] t.Suffixes) hxm (by omega) (by rw [zkJ];omega)
    have hst:zdv o t (t.Prefixes.take (k+1))=zdv o t (t.Prefixes.take k)++zeh o t.Prefixes[k] t.Suffixes++((List.range t.Inputs.toNat).map fun (a:Nat)=>t.Prefixes[k]++[(↑a:Int)]).flatMap fun w=>zeh o w t.Suffixes:=by
     unfold zdv zh6
     rw [zbp hx,List.flatMap_append]
     simp [List.append_assoc]
    refine ⟨(zdv o t (t.Prefixes.take (k+1)),k+1),?_,⟨g4,?_,rfl⟩,by simp only;omega⟩
    ·rw [zbw hx,zkD,zaq hx,zu3 ho hv hF hS hxm (by omega),zan,i1,zan,hst]
    ·simp only
     rw [hst,zkJ,zkJ]
     omega
   ·right
    have e:k=t.Prefixes.length:=by omega
    subst e
    rw [zkA (by omega),zkC,List.take_length]) (n:=fuel) (s:=([],0)) ⟨Nat.zero_le _,by simp,by simp [zdv]⟩ (by have:=za4;simp only;omega)
  have hN:SmL (zdv o t t.Prefixes):=by
   refine ⟨?_,fun v hv'=>?_⟩
   ·have hb:∀ P:List (List Int),(zdv o t P).length≤60*P.length:=by
     intro P
     induction P with
     | nil=>simp [zdv]
     | cons p P ih =>
      unfold zdv at ih ⊢;rw [List.flatMap_cons,zkJ,zkL]
      have hw:((zh6 t.Inputs.toNat p).flatMap fun w=>zeh o w t.Suffixes).length≤12*(zh6 t.Inputs.toNat p).length:=by
       generalize zh6 t.Inputs.toNat p=X
       induction X with
       | nil=>simp
       | cons w X ih2 =>
        have:=zj4 o w t.Suffixes;rw [List.flatMap_cons,zkJ,zkL];omega
      have hwl:(zh6 t.Inputs.toNat p).length=t.Inputs.toNat+1:=by simp [zh6]
      rw [hwl] at hw;omega
    have:=hb t.Prefixes;omega
   ·unfold zdv at hv';obtain ⟨p,hpm,h2⟩:=List.mem_flatMap.1 hv';obtain ⟨w,hw,h3⟩:=List.mem_flatMap.1 h2;obtain ⟨⟨e,he,rfl⟩,_⟩:=zg3.1 h3;have h4:=ht.pw p hpm;have h5:=ht.sw e he
    have h6:w.length≤81:=by
     unfold zh6 at hw;rcases List.mem_cons.1 hw with rfl | hw
     ·omega
     ·obtain ⟨a,_,rfl⟩:=List.mem_map.1 hw;simp;omega
    unfold SmW;rw [zkJ];omega
  rw [key,zan,zkr hN,zan]
 ·rw [zkB h,zkD,if_pos h]
def extL (t:zac):List (List Int):=t.Prefixes.flatMap fun p=>(List.range t.Inputs.toNat).map fun (a:Nat)=>p++[(↑a:Int)]
theorem zlt {t:zac} (ht:zev t):zbt t=some (sortW (extL t))∧SmL (extL t):=by
 have hn:=ht.n;have hp:=ht.p
 have hlen:∀ P:List (List Int),(P.flatMap fun p=>(List.range t.Inputs.toNat).map fun (a:Nat)=>p++[(↑a:Int)]).length≤4*P.length:=by
  intro P
  induction P with
  | nil=>simp
  | cons p P ih =>
   rw [List.flatMap_cons,zkJ,zkL,zkK,List.length_range];omega
 have hE:SmL (extL t):=by
  refine ⟨by have:=hlen t.Prefixes;unfold extL;omega,fun v hv=>?_⟩;obtain ⟨p,hpm,h2⟩:=List.mem_flatMap.1 hv;obtain ⟨a,_,rfl⟩:=List.mem_map.1 h2;have:=ht.pw p hpm;unfold SmW;simp;omega
 refine ⟨?_,hE⟩;unfold zbt
 have key:=zdy (step:=fun (s:List (List Int)×Nat)=>zbt.s14 t s.1 s.2) (r:=extL t) (fun s=>s.2≤t.Prefixes.length∧s.1=(t.Prefixes.take s.2).flatMap fun p=>(List.range t.Inputs.toNat).map fun (a:Nat)=>p++[(↑a:Int)]) (fun s=>t.Prefixes.length-s.2) (fun s ⟨g1,g2⟩=>by
  obtain ⟨z,k⟩:=s
  simp only at g1 g2
  subst g2
  simp only [zbt.s14]
  by_cases g4:k<t.Prefixes.length
  ·left
   have hx:=get_at g4
   have hxm:SmW t.Prefixes[k]:=ht.sm.2.1.2 _ (List.getElem_mem _)
   have hl:=hlen (t.Prefixes.take k)
   rw [List.length_take] at hl
   generalize hz:((t.Prefixes.take k).flatMap fun p=>(List.range t.Inputs.toNat).map fun (a:Nat)=>p++[(↑a:Int)])=z at hl
   have inner:=zdy (step:=fun (s:List (List Int)×Nat)=>zbt.s13 t k s.1 s.2) (r:=z++(List.range t.Inputs.toNat).map fun (a:Nat)=>t.Prefixes[k]++[(↑a:Int)]) (fun s=>s.2≤t.Inputs.toNat∧s.1=z++(List.range s.2).map fun (a:Nat)=>t.Prefixes[k]++[(↑a:Int)]) (fun s=>t.Inputs.toNat-s.2) (fun s ⟨q1,q2⟩=>by
    obtain ⟨u,j⟩:=s
    simp only at q1 q2
    subst q2
    simp only [zbt.s13]
    by_cases q4:j<t.Inputs.toNat
    ·left
     refine ⟨(z++(List.range (j+1)).map fun (a:Nat)=>t.Prefixes[k]++[(↑a:Int)],j+1),?_,⟨q4,rfl⟩,by simp only;omega⟩
     rw [zkB (by omega),zkD,zaq hx,zfp hxm (by simp [SmW]),zan,zav (by rw [zkJ,zkK,List.length_range];unfold zbm;omega),zav (by unfold inR;omega),List.range_succ,List.map_append]
     simp
    ·right
     have e:j=t.Inputs.toNat:=by omega
     subst e
     rw [zkA (by omega),zkC]) (n:=fuel) (s:=(z,0)) ⟨Nat.zero_le _,by simp⟩ (by have:=za4;simp only;omega)
   refine ⟨(z++(List.range t.Inputs.toNat).map fun (a:Nat)=>t.Prefixes[k]++[(↑a:Int)],k+1),?_,⟨g4,?_⟩,by simp only;omega⟩
   ·rw [zbw hx,zkD,inner,zan]
   ·simp only
    rw [zbp hx,List.flatMap_append,hz]
    simp
  ·right
   have e:k=t.Prefixes.length:=by omega
   subst e
   rw [zkA (by omega),zkC,List.take_length]
   rfl) (n:=fuel) (s:=([],0)) ⟨Nat.zero_le _,by simp⟩ (by have:=za4;simp only;omega)
 rw [key,zan,zmi hE,zan]
theorem zqe {t:zac} {o:zab} (ht:zev t) (ho:SmO o) (hv:zc2 o):zcv t o=some (if chkT t o≠0 then ([],chkT t o) else (maxR (zdv o t t.Prefixes),0)):=by
 have hn:=ht.n;have hp:=ht.p;have hs:=ht.s;have hS:=ht.sm.2.2.1;obtain ⟨hE1,hE2⟩:=zlt ht;unfold zcv;rw [R23_Check_eq ht.sm,zan];by_cases h:chkT t o=0
 ·rw [zkA (by simpa using h),zkC,if_neg (by simpa using h),hE1,zan];have hEs:=zkn hE2
  have hEl:(sortW (extL t)).length≤320:=by
   have h1:=zhu (extL t)
   have:(extL t).length≤4*t.Prefixes.length:=by
    unfold extL;generalize t.Prefixes=P
    induction P with
    | nil=>simp
    | cons p P ih =>
     rw [List.flatMap_cons,zkJ,zkL,zkK,List.length_range];omega
   omega
  rw [znv (by simp) (by rw [zoh];exact zjy (by omega) ht.sm.2.1 hEs),zoh,zan]
  have hWm:∀ x,x∈sortW (t.Prefixes++sortW (extL t))↔∃ p∈t.Prefixes,x∈zh6 t.Inputs.toNat p:=fun x=>by
   rw [zdd,List.mem_append,zdd];unfold extL zh6;constructor
   ·rintro (h | h)
    ·exact ⟨x,h,by simp⟩
    ·obtain ⟨p,hp,h2⟩:=List.mem_flatMap.1 h;exact ⟨p,hp,List.mem_cons_of_mem _ h2⟩
   ·rintro ⟨p,hp,h⟩;rcases List.mem_cons.1 h with rfl | h
    ·exact Or.inl hp
    ·exact Or.inr (List.mem_flatMap.2 ⟨p,hp,h⟩)
  have hWl:(sortW (t.Prefixes++sortW (extL t))).length≤400:=by
   have:=zhu (t.Prefixes++sortW (extL t));rw [zkJ] at this;omega
  have hWw:∀ x∈sortW (t.Prefixes++sortW (extL t)),x.length≤81:=fun x hx=>by
   obtain ⟨p,hpm,h2⟩:=(hWm x).1 hx;have:=ht.pw p hpm;unfold zh6 at h2;rcases List.mem_cons.1 h2 with rfl | h2
   ·omega
   ·obtain ⟨a,_,rfl⟩:=List.mem_map.1 h2;simp;omega
  generalize sortW (t.Prefixes++sortW (extL t))=U at hWm hWl hWw
  have hb:∀ k,((U.take k).flatMap fun w=>zeh o w t.Suffixes).length≤12*k:=by
   intro k
   induction k with
   | zero=>simp
   | succ k ih =>
    by_cases hk:k<U.length
    ·have hx:=get_at hk;have:=zj4 o U[k] t.Suffixes;rw [zbp hx,List.flatMap_append,zkJ];simp only [List.flatMap_cons,List.flatMap_nil,List.append_nil];omega
    ·rw [List.take_of_length_le (by omega)];rw [List.take_of_length_le (by omega)] at ih;omega
  have key:=zdy (step:=fun (s:List (List Int)×Nat)=>zcv.s14 t o U s.1 s.2) (r:=U.flatMap fun w=>zeh o w t.Suffixes) (fun s=>s.2≤U.length∧s.1=(U.take s.2).flatMap fun w=>zeh o w t.Suffixes) (fun s=>U.length-s.2) (fun s ⟨g1,g2⟩=>by
   obtain ⟨z,i⟩:=s
   simp only at g1 g2
   subst g2
   simp only [zcv.s14]
   by_cases g4:i<U.length
   ·left
    have hx:=get_at g4
    have hxl:=hWw _ (List.getElem_mem g4)
    have hl:=hb i
    generalize hz:((U.take i).flatMap fun w=>zeh o w t.Suffixes)=z at hl
    have inner:=zdy (step:=fun (s:List (List Int)×Nat)=>zcv.s13 t o U i s.1 s.2) (r:=z++zeh o U[i] t.Suffixes) (fun s=>s.2≤t.Suffixes.length∧s.1=z++zeh o U[i] (t.Suffixes.take s.2)) (fun s=>t.Suffixes.length-s.2) (fun s ⟨q1,q2⟩=>by
     obtain ⟨u,k⟩:=s
     simp only at q1 q2
     subst q2
     simp only [zcv.s13]
     by_cases q4:k<t.Suffixes.length
     ·left
      have hy:=get_at q4
      have hys:SmW t.Suffixes[k]:=hS.2 _ (List.getElem_mem _)
      have hst:=zym (o:=o) (w:=U[i]) hy
      have hml:=zj4 o U[i] (t.Suffixes.take k)
      rw [List.length_take] at hml
      refine ⟨(z++zeh o U[i] (t.Suffixes.take (k+1)),k+1),?_,⟨q4,rfl⟩,by simp only;omega⟩
      rw [zbw hy,zkD,zaq hx,zaq hy,zfp (by unfold SmW;omega) hys,zan,zq6 ho hv,zan,hst]
      cases ha:ansO o (U[i]++t.Suffixes[k]) with
      | none =>
       simp only [tw,Bool.not_false,zkD,Option.isNone_none,if_true]
       rw [zav (by rw [zkJ];unfold zbm;omega),List.append_assoc]
      | some r=>simp [tw]
     ·right
      have e:k=t.Suffixes.length:=by omega
      subst e
      rw [zkA (by omega),zkC,List.take_length]) (n:=fuel) (s:=(z,0)) ⟨Nat.zero_le _,by simp [zeh]⟩ (by have:=za4;simp only;omega)
    refine ⟨(z++zeh o U[i] t.Suffixes,i+1),?_,⟨g4,?_⟩,by simp only;omega⟩
    ·rw [zbw hx,zkD,inner,zan]
    ·simp only
     rw [zbp hx,List.flatMap_append,hz]
     simp
   ·right
    have e:i=U.length:=by omega
    subst e
    rw [zkA (by omega),zkC,List.take_length]) (n:=fuel) (s:=([],0)) ⟨Nat.zero_le _,by simp⟩ (by have:=za4;simp only;omega)
  have hUl:=hb U.length;rw [List.take_length] at hUl
  rw [key,zan,zxm ⟨by omega,fun v hv'=>by
   obtain ⟨w,hw,h3⟩:=List.mem_flatMap.1 hv'
   obtain ⟨⟨e,he,rfl⟩,_⟩:=zg3.1 h3
   have h5:=ht.sw e he
   have h6:=hWw w hw
   unfold SmW
   rw [zkJ]
   omega⟩,zan]
  congr 2;refine maxR_ext fun v=>?_;unfold zdv;rw [List.mem_flatMap,List.mem_flatMap];constructor
  ·rintro ⟨w,hw,hm⟩;obtain ⟨p,hp,h2⟩:=(hWm w).1 hw;exact ⟨p,hp,List.mem_flatMap.2 ⟨w,h2,hm⟩⟩
  ·rintro ⟨p,hp,h2⟩;obtain ⟨w,hw,hm⟩:=List.mem_flatMap.1 h2;exact ⟨w,(hWm w).2 ⟨p,hp,hw⟩,hm⟩
 ·rw [zkB h,zkD,if_pos h]
theorem tabOk_of {t:zac} {o:zab} (ht:SmT t) (h:zv2 t o=false):zev t∧o.Traces.length≤400∧∀ x∈o.Traces,x.In.length≤90:=by
 unfold zv2 at h;simp only [Bool.or_eq_false_iff,decide_eq_false_iff_not,Bool.not_eq_false'] at h;obtain ⟨⟨⟨⟨h1,h2,h3⟩,h4,h5⟩,h6⟩,h7⟩:=h;exact ⟨⟨ht,by omega,by omega,by omega,fun x hx=>Nat.le_trans (of_decide_eq_true (List.all_eq_true.1 h3 x hx)) (by decide),fun x hx=>of_decide_eq_true (List.all_eq_true.1 h5 x hx)⟩,by omega,fun x hx=>of_decide_eq_true (List.all_eq_true.1 h7 x hx)⟩
theorem zgp {o:zab} (hv:zc2 o) {w:List Int}:∀ {S:List (List Int)} {l:List (List Int)},rowO o w S=some l→l.length=S.length∧∀ x∈l,∃ e∈S,x.length=e.length
 | [],l,h=>by
  injection h with h
  subst h;exact ⟨rfl,fun x hx=>by cases hx⟩
 | e::S,l,h=>by
  unfold rowO at h;cases ha:ansO o (w++e) with
  | none=>rw [ha] at h;cases h
  | some r =>
   rw [ha] at h;obtain ⟨l',h1,rfl⟩:=Option.map_eq_some_iff.1 h;obtain ⟨h2,h3⟩:=zgp hv h1;have hrl:=zkq hv ha;rw [zkJ] at hrl;refine ⟨by simp [h2],fun x hx=>?_⟩;rcases List.mem_cons.1 hx with rfl | hx
   ·exact ⟨e,by simp,by rw [List.length_drop];omega⟩
   ·obtain ⟨e',he',hl'⟩:=h3 x hx;exact ⟨e',List.mem_cons_of_mem _ he',hl'⟩
theorem rowT_sml {t:zac} {o:zab} (hv:zc2 o) (ht:SmT t) (w:List Int):SmL (rowT t o w).1:=by
 unfold rowT;split
 ·exact zsf
 ·cases h:rowO o w t.Suffixes with
  | none=>exact zsf
  | some l =>
   obtain ⟨h1,h2⟩:=zgp hv h;refine ⟨by show l.length≤2000000;rw [h1];exact ht.2.2.1.1,fun x hx=>?_⟩;obtain ⟨e,he,hl⟩:=h2 x hx;have:SmW e:=ht.2.2.1.2 e he;unfold SmW at this ⊢;omega
end
end Go.Proofs.YtedabpfahmealaaGreatDoor.Sym

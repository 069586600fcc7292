/-
 What the arguments read as in plain words, with the bound of the second form. No walk.
-/
import Derived.Test.YtcneaiejdidooaaGreatDoorM2
import Derived.Deep.Slices
import Derived.WalkKit
import Derived.Deep.AppendLies
import Derived.Deep.Draws
import Derived.Maps.AppendAt
import Derived.Deep.QuietTactic
import Derived.BigQuiet
import Derived.WalkSpells
import Derived.Outline
import Derived.Lib.Hide
import Derived.Test.YtcneaiejdidooaaGreatDoorProg
import Derived.Lib.AppendZeros
import Derived.Shelf.SlSortCmp.NoneTotal
import Derived.Lib.OwnBridge
import Derived.Laws.OwnMore
import Derived.Lib.BufferRead
import Derived.WalkSmall
import Derived.Shelf.SlSortCmp.Whole1
import Derived.Shelf.SlGeneric
import Derived.Ground.SlsfProg
import Derived.Lib.AppendZerosOnto
import Derived.Lib.Overlaps
import Derived.Lib.Walk
import Derived.Shelf.RegionOpenPlain
import Derived.Laws.NewBlocks
import Derived.Deep.WholeRow
set_option linter.all false
namespace Go.Proofs.YtcneaiejdidooaaGreatDoor.Sym
open Go.ChangeShapes Go.WideShapes Go.ChangeAt Go.RowKit Go.Deep
set_option maxRecDepth 100000
section
variable {H:Type} {enc:TypeId×Value→H} {W:World} {α β:Type}
theorem bulk_pos (d:DataW H):1≤Rows.uptoBulk d:=by
 cases d with
 | lit l=>cases l<;>simp [Rows.uptoBulk]
 | nil=>simp [Rows.uptoBulk]
 | ptr d=>simp [Rows.uptoBulk]
 | slice elems spare=>simp [Rows.uptoBulk]
 | agg parts=>simp [Rows.uptoBulk]
 | iface t d=>simp [Rows.uptoBulk]
 | map entries=>simp [Rows.uptoBulk]
 | held h=>simp [Rows.uptoBulk]
theorem bulk_mem {d:DataW H} {l:List (DataW H)} (h:d∈l):Rows.uptoBulk d≤Rows.uptoBulkAll l:=by
 induction l with
 | nil=>cases h
 | cons x r ih =>
  simp only [Rows.uptoBulkAll]
  rcases List.mem_cons.1 h with e | e
  ·subst e;omega
  ·have:=ih e;omega
theorem zk0 (l r:List (DataW H)):Rows.uptoBulkAll (l++r)=Rows.uptoBulkAll l+Rows.uptoBulkAll r:=by
 induction l with
 | nil=>simp [Rows.uptoBulkAll]
 | cons x l ih=>simp only [List.cons_append,Rows.uptoBulkAll,ih];omega
theorem bulk_length (l:List (DataW H)):l.length≤Rows.uptoBulkAll l:=by
 induction l with
 | nil=>simp [Rows.uptoBulkAll]
 | cons x r ih=>have:=bulk_pos x;simp only [Rows.uptoBulkAll,List.length_cons];omega
theorem bulk_small {l:List (DataW H)} (hk:Rows.uptoSmall H l=true):Rows.uptoBulkAll l≤1048576:=by
 simpa [Rows.uptoSmall] using hk
def lowS (W:World):Nat→Prop:=fun b=>b<W.heap.size
def Opn (W:World) (enc:TypeId×Value→H) (t:TypeId) (c:α→List IV) (sz:α→Nat) (ok:α→Prop):Prop :=
 ∀ (fuel:Nat) (cs:List Value) (d:DataW H) (ps:List MemPlace),DataW.trod enc Tryz.prog W 0 (fun _=>true) true fuel t cs=some (d,ps)→Rows.uptoBulk d≤1048576 →
  ∃ x,RepIs W (lowS W) cs (c x)∧(∀ u∈cs,u.oneCell'=true)∧sz x≤Rows.uptoBulk d∧ok x
def sz1 {α:Type} (_:α):Nat:=1
def szL (sz:α→Nat) (l:List α):Nat:=(l.map sz).sum+1
def okL (ok:α→Prop) (l:List α):Prop:=∀ x∈l,ok x
def okT {α:Type} (_:α):Prop:=True
theorem opn_int:Opn W enc 3 cI sz1 inR:=by
 intro fuel cs d ps h hd
 cases fuel with
 | zero=>simp [DataW.trod] at h
 | succ f =>
  unfold DataW.trod at h
  rw [Tryz.underlying3] at h
  split at h<;>try (cases h;done)
  all_goals (try (rename_i e;cases e;done))
  rename_i k k' n e
  injection e with e
  injection e with e
  subst e
  split at h
  ·rename_i hw
   injection h with h
   injection h with h1 h2
   subst h1
   obtain ⟨rfl,hw⟩:=hw
   refine ⟨n,⟨rfl,fun i u x hu hx=>?_⟩,fun u hu=>?_,by simp [sz1,Rows.uptoBulk],?_⟩
   ·match i,hu,hx with
    | 0,hu,hx =>
     simp at hu hx
     subst hu hx
     exact .val _
   ·rcases List.mem_singleton.1 hu with rfl
    rfl
   ·simp [Lit.wf,IntKind.min,IntKind.max,IntKind.wrap,IntKind.bits,IntKind.signed] at hw
    unfold inR
    omega
  ·cases h
def okU (n:Int):Prop:=0≤n∧n<18446744073709551616
theorem opn_u64 {t:TypeId} (ht:Tryz.prog.underlying t=some (.int .u64)):Opn W enc t cU sz1 okU:=by
 intro fuel cs d ps h hd
 cases fuel with
 | zero=>simp [DataW.trod] at h
 | succ f =>
  unfold DataW.trod at h
  rw [ht] at h
  split at h<;>try (cases h;done)
  all_goals (try (rename_i e;cases e;done))
  rename_i k k' n e
  injection e with e
  injection e with e
  subst e
  split at h
  ·rename_i hw
   injection h with h
   injection h with h1 h2
   subst h1
   obtain ⟨rfl,hw⟩:=hw
   refine ⟨n,⟨rfl,fun i u x hu hx=>?_⟩,fun u hu=>?_,by simp [sz1,Rows.uptoBulk],?_⟩
   ·match i,hu,hx with
    | 0,hu,hx =>
     simp at hu hx
     subst hu hx
     exact .val _
   ·rcases List.mem_singleton.1 hu with rfl
    rfl
   ·simp [Lit.wf,IntKind.min,IntKind.max,IntKind.wrap,IntKind.bits,IntKind.signed] at hw
    unfold okU
    omega
  ·cases h
theorem opn_bool {t:TypeId} (ht:Tryz.prog.underlying t=some .bool):Opn W enc t cB sz1 okT:=by
 intro fuel cs d ps h hd
 cases fuel with
 | zero=>simp [DataW.trod] at h
 | succ f =>
  unfold DataW.trod at h
  rw [ht] at h
  split at h<;>try (cases h;done)
  all_goals (try (rename_i e;cases e;done))
  rename_i b e
  injection h with h
  injection h with h1 h2
  subst h1
  refine ⟨b,⟨rfl,fun i u x hu hx=>?_⟩,fun u hu=>?_,by simp [sz1,Rows.uptoBulk],trivial⟩
  ·match i,hu,hx with
   | 0,hu,hx =>
    simp at hu hx
    subst hu hx
    exact .val _
  ·rcases List.mem_singleton.1 hu with rfl
   rfl
theorem opn_elems {t:TypeId} {c:α→List IV} {sz:α→Nat} {ok:α→Prop} {k b o:Nat} (hc:∀ x,(c x).length=k) (D:Nat→DataW H):∀ (n:Nat),
  (∀ i,i<n→∃ (x:α) (cs:List Value),(∀ j,j<k→W.cell? ⟨b,o+(i*k+j),none⟩=cs[j]?)∧RepIs W (lowS W) cs (c x)∧(∀ u∈cs,u.oneCell'=true)∧sz x≤Rows.uptoBulk (D i)∧ok x) →
  ∃ (xs:List α) (us:List Value),xs.length=n∧us.length=n*k∧(∀ (i:Nat) u,us[i]?=some u→W.cell? ⟨b,o+i,none⟩=some u)∧RepIs W (lowS W) us (xs.map c).flatten∧(∀ u∈us,u.oneCell'=true) ∧
   (xs.map sz).sum≤Rows.uptoBulkAll ((List.range n).map D)∧∀ x∈xs,ok x
 | 0,_=>⟨[],[],rfl,by simp,by simp,⟨rfl,by simp⟩,by simp,by simp,by simp⟩
 | n+1,h=>by
  obtain ⟨xs,us,h1,h2,h3,h4,h5,h6,h7⟩:=opn_elems (t:=t) hc D n fun i hi=>h i (by omega)
  obtain ⟨x,cs,g1,g2,g3,g4,g5⟩:=h n (by omega)
  have hcl:cs.length=k:=by rw [g2.1,hc]
  have hfl:(xs.map c).flatten.length=n*k:=by rw [← h4.1,h2]
  refine ⟨xs++[x],us++cs,by simp [h1],by rw [List.length_append,h2,hcl,Nat.add_mul];omega,fun i u hu=>?_,⟨?_,fun i u y hu hy=>?_⟩,fun u hu=>?_,?_,fun y hy=>?_⟩
  ·rw [List.getElem?_append] at hu
   split at hu
   ·exact h3 i u hu
   ·rename_i hlt
    have hj:=(List.getElem?_eq_some_iff.1 hu).1
    have:=g1 (i-us.length) (by omega)
    rw [hu,show o+(n*k+(i-us.length))=o+i by omega] at this
    exact this
  ·rw [List.map_append,List.flatten_append,List.length_append,List.length_append,h4.1]
   simp [g2.1]
  ·rw [List.map_append,List.flatten_append,List.getElem?_append] at hy
   rw [List.getElem?_append] at hu
   by_cases hlt:i<us.length
   ·rw [if_pos hlt] at hu
    rw [if_pos (by rw [hfl,← h2];exact hlt)] at hy
    exact h4.2 i u y hu hy
   ·rw [if_neg hlt] at hu
    rw [if_neg (by rw [hfl,← h2];exact hlt),hfl,← h2] at hy
    simp only [List.map_cons,List.map_nil,List.flatten_cons,List.flatten_nil,List.append_nil] at hy
    exact g2.2 _ u y hu hy
  ·rcases List.mem_append.1 hu with hu | hu
   ·exact h5 u hu
   ·exact g3 u hu
  ·rw [List.range_succ,List.map_append,List.map_append,List.sum_append,zk0]
   simp only [List.map_cons,List.map_nil,List.sum_cons,List.sum_nil,Rows.uptoBulkAll]
   omega
  ·rcases List.mem_append.1 hy with hy | hy
   ·exact h7 y hy
   ·rcases List.mem_singleton.1 hy with rfl
    exact g5
theorem zl9 {t e:TypeId} {c:α→List IV} {sz:α→Nat} {ok:α→Prop} {k:Nat} (ht:Tryz.prog.underlying t=some (.slice e)) (hk:Tryz.prog.cellsOf e=k) (hk0:0<k) (hc:∀ x,(c x).length=k) (O:Opn W enc e c sz ok) :
  Opn W enc t (cL c) (szL sz) (okL ok):=by
 intro fuel cs d ps h hd
 rcases open_slice ht h with ⟨rfl,hx⟩ | ⟨a,len,cap,m,n,D,Pl,rfl,_,hl,_,hm,hx,hel⟩
 ·injection hx with hx1 hx2
  subst hx1
  refine ⟨[],⟨rfl,fun i u x hu hx=>?_⟩,fun u hu=>?_,by simp [szL,Rows.uptoBulk],fun x hx=>by cases hx⟩
  ·match i,hu,hx with
   | 0,hu,hx =>
    simp at hu hx
    subst hu hx
    exact .emp _ _
  ·rcases List.mem_singleton.1 hu with rfl
   rfl
 ·injection hx with hx1 hx2
  subst hx1
  simp only [if_true] at hm
  subst hm
  have hbulk:Rows.uptoBulkAll ((List.range len).map D)+1≤Rows.uptoBulk (.slice ((List.range len).map D) ((List.range (m-len)).map fun j=>D (len+j))):=by
   simp only [Rows.uptoBulk];omega
  have hlen:len≤1048576:=by
   have:=bulk_length ((List.range len).map D)
   simp at this
   omega
  by_cases h0:len=0
  ·subst h0
   refine ⟨[],⟨rfl,fun i u x hu hx=>?_⟩,fun u hu=>?_,by simp [szL,Rows.uptoBulk],fun x hx=>by cases hx⟩
   ·match i,hu,hx with
    | 0,hu,hx =>
     simp at hu hx
     subst hu hx
     exact .emp _ _
   ·rcases List.mem_singleton.1 hu with rfl
    rfl
  ·obtain ⟨ab,ao,asp⟩:=a
   rw [hk] at hel
   have hsp:asp=none:=by
    obtain ⟨cs',h1,_⟩:=hel 0 (by omega)
    obtain ⟨_,hl',hcell⟩:=World.cells?_some h1
    have h2:=hcell 0 hk0
    rw [List.getElem?_eq_getElem (by omega)] at h2
    unfold World.cell? Addr.add at h2
    simp only [Nat.zero_mul,if_true] at h2
    cases asp with
    | none=>rfl
    | some q =>
     simp at h2
     split at h2<;>simp at h2
   subst hsp
   obtain ⟨xs,us,h1,h2,h3,h4,h5,h6,h7⟩:=opn_elems (W:=W) (t:=e) (sz:=sz) (ok:=ok) (b:=ab) (o:=ao) hc D len fun i hi=>by
    obtain ⟨cs',e1,e2⟩:=hel i (by omega)
    obtain ⟨_,hl',hcell⟩:=World.cells?_some e1
    obtain ⟨x,r1,r2,r3,r4⟩:=O _ _ _ _ e2 (Nat.le_trans (bulk_mem (List.mem_map.2 ⟨i,List.mem_range.2 hi,rfl⟩)) (by omega))
    refine ⟨x,cs',fun j hj=>?_,r1,r2,r3,r4⟩
    have:=hcell j hj
    rw [addr_add,addr_add,Nat.add_assoc] at this
    exact this
   have hblk:ab<W.heap.size:=by
    have hu0:0<us.length:=by rw [h2];exact Nat.mul_pos (by omega) hk0
    exact World.block_lt_of_cell? W _ (h3 0 _ (List.getElem?_eq_getElem hu0))
   refine ⟨xs,⟨rfl,fun i u x hu hx=>?_⟩,fun u hu=>?_,?_,h7⟩
   ·match i,hu,hx with
    | 0,hu,hx =>
     simp at hu hx
     subst hu hx
     refine .sl ab ao m k len (xs.map c) us (by simp [h1]) (fun e he=>by obtain ⟨y,_,rfl⟩:=List.mem_map.1 he;exact hc y) hl (by omega) hblk h4.1 h5 h3 h4.2
   ·rcases List.mem_singleton.1 hu with rfl
    rfl
   ·show (xs.map sz).sum+1≤_
    omega
def OpnFs (W:World) (enc:TypeId×Value→H) (fs:List Field) (off len:Nat) (c:α→List IV) (sz:α→Nat) (ok:α→Prop):Prop :=
 ∀ (n:Nat) (cs:List Value) (xs:List (DataW H×List MemPlace)),xs.length=fs.length →
  (∀ (i:Nat) f,fs[i]?=some f→DataW.trod enc Tryz.prog W 0 (fun _=>true) true n f.type ((cs.drop f.offset).take (Tryz.prog.cellsOf f.type))=xs[i]?)→Rows.uptoBulkAll (xs.map (·.1))≤1048576 →
  ∃ x,RepIs W (lowS W) ((cs.drop off).take len) (c x)∧(∀ u∈(cs.drop off).take len,u.oneCell'=true)∧sz x≤Rows.uptoBulkAll (xs.map (·.1))∧ok x
theorem zeu {off:Nat}:OpnFs W enc [] off 0 (fun _:Unit=>[]) (fun _=>0) okT:=by
 intro n cs xs hx h hb
 exact ⟨(),⟨by simp,by simp⟩,by simp,Nat.zero_le _,trivial⟩
theorem za8 {f:Field} {fs:List Field} {off k len:Nat} {c1:α→List IV} {c2:β→List IV} {s1:α→Nat} {s2:β→Nat} {ok1:α→Prop} {ok2:β→Prop} (ho:f.offset=off) (hk:Tryz.prog.cellsOf f.type=k)
  (O:Opn W enc f.type c1 s1 ok1) (hc:∀ x,(c1 x).length=k) (R:OpnFs W enc fs (off+k) len c2 s2 ok2) :
  OpnFs W enc (f::fs) off (k+len) (fun p:α×β=>c1 p.1++c2 p.2) (fun p=>s1 p.1+s2 p.2) (fun p=>ok1 p.1∧ok2 p.2):=by
 intro n cs xs hx h hb
 match xs,hx with
 | x::xs,hx =>
  have e0:=h 0 f rfl
  rw [ho,hk] at e0
  simp only [List.map_cons,Rows.uptoBulkAll] at hb
  obtain ⟨a,r1,r2,r3,r4⟩:=O n _ x.1 x.2 e0 (by omega)
  obtain ⟨b,q1,q2,q3,q4⟩:=R n cs xs (by simpa using hx) (fun i g hg=>by
   have:=h (i+1) g (by simpa using hg)
   simpa using this) (by omega)
  have hsplit:(cs.drop off).take (k+len)=(cs.drop off).take k++(cs.drop (off+k)).take len:=by
   rw [List.take_add,List.drop_drop]
  have hl1:((cs.drop off).take k).length=(c1 a).length:=r1.1
  refine ⟨(a,b),?_,fun u hu=>?_,by simp only [List.map_cons,Rows.uptoBulkAll];omega,r4,q4⟩
  ·rw [hsplit]
   refine ⟨by rw [List.length_append,List.length_append,r1.1,q1.1],fun i u y hu hy=>?_⟩
   rw [List.getElem?_append,hl1] at hu
   rw [List.getElem?_append] at hy
   split at hu
   ·rename_i hlt
    rw [if_pos hlt] at hy
    exact r1.2 i u y hu hy
   ·rename_i hlt
    rw [if_neg hlt] at hy
    exact q1.2 _ u y hu hy
  ·rw [hsplit] at hu
   rcases List.mem_append.1 hu with hu | hu
   ·exact r2 u hu
   ·exact q2 u hu
theorem zd0 {t:TypeId} {fs:Array Field} {len:Nat} {c:α→List IV} {sz:α→Nat} {ok:α→Prop} {c':β→List IV} {sz':β→Nat} {ok':β→Prop} (ht:Tryz.prog.underlying t=some (.struct fs)) (hl:Tryz.prog.cellsOf t=len)
  (R:OpnFs W enc fs.toList 0 len c sz ok) (conv:α→β) (hc:∀ p,c' (conv p)=c p) (hs:∀ p,sz' (conv p)=sz p+1) (ho:∀ p,ok p→ok' (conv p)):Opn W enc t c' sz' ok':=by
 intro fuel cs d ps h hd
 obtain ⟨xs,n,rfl,hx,hcl,hxl,hf⟩:=DataW.trod_struct ht h
 injection hx with hx1 hx2
 subst hx1
 simp only [Rows.uptoBulk] at hd
 obtain ⟨x,r1,r2,r3,r4⟩:=R n cs xs (by rw [hxl];simp) (fun i f hi=>hf i f (by simpa using hi)) (by omega)
 rw [hl] at hcl
 have e:(cs.drop 0).take len=cs:=by rw [List.drop_zero,← hcl,List.take_length]
 rw [e] at r1 r2
 refine ⟨conv x,by rw [hc];exact r1,r2,?_,ho x r4⟩
 rw [hs]
 simp only [Rows.uptoBulk]
 omega
theorem zm2 {t:TypeId} {fs:Array Field} {v:Value} {d:DataW H} {p:List MemPlace} {base:Nat} {c:α→List IV} {sz:α→Nat} {ok:α→Prop} (ht:Tryz.prog.underlying t=some (.struct fs)) (hv:Value.okWide Tryz.prog W .any base t v)
  (h:DataW.Trod enc Tryz.prog W 0 (fun _=>true) true t v d p) (O:Opn W enc t c sz ok) (hb:Rows.uptoBulk d≤1048576):∃ x,RepI W (lowS W) v (.agg (c x))∧sz x≤Rows.uptoBulk d∧ok x:=by
 obtain ⟨cs,rfl,_⟩:=okWide_struct ht hv
 obtain ⟨fuel,hf⟩:=h
 obtain ⟨x,r1,r2,r3,r4⟩:=O fuel cs.toList d p (by simpa [Value.cells] using hf) hb
 refine ⟨x,?_,r3,r4⟩
 have:=RepI.agg (w:=W) (S:=lowS W) cs.toList (c x) r1.1 r2 r1.2
 simpa using this
theorem sp_law {f:FuncId} {W:World} {vs:List Value} {xs:List Arg} (h:Sp Tryz.prog f xs (.im (nB true))) (ha:ArgsOk W (lowS W) vs xs []) :
  Calls Tryz.prog f vs.toArray W fun e W'=>e=.returned (.bool true)∧Below W.heap.size W W':=by
 refine (h.2 W (lowS W) vs [] (fun b hb=>hb) ha List.nodup_nil (fun b hb=>by cases hb)).mono ?_
 rintro e W' ⟨v,F',rfl,hb,⟨us,F1,F2,e1,ho,_,_⟩,_,_⟩
 have e1:us=[v]:=e1
 subst e1
 refine ⟨?_,hb.below fun b hb=>by cases hb⟩
 obtain ⟨F3,F4,⟨hr,_⟩,_⟩:=ho
 cases hr
 rfl
end
end Go.Proofs.YtcneaiejdidooaaGreatDoor.Sym

namespace Go.Proofs.YtcneaiejdidooaaGreatDoor.Sym
open Go.RowKit
set_option maxRecDepth 100000
section
variable {H:Type} {enc:TypeId×Value→H} {W:World}
theorem opn_0:Opn W enc 25 (cL cI) (szL sz1) (okL inR):=zl9 (k:=1) Tryz.underlying25 (by kernel_rfl) (by decide) (fun _=>rfl) opn_int
theorem opn_1:Opn W enc 22 (cL (cL cI)) (szL (szL sz1)) (okL (okL inR)):=zl9 (k:=1) Tryz.underlying22 (by kernel_rfl) (by decide) (fun _=>rfl) opn_0
def zen (x:zab):Nat:=(sz1 x.Inputs+(sz1 x.Start+((szL (szL sz1)) x.Next+((szL (szL sz1)) x.Out+0))))+1
def zg3 (x:zab):Prop:=inR x.Inputs∧inR x.Start∧(okL (okL inR)) x.Next∧(okL (okL inR)) x.Out
theorem zi6:Opn W enc 24 zad zen zg3 :=
 zd0 (len:=4) Tryz.underlying24 (by kernel_rfl) (za8 (k:=1) rfl (by kernel_rfl) opn_int (fun _=>rfl) (za8 (k:=1) rfl (by kernel_rfl) opn_int (fun _=>rfl) (za8 (k:=1) rfl (by kernel_rfl) opn_1 (fun _=>rfl) (za8 (k:=1) rfl (by kernel_rfl) opn_1 (fun _=>rfl) zeu)))) (fun p=>⟨p.1,p.2.1,p.2.2.1,p.2.2.2.1⟩) (fun _=>rfl) (fun _=>rfl) (fun p h=>⟨h.1,h.2.1,h.2.2.1,h.2.2.2.1⟩)
def zem (x:zav):Nat:=((szL sz1) x.Step+(sz1 x.Reset+0))+1
def zh4 (x:zav):Prop:=(okL inR) x.Step∧inR x.Reset
theorem zkv:Opn W enc 27 zcg zem zh4 :=
 zd0 (len:=2) Tryz.underlying27 (by kernel_rfl) (za8 (k:=1) rfl (by kernel_rfl) opn_0 (fun _=>rfl) (za8 (k:=1) rfl (by kernel_rfl) opn_int (fun _=>rfl) zeu)) (fun p=>⟨p.1,p.2.1⟩) (fun _=>rfl) (fun _=>rfl) (fun p h=>⟨h.1,h.2.1⟩)
def zil (x:zbg):Nat:=(sz1 x.Lost+(sz1 x.Wrong+(sz1 x.Crash+0)))+1
def zi7 (x:zbg):Prop:=inR x.Lost∧inR x.Wrong∧inR x.Crash
theorem zmr:Opn W enc 29 c_api_Faults zil zi7 :=
 zd0 (len:=3) Tryz.underlying29 (by kernel_rfl) (za8 (k:=1) rfl (by kernel_rfl) opn_int (fun _=>rfl) (za8 (k:=1) rfl (by kernel_rfl) opn_int (fun _=>rfl) (za8 (k:=1) rfl (by kernel_rfl) opn_int (fun _=>rfl) zeu))) (fun p=>⟨p.1,p.2.1,p.2.2.1⟩) (fun _=>rfl) (fun _=>rfl) (fun p h=>⟨h.1,h.2.1,h.2.2.1⟩)
def ze3 (x:zaf):Nat:=(zen x.M+(sz1 x.State+(sz1 x.Ready+(zem x.Latency+(zil x.Faults+(sz1 x.Seed+(sz1 x.Steps+(sz1 x.Resets+(sz1 x.Time+0)))))))))+1
def ziy (x:zaf):Prop:=zg3 x.M∧inR x.State∧okT x.Ready∧zh4 x.Latency∧zi7 x.Faults∧okU x.Seed∧inR x.Steps∧inR x.Resets∧inR x.Time
theorem zmp:Opn W enc 32 zb2 ze3 ziy :=
 zd0 (len:=15) Tryz.underlying32 (by kernel_rfl) (za8 (k:=4) rfl (by kernel_rfl) zi6 (fun _=>rfl) (za8 (k:=1) rfl (by kernel_rfl) opn_int (fun _=>rfl) (za8 (k:=1) rfl (by kernel_rfl) (opn_bool Tryz.underlying4) (fun _=>rfl) (za8 (k:=2) rfl (by kernel_rfl) zkv (fun _=>rfl) (za8 (k:=3) rfl (by kernel_rfl) zmr (fun _=>rfl) (za8 (k:=1) rfl (by kernel_rfl) (opn_u64 Tryz.underlying30) (fun _=>rfl) (za8 (k:=1) rfl (by kernel_rfl) opn_int (fun _=>rfl) (za8 (k:=1) rfl (by kernel_rfl) opn_int (fun _=>rfl) (za8 (k:=1) rfl (by kernel_rfl) opn_int (fun _=>rfl) zeu))))))))) (fun p=>⟨p.1,p.2.1,p.2.2.1,p.2.2.2.1,p.2.2.2.2.1,p.2.2.2.2.2.1,p.2.2.2.2.2.2.1,p.2.2.2.2.2.2.2.1,p.2.2.2.2.2.2.2.2.1⟩) (fun _=>rfl) (fun _=>rfl) (fun p h=>⟨h.1,h.2.1,h.2.2.1,h.2.2.2.1,h.2.2.2.2.1,h.2.2.2.2.2.1,h.2.2.2.2.2.2.1,h.2.2.2.2.2.2.2.1,h.2.2.2.2.2.2.2.2.1⟩)
def zcs (x:zaa):Nat:=((szL sz1) x.In+((szL sz1) x.Out+0))+1
def zhf (x:zaa):Prop:=(okL inR) x.In∧(okL inR) x.Out
theorem opn_api_Trace:Opn W enc 55 zac zcs zhf :=
 zd0 (len:=2) Tryz.underlying55 (by kernel_rfl) (za8 (k:=1) rfl (by kernel_rfl) opn_0 (fun _=>rfl) (za8 (k:=1) rfl (by kernel_rfl) opn_0 (fun _=>rfl) zeu)) (fun p=>⟨p.1,p.2.1⟩) (fun _=>rfl) (fun _=>rfl) (fun p h=>⟨h.1,h.2.1⟩)
theorem opn_7:Opn W enc 33 (cL zac) (szL zcs) (okL zhf):=zl9 (k:=2) Tryz.underlying33 (by kernel_rfl) (by decide) (fun _=>rfl) opn_api_Trace
def zgc (x:zam):Nat:=(sz1 x.Inputs+((szL zcs) x.Traces+0))+1
def zm7 (x:zam):Prop:=inR x.Inputs∧(okL zhf) x.Traces
theorem opn_api_Obs:Opn W enc 35 zbh zgc zm7 :=
 zd0 (len:=2) Tryz.underlying35 (by kernel_rfl) (za8 (k:=1) rfl (by kernel_rfl) opn_int (fun _=>rfl) (za8 (k:=1) rfl (by kernel_rfl) opn_7 (fun _=>rfl) zeu)) (fun p=>⟨p.1,p.2.1⟩) (fun _=>rfl) (fun _=>rfl) (fun p h=>⟨h.1,h.2.1⟩)
def ze1 (x:zae):Nat:=(ze3 x.Device+(zgc x.Obs+(sz1 x.Votes+(sz1 x.Tries+(sz1 x.Asked+(sz1 x.Hits+0))))))+1
def zgm (x:zae):Prop:=ziy x.Device∧zm7 x.Obs∧inR x.Votes∧inR x.Tries∧inR x.Asked∧inR x.Hits
theorem zmy:Opn W enc 37 zbj ze1 zgm :=
 zd0 (len:=21) Tryz.underlying37 (by kernel_rfl) (za8 (k:=15) rfl (by kernel_rfl) zmp (fun _=>rfl) (za8 (k:=2) rfl (by kernel_rfl) opn_api_Obs (fun _=>rfl) (za8 (k:=1) rfl (by kernel_rfl) opn_int (fun _=>rfl) (za8 (k:=1) rfl (by kernel_rfl) opn_int (fun _=>rfl) (za8 (k:=1) rfl (by kernel_rfl) opn_int (fun _=>rfl) (za8 (k:=1) rfl (by kernel_rfl) opn_int (fun _=>rfl) zeu)))))) (fun p=>⟨p.1,p.2.1,p.2.2.1,p.2.2.2.1,p.2.2.2.2.1,p.2.2.2.2.2.1⟩) (fun _=>rfl) (fun _=>rfl) (fun p h=>⟨h.1,h.2.1,h.2.2.1,h.2.2.2.1,h.2.2.2.2.1,h.2.2.2.2.2.1⟩)
def ze9 (x:za0):Nat:=(zen x.M+((szL (szL sz1)) x.Words+0))+1
def zg4 (x:za0):Prop:=zg3 x.M∧(okL (okL inR)) x.Words
theorem zj9:Opn W enc 39 zbd ze9 zg4 :=
 zd0 (len:=5) Tryz.underlying39 (by kernel_rfl) (za8 (k:=4) rfl (by kernel_rfl) zi6 (fun _=>rfl) (za8 (k:=1) rfl (by kernel_rfl) opn_1 (fun _=>rfl) zeu)) (fun p=>⟨p.1,p.2.1⟩) (fun _=>rfl) (fun _=>rfl) (fun p h=>⟨h.1,h.2.1⟩)
end
end Go.Proofs.YtcneaiejdidooaaGreatDoor.Sym

/-
 Plain functions on words (lists of integers) and lists of words, and their laws: no program in sight.
-/
namespace Go.Proofs.YtcneaiejdidooaaGreatDoor
def common:List Int→List Int→Nat
 | x::xs,y::ys=>if x=y then common xs ys+1 else 0
 | _,_=>0
theorem zfg:∀ xs ys:List Int,common xs ys≤xs.length∧common xs ys≤ys.length
 | [],_=>by simp [common]
 | _::_,[]=>by simp [common]
 | x::xs,y::ys=>by
  have h:=zfg xs ys
  simp only [common]
  split<;>simp<;>omega
theorem zjk {xs ys:List Int} {k:Nat} (h:xs.length≤k∨ys.length≤k):common (xs.drop k) (ys.drop k)=0:=by
 rcases h with h | h
 ·rw [List.drop_eq_nil_of_le h];simp [common]
 ·rw [List.drop_eq_nil_of_le h];cases xs.drop k<;>simp [common]
theorem zfy:∀ w p:List Int,common w p=p.length↔p <+: w
 | [],[]=>by simp [common]
 | [],y::ys=>by simp [common]
 | x::xs,[]=>by simp [common]
 | x::xs,y::ys=>by
  simp only [common,List.length_cons,List.cons_prefix_cons]
  by_cases h:x=y
  ·subst h
   simp [zfy xs ys]
  ·rw [if_neg h]
   constructor
   ·intro h';omega
   ·rintro ⟨rfl,_⟩;exact absurd rfl h
def lexI:List Int→List Int→Int
 | [],[]=>0
 | [],_::_=>-1
 | _::_,[]=>1
 | x::xs,y::ys=>if x<y then -1 else if y<x then 1 else lexI xs ys
def cmpW (a b:List Int):Int:=if a.length<b.length then -1 else if b.length<a.length then 1 else lexI a b
theorem zng:∀ a b:List Int,lexI a b=-1∨lexI a b=0∨lexI a b=1
 | [],[]=>by simp [lexI]
 | [],_::_=>by simp [lexI]
 | _::_,[]=>by simp [lexI]
 | x::xs,y::ys=>by
  simp only [lexI]
  split
  ·simp
  ·split
   ·simp
   ·exact zng xs ys
theorem lexI_zero:∀ a b:List Int,lexI a b=0↔a=b
 | [],[]=>by simp [lexI]
 | [],_::_=>by simp [lexI]
 | _::_,[]=>by simp [lexI]
 | x::xs,y::ys=>by
  simp only [lexI,List.cons.injEq]
  by_cases h1:x<y
  ·rw [if_pos h1];constructor
   ·intro h;omega
   ·rintro ⟨rfl,_⟩;omega
  ·rw [if_neg h1]
   by_cases h2:y<x
   ·rw [if_pos h2];constructor
    ·intro h;omega
    ·rintro ⟨rfl,_⟩;omega
   ·rw [if_neg h2,lexI_zero xs ys]
    constructor
    ·intro h;exact ⟨by omega,h⟩
    ·rintro ⟨_,h⟩;exact h
theorem lexI_swap:∀ a b:List Int,lexI b a=- lexI a b
 | [],[]=>by simp [lexI]
 | [],_::_=>by simp [lexI]
 | _::_,[]=>by simp [lexI]
 | x::xs,y::ys=>by
  simp only [lexI]
  by_cases h1:x<y
  ·rw [if_neg (show ¬ y<x by omega),if_pos h1,if_pos h1];simp
  ·by_cases h2:y<x
   ·rw [if_pos h2,if_neg h1,if_pos h2]
   ·rw [if_neg h2,if_neg h1,if_neg h1,if_neg h2];exact lexI_swap xs ys
theorem zm3:∀ a b c:List Int,lexI a b=-1→lexI b c=-1→lexI a c=-1
 | [],[],_,h,_=>by simp [lexI] at h
 | [],_::_,[],_,h=>by simp [lexI] at h
 | [],_::_,_::_,_,_=>by simp [lexI]
 | _::_,[],_,h,_=>by simp [lexI] at h
 | _::_,_::_,[],_,h=>by simp [lexI] at h
 | x::xs,y::ys,z::zs,h1,h2=>by
  simp only [lexI] at h1 h2 ⊢
  by_cases p:x<y
  ·by_cases q:y<z
   ·rw [if_pos (by omega)]
   ·rw [if_neg q] at h2
    by_cases r:z<y
    ·rw [if_pos r] at h2;omega
    ·rw [if_pos (by omega)]
  ·rw [if_neg p] at h1
   by_cases p':y<x
   ·rw [if_pos p'] at h1;omega
   ·rw [if_neg p'] at h1
    by_cases q:y<z
    ·rw [if_pos (by omega)]
    ·rw [if_neg q] at h2
     by_cases r:z<y
     ·rw [if_pos r] at h2;omega
     ·rw [if_neg r] at h2
      rw [if_neg (by omega),if_neg (by omega)]
      exact zm3 xs ys zs h1 h2
theorem zlc:∀ a b:List Int,lexI a b =
  if common a b=a.length∧common a b=b.length then 0 else
  if common a b=a.length∨(common a b<b.length∧a.getD (common a b) 0<b.getD (common a b) 0) then -1 else 1
 | [],[]=>by simp [lexI,common]
 | [],_::_=>by simp [lexI,common]
 | _::_,[]=>by simp [lexI,common]
 | x::xs,y::ys=>by
  have ih:=zlc xs ys
  simp only [lexI,common]
  by_cases h:x=y
  ·subst h
   rw [if_neg (by omega),if_neg (by omega),ih]
   simp
  ·by_cases h1:x<y
   ·simp [h,h1]
   ·have h2:y<x:=by omega
    simp [h,h1,h2]
theorem zf8 (a b:List Int):cmpW a b=-1∨cmpW a b=0∨cmpW a b=1:=by
 unfold cmpW
 split
 ·simp
 ·split
  ·simp
  ·exact zng a b
theorem zks (a b:List Int):cmpW a b=0↔a=b:=by
 unfold cmpW
 by_cases h1:a.length<b.length
 ·rw [if_pos h1];constructor
  ·intro h;omega
  ·rintro rfl;omega
 ·rw [if_neg h1]
  by_cases h2:b.length<a.length
  ·rw [if_pos h2];constructor
   ·intro h;omega
   ·rintro rfl;omega
  ·rw [if_neg h2,lexI_zero]
theorem ziq (a b:List Int):cmpW b a=- cmpW a b:=by
 unfold cmpW
 by_cases h1:a.length<b.length
 ·rw [if_neg (by omega),if_pos h1,if_pos h1];simp
 ·by_cases h2:b.length<a.length
  ·rw [if_pos h2,if_neg h1,if_pos h2]
  ·rw [if_neg h2,if_neg h1,if_neg h1,if_neg h2];exact lexI_swap a b
theorem ze6 (a b c:List Int) (h1:cmpW a b=-1) (h2:cmpW b c=-1):cmpW a c=-1:=by
 unfold cmpW at *
 by_cases p:a.length<b.length
 ·by_cases q:b.length<c.length
  ·rw [if_pos (by omega)]
  ·rw [if_neg q] at h2
   by_cases r:c.length<b.length
   ·rw [if_pos r] at h2;omega
   ·rw [if_pos (by omega)]
 ·rw [if_neg p] at h1
  by_cases p':b.length<a.length
  ·rw [if_pos p'] at h1;omega
  ·rw [if_neg p'] at h1
   by_cases q:b.length<c.length
   ·rw [if_pos (by omega)]
   ·rw [if_neg q] at h2
    by_cases r:c.length<b.length
    ·rw [if_pos r] at h2;omega
    ·rw [if_neg r] at h2
     rw [if_neg (by omega),if_neg (by omega)]
     exact zm3 a b c h1 h2
def Asc (l:List (List Int)):Prop:=l.Pairwise fun a b=>cmpW a b=-1
def placeL (l:List (List Int)) (w:List Int):Nat:=(l.takeWhile fun x=>cmpW x w==-1).length
def checkI (xs:List Int) (inputs:Int):Int :=
 if 1≤inputs∧inputs≤1024 then if 1024<xs.length then 3 else if xs.all fun a=>decide (0≤a∧a<inputs) then 0 else 1 else 2
theorem Asc.get {l:List (List Int)} (h:Asc l) {i j:Nat} {x y:List Int} (hij:i<j) (hx:l[i]?=some x) (hy:l[j]?=some y):cmpW x y=-1:=by
 have hj:j<l.length:=(List.getElem?_eq_some_iff.1 hy).1
 have h1:=List.pairwise_iff_getElem.1 h i j (by omega) hj hij
 rw [List.getElem?_eq_getElem (by omega)] at hx
 rw [List.getElem?_eq_getElem hj] at hy
 injection hx with hx
 injection hy with hy
 rw [← hx,← hy]
 exact h1
def insW (l:List (List Int)) (x:List Int):List (List Int):=if x∈l then l else l.take (placeL l x)++x::l.drop (placeL l x)
theorem zkh:∀ (l:List (List Int)) (w:List Int),(∀ i x,i<placeL l w→l[i]?=some x→cmpW x w=-1)∧(∀ x,l[placeL l w]?=some x→cmpW x w≠-1)
 | [],w=>by simp [placeL]
 | y::l,w=>by
  have ih:=zkh l w
  by_cases hy:cmpW y w=-1
  ·have e:placeL (y::l) w=placeL l w+1:=by simp [placeL,hy]
   rw [e]
   refine ⟨fun i x hi hx=>?_,fun x hx=>ih.2 x (by simpa using hx)⟩
   cases i with
   | zero=>simp at hx;rw [← hx];exact hy
   | succ i=>exact ih.1 i x (by omega) (by simpa using hx)
  ·have e:placeL (y::l) w=0:=by simp [placeL,hy]
   rw [e]
   refine ⟨fun i x hi=>absurd hi (by omega),fun x hx=>?_⟩
   simp at hx
   rw [← hx]
   exact hy
theorem Asc.insW {l:List (List Int)} (h:Asc l) (x:List Int):Asc (insW l x):=by
 unfold Go.Proofs.YtcneaiejdidooaaGreatDoor.insW
 split
 ·exact h
 ·rename_i hm
  have hs:=zkh l x
  have hlo:∀ a∈l.take (placeL l x),cmpW a x=-1:=fun a ha=>by
   obtain ⟨i,hi⟩:=List.getElem?_of_mem ha
   rw [List.getElem?_take] at hi
   split at hi
   ·rename_i hlt;exact hs.1 i a hlt hi
   ·cases hi
  have hhi:∀ b∈l.drop (placeL l x),cmpW x b=-1:=fun b hb=>by
   obtain ⟨i,hi⟩:=List.getElem?_of_mem hb
   rw [List.getElem?_drop] at hi
   have hlen:placeL l x+i<l.length:=(List.getElem?_eq_some_iff.1 hi).1
   have hg:l[placeL l x]?=some l[placeL l x]:=List.getElem?_eq_getElem (by omega)
   have h0:=hs.2 _ hg
   have hne:cmpW l[placeL l x] x≠0:=fun e=>hm (by rw [← (zks _ _).1 e];exact List.getElem_mem _)
   have hr:=zf8 l[placeL l x] x
   have h1:cmpW x l[placeL l x]=-1:=by rw [ziq];omega
   by_cases hi0:i=0
   ·subst hi0
    rw [Nat.add_zero,hg] at hi
    injection hi with hi
    rw [← hi];exact h1
   ·exact ze6 _ _ _ h1 (h.get (by omega) hg hi)
  unfold Asc
  rw [List.pairwise_append,List.pairwise_cons]
  refine ⟨List.Pairwise.sublist (List.take_sublist _ _) h,⟨hhi,List.Pairwise.sublist (List.drop_sublist _ _) h⟩,fun a ha b hb=>?_⟩
  rcases List.mem_cons.1 hb with rfl | hb
  ·exact hlo a ha
  ·exact ze6 _ _ _ (hlo a ha) (hhi b hb)
def sortW (l:List (List Int)):List (List Int):=l.foldl insW []
end Go.Proofs.YtcneaiejdidooaaGreatDoor

/-
 How slices of integers, of words and of lists of words read in a world, and what keeps them so. No function of the program in sight.
-/
namespace Go.Proofs.YtcneaiejdidooaaGreatDoor
open Go.RowKit
def Keeps (w w':World):Prop:=∀ p u,w.cell? p=some u→w'.cell? p=some u
theorem Keeps.refl (w:World):Keeps w w:=fun _ _ h=>h
theorem Keeps.trans {a b c:World} (h:Keeps a b) (k:Keeps b c):Keeps a c:=fun p u hu=>k p u (h p u hu)
theorem Keeps.of_below {w w':World} (h:Below w.heap.size w w'):Keeps w w':=fun p _ hu =>
 (h.cell (p:=p) (World.block_lt_of_cell? w p hu)).trans hu
theorem Keeps.drewN (w:World) (q:Nat):Keeps w (w.drewN q):=fun _ _ h=>h
def RowOf {α:Type} (w:World) (R:Value→α→Prop) (A:Option Addr) (n c:Nat) (l:List α):Prop :=
 l.length=n∧n≤c∧n≤17592186044416 ∧
  (0<n→∃ b o,A=some ⟨b,o,none⟩∧∀ i x,l[i]?=some x→∃ u,w.cell? ⟨b,o+i,none⟩=some u∧R u x)
def IsInt (u:Value) (x:Int):Prop:=u=.int .i64 x
def IsI (w:World) (v:Value) (xs:List Int):Prop:=∃ A n c,v=.slice A n c∧RowOf w IsInt A n c xs
def IsW (w:World) (v:Value) (l:List (List Int)):Prop:=∃ A n c,v=.slice A n c∧RowOf w (IsI w) A n c l
def IsL (w:World) (v:Value) (l:List (List (List Int))):Prop:=∃ A n c,v=.slice A n c∧RowOf w (IsW w) A n c l
section
variable {α:Type} {w w':World} {R R':Value→α→Prop} {A:Option Addr} {n c k:Nat} {l:List α}
theorem RowOf.len (h:RowOf w R A n c l):l.length=n:=h.1
theorem RowOf.cap (h:RowOf w R A n c l):n≤c:=h.2.1
theorem RowOf.small (h:RowOf w R A n c l):n≤17592186044416:=h.2.2.1
theorem RowOf.keep (h:RowOf w R A n c l) (hk:Keeps w w') (hR:∀ u x,R u x→R' u x):RowOf w' R' A n c l :=
 ⟨h.1,h.2.1,h.2.2.1,fun hn=>by
  obtain ⟨b,o,e,hc⟩:=h.2.2.2 hn
  refine ⟨b,o,e,fun i x hx=>?_⟩
  obtain ⟨u,hu,hr⟩:=hc i x hx
  exact ⟨u,hk _ _ hu,hR _ _ hr⟩⟩
theorem RowOf.at_ (h:RowOf w R A n c l) (hk:k<n):∃ b o u x,A=some ⟨b,o,none⟩∧l[k]?=some x∧w.cell? ⟨b,o+k,none⟩=some u∧R u x:=by
 obtain ⟨b,o,e,hc⟩:=h.2.2.2 (by omega)
 have hl:k<l.length:=by rw [h.1];exact hk
 obtain ⟨u,hu,hr⟩:=hc k l[k] (List.getElem?_eq_getElem hl)
 exact ⟨b,o,u,l[k],e,List.getElem?_eq_getElem hl,hu,hr⟩
theorem RowOf.nil_:RowOf w R none 0 0 ([]:List α):=⟨rfl,Nat.le_refl _,by omega,fun h=>absurd h (by omega)⟩
theorem RowOf.take (h:RowOf w R A n c l) (hk:k≤n):RowOf w R A k c (l.take k):=by
 refine ⟨by rw [List.length_take,h.1];omega,Nat.le_trans hk h.2.1,Nat.le_trans hk h.2.2.1,fun h0=>?_⟩
 obtain ⟨b,o,e,hc⟩:=h.2.2.2 (by omega)
 refine ⟨b,o,e,fun i x hx=>hc i x ?_⟩
 rw [List.getElem?_take] at hx
 split at hx
 ·exact hx
 ·cases hx
end
theorem IsI.keep {w w':World} {v:Value} {xs:List Int} (h:IsI w v xs) (hk:Keeps w w'):IsI w' v xs:=by
 obtain ⟨A,n,c,e,hr⟩:=h
 exact ⟨A,n,c,e,hr.keep hk fun _ _ h=>h⟩
theorem IsW.keep {w w':World} {v:Value} {l:List (List Int)} (h:IsW w v l) (hk:Keeps w w'):IsW w' v l:=by
 obtain ⟨A,n,c,e,hr⟩:=h
 exact ⟨A,n,c,e,hr.keep hk fun _ _ h=>h.keep hk⟩
theorem IsL.keep {w w':World} {v:Value} {l:List (List (List Int))} (h:IsL w v l) (hk:Keeps w w'):IsL w' v l:=by
 obtain ⟨A,n,c,e,hr⟩:=h
 exact ⟨A,n,c,e,hr.keep hk fun _ _ h=>h.keep hk⟩
theorem IsI.below {w w':World} {v:Value} {xs:List Int} (h:IsI w v xs) (hb:Below w.heap.size w w'):IsI w' v xs:=h.keep (.of_below hb)
theorem IsW.below {w w':World} {v:Value} {l:List (List Int)} (h:IsW w v l) (hb:Below w.heap.size w w'):IsW w' v l:=h.keep (.of_below hb)
theorem IsL.below {w w':World} {v:Value} {l:List (List (List Int))} (h:IsL w v l) (hb:Below w.heap.size w w'):IsL w' v l:=h.keep (.of_below hb)
theorem IsI.nil_ (w:World):IsI w (.slice none 0 0) []:=⟨_,_,_,rfl,RowOf.nil_⟩
theorem IsW.nil_ (w:World):IsW w (.slice none 0 0) []:=⟨_,_,_,rfl,RowOf.nil_⟩
theorem RowOf.int_at {w:World} {A:Option Addr} {n c k:Nat} {xs:List Int} (h:RowOf w IsInt A n c xs) (hk:k<n) :
  ∃ b o x,A=some ⟨b,o,none⟩∧xs[k]?=some x∧w.cell? ⟨b,o+k,none⟩=some (.int .i64 x):=by
 obtain ⟨b,o,u,x,e,hx,hu,rfl⟩:=h.at_ hk
 exact ⟨b,o,x,e,hx,hu⟩
theorem drewN_two (w:World) (a b:Nat):∃ r,(w.drewN a).drewN b=w.drewN r:=⟨a+b,by rw [World.drewN_drewN]⟩
theorem ret_int {k:IntKind} {a b:Int} (h:a=b):Ending.returned (.int k a)=.returned (.int k b):=by rw [h]
def Qt (w w':World):Prop:=∃ q,w'=w.drewN q
theorem Qt.refl (w:World):Qt w w:=⟨0,rfl⟩
theorem Qt.drewN {w w':World} (h:Qt w w') (n:Nat):Qt w (w'.drewN n):=by
 obtain ⟨q,rfl⟩:=h
 exact drewN_two w q n
theorem Qt.keeps {w w':World} (h:Qt w w'):Keeps w w':=by
 obtain ⟨q,rfl⟩:=h
 exact Keeps.drewN w q
theorem Qt.trans {a b c:World} (h:Qt a b) (k:Qt b c):Qt a c:=by
 obtain ⟨q,rfl⟩:=k
 exact h.drewN q
theorem RowOf.kept {α:Type} {w w':World} {R:Value→α→Prop} {A:Option Addr} {n c:Nat} {l:List α} (h:RowOf w R A n c l) (hk:Keeps w w'):RowOf w' R A n c l:=h.keep hk fun _ _ h=>h
theorem RowOf.words {w w':World} {A:Option Addr} {n c:Nat} {l:List (List Int)} (h:RowOf w (IsI w) A n c l) (hk:Keeps w w'):RowOf w' (IsI w') A n c l:=h.keep hk fun _ _ h=>h.keep hk
theorem RowOf.lists {w w':World} {A:Option Addr} {n c:Nat} {l:List (List (List Int))} (h:RowOf w (IsW w) A n c l) (hk:Keeps w w'):RowOf w' (IsW w') A n c l:=h.keep hk fun _ _ h=>h.keep hk
theorem zb9 {α:Type} {l:List α} {k:Nat} {x:α} (hl:l[k]?=some x):l.take (k+1)=l.take k++[x]:=by
 rw [List.take_add_one,hl];rfl
theorem zfn {α:Type} {l:List α} {k:Nat} {x d:α} (h:l[k]?=some x):l.getD k d=x:=by simp [List.getD_eq_getElem?_getD,h]
end Go.Proofs.YtcneaiejdidooaaGreatDoor

/-
 Rows that the call itself made: words and lists of words that grow by append. No function of the program in sight.
-/
namespace Go.Proofs.YtcneaiejdidooaaGreatDoor
open Go.RowKit
theorem Tryz.infoInt:(Tryz.prog.info? 3).map (fun i=>(i.zero,i.size,i.bytes))=some (some (.int .i64 0),1,8):=by kernel_rfl
theorem addr_add (b o j:Nat):(⟨b,o,none⟩:Addr).add j=⟨b,o+j,none⟩:=by
 unfold Addr.add
 split
 ·rename_i h;subst h;rfl
 ·rfl
def Src (w:World) (A:Option Addr) (m:Nat) (news:List Value):Prop :=
 news.length=m∧(0<m→∃ b o,A=some ⟨b,o,none⟩∧∀ j u,news[j]?=some u→w.cell? ⟨b,o+j,none⟩=some u)
section
variable {P:Program} {w:World}
theorem zmz (base:Nat) (t ty e:TypeId) (i:TypeInfo) (z:Value) (bytes:Nat) (ht:P.underlying t=some (.slice e)) (hi:P.info? e=some i) (hz:i.zero=some z)
  (hsize:i.size=1) (hby:i.bytes=bytes) (hzs:z.cells.size=1) (v:Value) (n:Nat) (xs:List Value) (hown:w.ownsRow base e 1 v n xs)
  (A:Option Addr) (m c:Nat) (news:List Value) (hs:Src w A m news) (h1:∀ u∈news,u.oneCell'=true)
  (h63:n+m≤maxLen) (hbytes:(n+m)*bytes≤140737488355328) (hbase:base≤w.heap.size) :
  ∃ v' w',(Builtin.append_ #[t,t] ty #[v,.slice A m c]).run P w=.ok v' w'∧w'.ownsRow base e 1 v' (n+m) (xs++news)∧w.grownBy w' v.ownBlock ∧
   (v'.ownBlock=v.ownBlock∨v'.ownBlock=some w.heap.size):=by
 obtain ⟨hl,hc⟩:=hs
 cases A with
 | none =>
  have hm:m=0:=by
   rcases Nat.eq_zero_or_pos m with h0 | h0
   ·exact h0
   ·obtain ⟨b,o,h,_⟩:=hc h0;cases h
  subst hm
  have hn:news=[]:=List.eq_nil_of_length_eq_zero hl
  subst hn
  refine ⟨v,w,?_,by simpa using hown,World.grownBy.refl w _,.inl rfl⟩
  rcases hown.2 with ⟨rfl,rfl⟩ | ⟨g,cap,cur,rfl,_,_,hnc,_⟩
  ·simp [Builtin.append_,run_underlying ht,sizeOf,typeInfo,hi,Builtin.lenOf,Builtin.firstCells]
  ·simp [Builtin.append_,run_underlying ht,sizeOf,typeInfo,hi,Builtin.lenOf,Builtin.firstCells,hnc,storeCells]
 | some ad =>
  have hcells:∀ j u,news[j]?=some u→w.cell? (ad.add j)=some u:=by
   intro j u hu
   rcases Nat.eq_zero_or_pos m with h0 | h0
   ·subst h0
    have hn:news=[]:=List.eq_nil_of_length_eq_zero hl
    subst hn
    simp at hu
   ·obtain ⟨b,o,h,hcc⟩:=hc h0
    injection h with h
    subst h
    rw [addr_add]
    exact hcc j u hu
  obtain ⟨v',w',hrun,h2,h3,_,h5⟩:=run_append_own_at (P:=P) w base t ty e i z 1 bytes ht hi hz hsize hby hzs (by omega) v n xs hown ad m c news (by omega) hcells h1 h63 hbytes hbase
  exact ⟨v',w',hrun,h2,h3,h5⟩
theorem wp_append_row {o:Oper} {a:Act} {K:Act→World→Prop} {Q:Exit→Act→World→Prop} (s x:Operand) (t:TypeId)
  (ho:o.op=.call { callee:=.builtin .append,args:=#[s,x],argTypes:=#[t,t] })
  (base:Nat) (e:TypeId) (i:TypeInfo) (z:Value) (bytes:Nat) (ht:P.underlying t=some (.slice e)) (hi:P.info? e=some i) (hz:i.zero=some z)
  (hsize:i.size=1) (hby:i.bytes=bytes) (hzs:z.cells.size=1) (v:Value) (n:Nat) (xs:List Value) (hs:a.eval s=v) (hown:w.ownsRow base e 1 v n xs)
  (A:Option Addr) (m c:Nat) (news:List Value) (hx:a.eval x=.slice A m c) (hsrc:Src w A m news) (h1:∀ u∈news,u.oneCell'=true)
  (h63:n+m≤maxLen) (hbytes:(n+m)*bytes≤140737488355328) (hbase:base≤w.heap.size)
  (h:∀ v' w',w'.ownsRow base e 1 v' (n+m) (xs++news)→w.grownBy w' v.ownBlock→(v'.ownBlock=v.ownBlock∨v'.ownBlock=some w.heap.size)→K (a.put o.dst v') w'):o.wp P a w K Q:=by
 obtain ⟨v',w',hrun,h2,h3,h4⟩:=zmz (P:=P) base t o.type e i z bytes ht hi hz hsize hby hzs v n xs hown A m c news hsrc h1 h63 hbytes hbase
 unfold Oper.wp execOp
 simp only [ho,resolve,invoke,builtin,Sem.run_bind,Sem.run_pure,Result.andThen_ok,List.map_toArray,List.map_cons,List.map_nil,hs,hx,hrun]
 exact h v' w' h2 h3 h4
theorem zeb {ops:Array Oper} {rest:List Oper} {o:Oper} {a:Act} {Q:Exit→Act→World→Prop} (hgd:o.guard=none) (s x:Operand) (t:TypeId)
  (ho:o.op=.call { callee:=.builtin .append,args:=#[s,x],argTypes:=#[t,t] })
  (base:Nat) (e:TypeId) (i:TypeInfo) (z:Value) (bytes:Nat) (ht:P.underlying t=some (.slice e)) (hi:P.info? e=some i) (hz:i.zero=some z)
  (hsize:i.size=1) (hby:i.bytes=bytes) (hzs:z.cells.size=1) (v:Value) (n:Nat) (xs:List Value) (hs:a.eval s=v) (hown:w.ownsRow base e 1 v n xs)
  (A:Option Addr) (m c:Nat) (news:List Value) (hx:a.eval x=.slice A m c) (hsrc:Src w A m news) (h1:∀ u∈news,u.oneCell'=true)
  (h63:n+m≤maxLen) (hbytes:(n+m)*bytes≤140737488355328) (hbase:base≤w.heap.size)
  (h:∀ v' w',w'.ownsRow base e 1 v' (n+m) (xs++news)→w.grownBy w' v.ownBlock→(v'.ownBlock=v.ownBlock∨v'.ownBlock=some w.heap.size)→wpList P ops Q rest (a.put o.dst v') w') :
  wpList P ops Q (o::rest) a w :=
 wpList_plain hgd fun _ hK=>wp_append_row s x t ho base e i z bytes ht hi hz hsize hby hzs v n xs hs hown A m c news hx hsrc h1 h63 hbytes hbase fun v' w' h2 h3 h4=>hK _ _ (h v' w' h2 h3 h4)
end
def Off (u:Value) (row:Option Nat):Prop:=∀ a n c,u=.slice (some a) n c→0<n→row≠some a.block
def OwnI (w:World) (base:Nat) (v:Value) (xs:List Int):Prop:=w.ownsRow base 3 1 v xs.length (xs.map (Value.int .i64))
def OwnW (w:World) (base:Nat) (v:Value) (l:List (List Int)):Prop :=
 ∃ us:List Value,us.length=l.length∧w.ownsRow base 25 1 v us.length us ∧
  ∀ (i:Nat) x,l[i]?=some x→∃ u,us[i]?=some u∧IsI w u x∧Off u v.ownBlock
theorem IsI.lt {w:World} {v:Value} {x:List Int} (h:IsI w v x):∀ a n c,v=.slice (some a) n c→0<n→a.block<w.heap.size:=by
 obtain ⟨A,n,c,rfl,hr⟩:=h
 rintro a n' c' e h0
 injection e with e1 e2 e3
 subst e1 e2
 obtain ⟨b,o,u,y,e,_,hu,_⟩:=hr.at_ h0
 injection e with e
 subst e
 exact World.block_lt_of_cell? w _ hu
theorem IsI.off_new {w:World} {v:Value} {x:List Int} (h:IsI w v x) {g:Nat} (hg:w.heap.size≤g):Off v (some g):=fun a n c e h0 hh=>by
 have:=h.lt a n c e h0
 injection hh with hh
 omega
theorem IsI.grown {w w':World} {v:Value} {x:List Int} {row:Option Nat} (h:IsI w v x) (hg:w.grownBy w' row) (ho:Off v row):IsI w' v x:=by
 obtain ⟨A,n,c,rfl,hr⟩:=h
 refine ⟨A,n,c,rfl,hr.1,hr.2.1,hr.2.2.1,fun hn=>?_⟩
 obtain ⟨b,o,rfl,hc⟩:=hr.2.2.2 hn
 refine ⟨b,o,rfl,fun i y hy=>?_⟩
 obtain ⟨u,hu,hr'⟩:=hc i y hy
 exact ⟨u,hg.cell hu (fun e=>ho _ _ _ rfl hn e.symm),hr'⟩
theorem zgq {w w':World} (hg:w.grownBy w' none):Keeps w w':=fun _ _ hu=>hg.cell hu (by simp)
theorem znc {w w':World} (h:Below w.heap.size w w'):w.grownBy w' none:=⟨h.os,h.tape,h.output,h.size,fun k hk _=>h.block k hk⟩
theorem zlt {w w':World} {row:Option Nat} (hg:w.grownBy w' row) {B:Nat} (hB:B≤w.heap.size) (hr:∀ g,row=some g→B≤g):Below B w w':=(Below.refl B w).grown hg hB hr
theorem OwnI.nil_ (w:World) (base:Nat):OwnI w base (.slice none 0 0) []:=World.ownsRow_nil _ _ _ _
theorem OwnW.nil_ (w:World) (base:Nat):OwnW w base (.slice none 0 0) []:=⟨[],rfl,World.ownsRow_nil _ _ _ _,fun i x h=>by simp at h⟩
theorem OwnI.lt {w:World} {base:Nat} {v:Value} {xs:List Int} (h:OwnI w base v xs):∀ k,v.ownBlock=some k→base≤k∧k<w.heap.size:=World.ownsRow.lt h
theorem OwnW.lt {w:World} {base:Nat} {v:Value} {l:List (List Int)} (h:OwnW w base v l):∀ k,v.ownBlock=some k→base≤k∧k<w.heap.size:=by
 obtain ⟨us,_,hown,_⟩:=h
 exact hown.lt
theorem OwnI.kept {w w':World} {base:Nat} {v:Value} {xs:List Int} {row:Option Nat} (h:OwnI w base v xs) (hg:w.grownBy w' row) (hne:v.ownBlock=none∨v.ownBlock≠row):OwnI w' base v xs :=
 World.ownsRow.kept h hg hne
theorem OwnW.kept {w w':World} {base:Nat} {v:Value} {l:List (List Int)} (h:OwnW w base v l) (hg:w.grownBy w' none):OwnW w' base v l:=by
 obtain ⟨us,hl,hown,hel⟩:=h
 refine ⟨us,hl,hown.kept hg (by cases v.ownBlock<;>simp),fun i x hx=>?_⟩
 obtain ⟨u,hu,hi,ho⟩:=hel i x hx
 exact ⟨u,hu,hi.keep (zgq hg),ho⟩
theorem OwnW.alloc {w:World} {base:Nat} {v:Value} {l:List (List Int)} (h:OwnW w base v l) (o:Obj):OwnW (w.alloc o) base v l:=h.kept (World.grownBy_alloc w o none)
theorem OwnI.alloc {w:World} {base:Nat} {v:Value} {xs:List Int} (h:OwnI w base v xs) (o:Obj):OwnI (w.alloc o) base v xs:=World.ownsRow.alloc h o
theorem OwnW.push {w w1 w2:World} {base:Nat} {v v' u:Value} {l:List (List Int)} {x:List Int} {us:List Value} (hl:us.length=l.length)
  (hel:∀ (i:Nat) x,l[i]?=some x→∃ u,us[i]?=some u∧IsI w u x∧Off u v.ownBlock) (hx:IsI w u x) (hoff:Off u v.ownBlock) (h1:w.grownBy w1 none)
  (hown:w2.ownsRow base 25 1 v' (us.length+1) (us++[u])) (hg:w1.grownBy w2 v.ownBlock) (hb:v'.ownBlock=v.ownBlock∨v'.ownBlock=some w1.heap.size):OwnW w2 base v' (l++[x]):=by
 have key:∀ u x,IsI w u x→Off u v.ownBlock→IsI w2 u x∧Off u v'.ownBlock:=fun u x hi ho=>by
  refine ⟨(hi.keep (zgq h1)).grown hg ho,?_⟩
  rcases hb with e | e
  ·rw [e];exact ho
  ·rw [e];exact hi.off_new h1.size
 refine ⟨us++[u],by simp [hl],by simpa using hown,fun i y hy=>?_⟩
 rw [List.getElem?_append] at hy
 split at hy
 ·rename_i hi
  obtain ⟨u',hu',h3,h4⟩:=hel i y hy
  exact ⟨u',by rw [List.getElem?_append,if_pos (by omega)];exact hu',key u' y h3 h4⟩
 ·rename_i hi
  have hi0:i-l.length=0:=by
   rcases Nat.eq_zero_or_pos (i-l.length) with h0 | h0
   ·exact h0
   ·rw [List.getElem?_eq_none (by simp;omega)] at hy;cases hy
  rw [hi0] at hy
  simp at hy
  subst hy
  exact ⟨u,by rw [List.getElem?_append,if_neg (by omega)];simp [hl,hi0],key u x hx hoff⟩
theorem RowOf.src {w:World} {A:Option Addr} {n c:Nat} {xs:List Int} (h:RowOf w IsInt A n c xs):Src w A n (xs.map (Value.int .i64)):=by
 refine ⟨by simp [h.len],fun h0=>?_⟩
 obtain ⟨b,o,e,hc⟩:=h.2.2.2 h0
 refine ⟨b,o,e,fun j u hu=>?_⟩
 rw [List.getElem?_map] at hu
 cases hx:xs[j]? with
 | none=>rw [hx] at hu;cases hu
 | some x =>
  rw [hx] at hu
  simp at hu
  obtain ⟨u',hu',rfl⟩:=hc j x hx
  rw [← hu]
  exact hu'
theorem src_one (w:World) (x:Value) (t:TypeId):Src (w.alloc (.cells #[x] t)) (some ⟨w.heap.size,0,none⟩) 1 [x] :=
 ⟨rfl,fun _=>⟨_,_,rfl,fun j u hu=>by
  have:=cell_one_new w x t j u hu
  rwa [addr_add] at this⟩⟩
end Go.Proofs.YtcneaiejdidooaaGreatDoor

/-
 The contract of slices.Clone.
-/
namespace Go.Proofs.YtcneaiejdidooaaGreatDoor.Sym
open Go.RowKit
section
variable {P:Program} {w:World}
theorem zd3 {ops:Array Oper} {rest:List Oper} {o:Oper} {a:Act} {Q:Exit→Act→World→Prop} (hgd:o.guard=none) (s x:Operand) (t:TypeId)
  (ho:o.op=.call { callee:=.builtin .append,args:=#[s,x],argTypes:=#[t,t] })
  (base:Nat) (e:TypeId) (i:TypeInfo) (z:Value) (size bytes:Nat) (ht:P.underlying t=some (.slice e)) (hi:P.info? e=some i) (hz:i.zero=some z)
  (hsize:i.size=size) (hby:i.bytes=bytes) (hzs:z.cells.size=size) (hsz:0<size) (v:Value) (n:Nat) (xs:List Value) (hs:a.eval s=v) (hown:w.ownsRow base e size v n xs)
  (A:Option Addr) (m c:Nat) (news:List Value) (hx:a.eval x=.slice A m c) (hl:news.length=m*size) (hsrc:0<m→∃ b q,A=some ⟨b,q,none⟩∧∀ (j:Nat) u,news[j]?=some u→w.cell? ⟨b,q+j,none⟩=some u) (h1:∀ u∈news,u.oneCell'=true)
  (h63:n+m≤maxLen) (hbytes:(n+m)*bytes≤140737488355328) (hbase:base≤w.heap.size)
  (h:∀ v' w',w'.ownsRow base e size v' (n+m) (xs++news)→w.grownBy w' v.ownBlock→(v'.ownBlock=v.ownBlock∨v'.ownBlock=some w.heap.size)→wpList P ops Q rest (a.put o.dst v') w') :
  wpList P ops Q (o::rest) a w:=by
 refine wpList_plain hgd fun _ hK=>?_
 obtain ⟨v',w',hrun,h2,h3,h4⟩:=zfl (P:=P) base t o.type e i z size bytes ht hi hz hsize hby hzs hsz v n xs hown A m c news hl hsrc h1 h63 hbytes hbase
 unfold Oper.wp execOp
 simp only [ho,resolve,invoke,builtin,Sem.run_bind,Sem.run_pure,Result.andThen_ok,List.map_toArray,List.map_cons,List.map_nil,hs,hx,hrun]
 exact hK _ _ (h v' w' h2 h3 h4)
end
theorem znj {a b c:World} {row row':Option Nat} (h:a.grownBy b row) (k:b.grownBy c row') (hr:row'=row∨∀ g,row'=some g→a.heap.size≤g):a.grownBy c row :=
 ⟨k.os.trans h.os,k.tape.trans h.tape,k.output.trans h.output,Nat.le_trans h.size k.size,fun i hi hne =>
  (k.block i (Nat.lt_of_lt_of_le hi h.size) (by
   rcases hr with e | e
   ·rw [e];exact hne
   ·intro he
    have:=e i he.symm
    omega)).trans (h.block i hi hne)⟩
def zl7 (t:TypeId) (k n:Nat) (us:List Value) (w:World) (e:Ending) (w':World):Prop :=
 ∃ v',e=.returned v'∧w'.ownsRow w.heap.size t k v' n us∧Below w.heap.size w w'
theorem zj1 (w:World) (t:TypeId) (k:Nat):(w.alloc (.cells #[] t)).ownsRow w.heap.size t k (.slice (some ⟨w.heap.size,0,none⟩) 0 0) 0 []:=by
 refine ⟨by simp,.inr ⟨w.heap.size,0,#[],rfl,Nat.le_refl _,?_,Nat.zero_le _,by unfold maxLen;omega,by simp,by simp⟩⟩
 exact heap_alloc_new w _
theorem zl4 {g:FuncId} {t:TypeId} {k by_:Nat} (he:∀ args w,(callFunc g args).run Tryz.prog w=.ok (.enter g args) w) (hk0:0<k)
  (h:∀ (w:World) (A:Option Addr) (n c:Nat) (us:List Value),us.length=n*k→(0<n→∃ b q,A=some ⟨b,q,none⟩∧∀ (j:Nat) u,us[j]?=some u→w.cell? ⟨b,q+j,none⟩=some u) →
   (∀ u∈us,u.oneCell'=true)→n≤17592186044416→n*by_≤140737488355328→Calls Tryz.prog g #[.slice A n c] w (zl7 t k n us w))
  {es:List (List IV)} (hk:∀ e∈es,e.length=k) (hc:capOk es.length by_):Sp Tryz.prog g [.im (.sl es)] (.row t k es):=by
 refine ⟨he,fun w S vs F hS hv hn hF=>?_⟩
 match vs,hv with
 | [v],⟨F1,F2,⟨h3,e1⟩,h5,e3⟩ =>
  have h5:F2=[]:=h5
  subst e1 h5 e3
  obtain ⟨A,c,us,rfl,hl,h1,hlim,hcell,hr⟩:=sl_src h3 hk
  have hlk:us.length=es.length*k:=by rw [hl,za5 hk]
  refine (h w A es.length c us hlk hcell h1 hlim hc.1).mono ?_
  rintro e w' ⟨v',rfl,ho,hb⟩
  have ho0:w'.ownsRow 0 t k v' es.length us:=by
   refine ⟨ho.1,?_⟩
   rcases ho.2 with h6 | ⟨g1,cap,cur,k1,_,k3⟩
   ·exact .inl h6
   ·exact .inr ⟨g1,cap,cur,k1,Nat.zero_le _,k3⟩
  have hlt:=ho.lt
  have hbk:∀ b∈(blkOf v').toList,w.heap.size≤b∧b<w'.heap.size:=fun b hb=>by
   refine hlt b ?_
   rw [row_blk ho0]
   simpa using hb
  refine ⟨v',(blkOf v').toList,rfl,.of hb,⟨[v'],(blkOf v').toList,[],rfl,⟨(blkOf v').toList,[],⟨row_one ho0,[],⟨us,hk0,hk,hlim,ho0,hl,h1,fun i u x hu hx=>?_⟩,rfl⟩,rfl,by simp⟩,rfl,by simp⟩,?_,fun b hb=>⟨.inl (hbk b hb).1,(hbk b hb).2⟩⟩
  ·have k1:∀ b,S b→(S b∨w.heap.size≤b∨b∈[])∧b<w'.heap.size∧b∉(blkOf v').toList:=fun b hb'=>⟨.inl hb',Nat.lt_of_lt_of_le (hS b hb') hb.size,fun hm=>by
    have h1:=(hbk b hm).1
    have h2:=hS b hb'
    omega⟩
   have k2:∀ (p:Addr) u,S p.block→w.cell? p=some u→w'.cell? p=some u:=fun p u hp hu=>by
    have h6:=hb.block p.block (hS _ hp)
    have h7:w'.cell? p=w.cell? p:=by
     unfold World.cell?
     rw [h6]
    rw [h7]
    exact hu
   exact (hr i u x hu hx).mono k1 k2
  ·cases blkOf v'<;>simp
end Go.Proofs.YtcneaiejdidooaaGreatDoor.Sym

/-
 Walks of slices.Clone.
-/
namespace Go.Proofs.YtcneaiejdidooaaGreatDoor.Sym
open Go.RowKit
theorem Tryz.infoC_int:(Tryz.prog.info? 3).map (fun i=>(i.zero,i.size,i.bytes))=some (some (.int .i64 0),1,8):=by kernel_rfl
set_option maxRecDepth 100000 in
set_option maxHeartbeats 400000 in
theorem clone_int (w:World) (A:Option Addr) (n c:Nat) (us:List Value) (hl:us.length=n*1) (hs:0<n→∃ b q,A=some ⟨b,q,none⟩∧∀ (j:Nat) u,us[j]?=some u→w.cell? ⟨b,q+j,none⟩=some u)
  (h1:∀ u∈us,u.oneCell'=true) (hn:n≤17592186044416) (hby:n*8≤140737488355328):Calls Tryz.prog 46 #[.slice A n c] w (zl7 3 1 n us w):=by
 obtain ⟨j0,ji,jz0,jz1,jz2⟩:=info_parts Tryz.infoC_int
 have hnil:=Lib.run_eql_slice_nil (P:=Tryz.prog) w 25 3 A n c 0 0 Tryz.underlying25
 cases A with
 | none =>
  have h0:n=0:=by
   rcases Nat.eq_zero_or_pos n with h | h
   ·exact h
   ·obtain ⟨b,q,e,_⟩:=hs h;cases e
  subst h0
  have hxs:us=[]:=List.eq_nil_of_length_eq_zero (by omega)
  have HX:=Lib.hid hxs
  clear hxs hs hl h1
  go_enter Tryz.func46,Tryz.ntmps46
  go_wp2
  go_ret
  rw [HX.out]
  exact ⟨_,rfl,World.ownsRow_nil _ _ _ _,Below.refl _ _⟩
 | some a =>
  have hsrc:∀ o,0<n→∃ b q,some a=some ⟨b,q,none⟩∧∀ (j:Nat) u,us[j]?=some u→(w.alloc o).cell? ⟨b,q+j,none⟩=some u:=fun o h=>by
   obtain ⟨b,q,e,hc⟩:=hs h
   exact ⟨b,q,e,fun j u hu=>zgq (World.grownBy_alloc w o none) _ _ (hc j u hu)⟩
  have hc6:0+n≤maxLen:=by unfold maxLen;omega
  have hc7:(0+n)*8≤140737488355328:=by omega
  have hc8:∀ o,w.heap.size≤(w.alloc o).heap.size:=fun o=>by simp
  have HXL:=Lib.hid hl
  clear hs
  go_enter Tryz.func46,Tryz.ntmps46
  go_wp2_with (at_builtin;refine zd3 rfl (.tmp 5) (.tmp 6) 25 rfl w.heap.size 3 j0 (.int .i64 0) 1 8 Tryz.underlying25 ji jz0 jz1 jz2 rfl (by decide) (.slice (some ⟨w.heap.size,0,none⟩) 0 0) 0 _ rfl (zj1 _ _ _) _ _ _ _ rfl HXL.out (hsrc _) h1 hc6 hc7 (hc8 _) ?_;intro v1 w1 hown1 hg1 hb1)
  go_ret
  have hgr:w.grownBy w1 none:=znj (World.grownBy_alloc w _ none) hg1 (.inr fun g e=>by
   have:some w.heap.size=some g:=e
   injection this with this
   omega)
  exact ⟨v1,rfl,by simpa using hown1,zlt hgr (Nat.le_refl _) (fun g e=>by cases e)⟩
theorem Tryz.infoC_words:(Tryz.prog.info? 25).map (fun i=>(i.zero,i.size,i.bytes))=some (some (.slice none 0 0),1,24):=by kernel_rfl
set_option maxRecDepth 100000 in
set_option maxHeartbeats 400000 in
theorem clone_words (w:World) (A:Option Addr) (n c:Nat) (us:List Value) (hl:us.length=n*1) (hs:0<n→∃ b q,A=some ⟨b,q,none⟩∧∀ (j:Nat) u,us[j]?=some u→w.cell? ⟨b,q+j,none⟩=some u)
  (h1:∀ u∈us,u.oneCell'=true) (hn:n≤17592186044416) (hby:n*24≤140737488355328):Calls Tryz.prog 137 #[.slice A n c] w (zl7 25 1 n us w):=by
 obtain ⟨j0,ji,jz0,jz1,jz2⟩:=info_parts Tryz.infoC_words
 have hnil:=Lib.run_eql_slice_nil (P:=Tryz.prog) w 22 25 A n c 0 0 Tryz.underlying22
 cases A with
 | none =>
  have h0:n=0:=by
   rcases Nat.eq_zero_or_pos n with h | h
   ·exact h
   ·obtain ⟨b,q,e,_⟩:=hs h;cases e
  subst h0
  have hxs:us=[]:=List.eq_nil_of_length_eq_zero (by omega)
  have HX:=Lib.hid hxs
  clear hxs hs hl h1
  go_enter Tryz.func137,Tryz.ntmps137
  go_wp2
  go_ret
  rw [HX.out]
  exact ⟨_,rfl,World.ownsRow_nil _ _ _ _,Below.refl _ _⟩
 | some a =>
  have hsrc:∀ o,0<n→∃ b q,some a=some ⟨b,q,none⟩∧∀ (j:Nat) u,us[j]?=some u→(w.alloc o).cell? ⟨b,q+j,none⟩=some u:=fun o h=>by
   obtain ⟨b,q,e,hc⟩:=hs h
   exact ⟨b,q,e,fun j u hu=>zgq (World.grownBy_alloc w o none) _ _ (hc j u hu)⟩
  have hc6:0+n≤maxLen:=by unfold maxLen;omega
  have hc7:(0+n)*24≤140737488355328:=by omega
  have hc8:∀ o,w.heap.size≤(w.alloc o).heap.size:=fun o=>by simp
  have HXL:=Lib.hid hl
  clear hs
  go_enter Tryz.func137,Tryz.ntmps137
  go_wp2_with (at_builtin;refine zd3 rfl (.tmp 5) (.tmp 6) 22 rfl w.heap.size 25 j0 (.slice none 0 0) 1 24 Tryz.underlying22 ji jz0 jz1 jz2 rfl (by decide) (.slice (some ⟨w.heap.size,0,none⟩) 0 0) 0 _ rfl (zj1 _ _ _) _ _ _ _ rfl HXL.out (hsrc _) h1 hc6 hc7 (hc8 _) ?_;intro v1 w1 hown1 hg1 hb1)
  go_ret
  have hgr:w.grownBy w1 none:=znj (World.grownBy_alloc w _ none) hg1 (.inr fun g e=>by
   have:some w.heap.size=some g:=e
   injection this with this
   omega)
  exact ⟨v1,rfl,by simpa using hown1,zlt hgr (Nat.le_refl _) (fun g e=>by cases e)⟩
end Go.Proofs.YtcneaiejdidooaaGreatDoor.Sym

/-
 Walks of the program's slices.Grow.
-/
namespace Go.Proofs.YtcneaiejdidooaaGreatDoor
open Go.RowKit
def GrowPost (t:TypeId) (w:World) (e:Ending) (w':World):Prop:=∃ v',e=.returned v'∧w'.ownsRow w.heap.size t 1 v' 0 []∧Below w.heap.size w w'
theorem ownsRow_zeros (w:World) (Z:Array Value) (t:TypeId) (c:Nat) (hc:c≤maxLen) (hZ:Z.size=c) :
  (w.drew.alloc (.cells Z t)).ownsRow w.heap.size t 1 (.slice (some ⟨w.heap.size,0,none⟩) 0 c) 0 []:=by
 refine ⟨rfl,.inr ⟨w.heap.size,c,Z,rfl,Nat.le_refl _,?_,Nat.zero_le _,hc,by omega,by simp⟩⟩
 exact heap_alloc_new w.drew _
theorem below_zeros (w:World) (o:Obj):Below w.heap.size w (w.drew.alloc o):=(Below.refl w.heap.size w).drew.alloc (Nat.le_refl _) o
set_option maxRecDepth 100000 in
set_option maxHeartbeats 800000 in
theorem growI_any (n:Nat) (hn:n≤1000000000) (w:World) :
  Calls Tryz.prog 136 #[.slice none 0 0,.int .i64 n] w (GrowPost 3 w):=by
 obtain ⟨i0,hi,hz0,hz1,hz2⟩:=info_parts Tryz.infoInt
 have h1:¬ ((n:Int)<0):=by omega
 by_cases h0:n=0
 ·subst h0
  go_enter Tryz.func136,Tryz.ntmps136
  go_wp2
  go_ret
  exact ⟨_,rfl,World.ownsRow_nil _ _ _ _,Below.refl _ _⟩
 ·have h4:(n:Int) > 0:=by omega
  have happ:=Lib.run_append_nil_zeros (P:=Tryz.prog) w 25 3 25 3 i0 (.int .i64 0) .i64 .i64 Tryz.underlying25 Tryz.underlying3 hi hz0 n (by omega) (by omega) (by omega) (by rw [hz2];omega)
  generalize hcap:grownCap w n 0 3=cap2 at happ
  have hcapge:n≤cap2:=by rw [← hcap];exact grownCap_ge w _ 0 _
  have hcaple:cap2≤maxLen:=by rw [← hcap];exact grownCap_le_maxLen w _ 0 _ (by unfold maxLen;omega)
  generalize hZ:(Builtin.zeroCells (Value.cells (.int .i64 0)) n++Builtin.zeroCells (Value.cells (.int .i64 0)) (cap2-n))=Z at happ
  have hZs:Z.size=cap2:=by rw [← hZ];simp [size_zeroCells,Value.cells];omega
  have hown:=ownsRow_zeros w Z 3 cap2 hcaple hZs
  have hcap63:cap2≤9223372036854775807:=by unfold maxLen at hcaple;omega
  have HO:=Lib.hid (And.intro hown (below_zeros w (.cells Z 3)))
  clear hcap hZ hown hZs
  go_enter Tryz.func136,Tryz.ntmps136
  go_wp2_with (at_builtin;refine Lib.wpList_append_run _ rfl _ _ _ _ rfl _ _ rfl rfl _ _ happ ?_)
  go_ret
  exact ⟨_,rfl,HO.out.1,HO.out.2⟩
end Go.Proofs.YtcneaiejdidooaaGreatDoor

/-
 The contract of slices.Grow of nil.
-/
namespace Go.Proofs.YtcneaiejdidooaaGreatDoor.Sym
open Go.RowKit
set_option maxRecDepth 100000
theorem sp_of_grow {g:FuncId} {t:TypeId} {n:Int} (he:∀ args w,(callFunc g args).run Tryz.prog w=.ok (.enter g args) w) (h0:0≤n) (h1:n≤1000000000)
  (h:∀ (n:Nat),n≤1000000000→∀ w,Calls Tryz.prog g #[.slice none 0 0,.int .i64 n] w (GrowPost t w)):Sp Tryz.prog g [.im (.val (.slice none 0 0)),.im (nI n)] (.row t 1 []):=by
 refine ⟨he,fun w S vs F hS hv hn hF=>?_⟩
 match vs,hv with
 | [v,u],⟨F1,F2,⟨h3,e1⟩,⟨F3,F4,⟨h4,e2⟩,h5,e3⟩,e4⟩ =>
  have h5:F4=[]:=h5
  subst e1 e2 h5 e3 e4
  cases h3
  cases h4
  have hc:=h n.toNat (by omega) w
  rw [Int.toNat_of_nonneg h0] at hc
  refine hc.mono ?_
  rintro e w' ⟨v',rfl,ho,hb⟩
  have ho0:w'.ownsRow 0 t 1 v' 0 []:=by
   refine ⟨ho.1,?_⟩
   rcases ho.2 with h6 | ⟨g1,cap,cur,k1,_,k3⟩
   ·exact .inl h6
   ·exact .inr ⟨g1,cap,cur,k1,Nat.zero_le _,k3⟩
  have hlt:=ho.lt
  have hbk:∀ b∈(blkOf v').toList,w.heap.size≤b∧b<w'.heap.size:=fun b hb=>by
   refine hlt b ?_
   rw [row_blk ho0]
   simpa using hb
  refine ⟨v',(blkOf v').toList,rfl,.of hb,⟨[v'],(blkOf v').toList,[],rfl,⟨(blkOf v').toList,[],⟨row_one ho0,[],⟨[],Nat.one_pos,fun x hx=>by simp at hx,by decide,ho0,rfl,fun u hu=>by simp at hu,fun i u x hu=>by simp at hu⟩,rfl⟩,rfl,by simp⟩,rfl,by simp⟩,?_,fun b hb=>⟨.inl (hbk b hb).1,(hbk b hb).2⟩⟩
  cases blkOf v'<;>simp
def zjw (n:Int):Option (List Int):=chk (0≤n∧n≤1000000000) (some [])
theorem zlo (n:Int) (r:List Int) (h:zjw n=some r):Sp Tryz.prog 136 [.im (.val (.slice none 0 0)),.im (nI n)] (.row 3 1 (List.map cI r)):=by
 obtain ⟨h1,h⟩:=chk_some h
 injection h with h
 subst h
 exact sp_of_grow (fun args w=>zd6 rfl rfl rfl args w) h1.1 h1.2 growI_any
end Go.Proofs.YtcneaiejdidooaaGreatDoor.Sym

/-
 The contract of slices.SortFunc under a total comparison.
-/
namespace Go.Proofs.YtcneaiejdidooaaGreatDoor.Sym
open Go.RowKit Go.Sort
section plain
variable {α:Type}
def totB [DecidableEq α] (f:α→α→Option Int) (l:List α):Bool :=
 l.all fun a=>l.all fun b=>match f a b,f b a with
  | some m,some n=>(decide (m=0)==decide (a=b))&&(decide (m<0)==decide (0<n))&&(decide (-1≤m∧m≤1))&&l.all fun c=>!(decide (m<0)&&(match f b c with | some x=>decide (x<0) | none=>false))||(match f a c with | some x=>decide (x<0) | none=>false)
  | _,_=>false
def insF (f:α→α→Option Int) (x:α):List α→List α
 | []=>[x]
 | y::l=>match f x y with
  | some m=>cond (decide (m≤0)) (x::y::l) (y::insF f x l)
  | none=>x::y::l
def isortF (f:α→α→Option Int):List α→List α
 | []=>[]
 | x::l=>insF f x (isortF f l)
def libSort [DecidableEq α] (l:List α) (f:α→α→Option Int):Option (List α):=chk (l.length≤1000000000) (cond (totB f l) (some (isortF f l)) none)
def cfv (f:α→α→Option Int) (a b:α):Int:=(f a b).getD 0
structure TotF (f:α→α→Option Int) (l:List α):Prop where
 get:∀ a∈l,∀ b∈l,f a b=some (cfv f a b)
 zero:∀ a∈l,∀ b∈l,cfv f a b=0→a=b
 self:∀ a∈l,cfv f a a=0
 swap:∀ a∈l,∀ b∈l,(cfv f a b<0↔0<cfv f b a)
 trans:∀ a∈l,∀ b∈l,∀ c∈l,cfv f a b<0→cfv f b c<0→cfv f a c<0
theorem totB_iff [DecidableEq α] {f:α→α→Option Int} {l:List α} (h:totB f l=true):TotF f l:=by
 have key:∀ a∈l,∀ b∈l,∃ m n,f a b=some m∧f b a=some n∧(m=0↔a=b)∧(m<0↔0<n)∧∀ c∈l,m<0→(∃ x,f b c=some x∧x<0)→∃ x,f a c=some x∧x<0:=by
  intro a ha b hb
  have h1:=List.all_eq_true.1 (List.all_eq_true.1 h a ha) b hb
  cases e1:f a b with
  | none=>rw [e1] at h1;cases h1
  | some m =>
   cases e2:f b a with
   | none=>rw [e1,e2] at h1;cases h1
   | some n =>
    rw [e1,e2] at h1
    simp only [Bool.and_eq_true] at h1
    obtain ⟨⟨⟨h2,h3⟩,_⟩,h5⟩:=h1
    refine ⟨m,n,rfl,rfl,?_,?_,fun c hc hm ⟨x,hx,hx0⟩=>?_⟩
    ·have h2:=eq_of_beq h2
     simpa using h2
    ·have h3:=eq_of_beq h3
     simpa using h3
    ·have h6:=List.all_eq_true.1 h5 c hc
     rw [hx] at h6
     simp only [hm,hx0,decide_true,Bool.and_self,Bool.not_true,Bool.false_or] at h6
     cases e3:f a c with
     | none=>rw [e3] at h6;cases h6
     | some y=>rw [e3] at h6;exact ⟨y,rfl,by simpa using h6⟩
 have get:∀ a∈l,∀ b∈l,f a b=some (cfv f a b):=fun a ha b hb=>by
  obtain ⟨m,n,e1,_⟩:=key a ha b hb
  unfold cfv
  rw [e1]
  rfl
 refine ⟨get,fun a ha b hb=>?_,fun a ha=>?_,fun a ha b hb=>?_,fun a ha b hb c hc h1 h2=>?_⟩
 ·obtain ⟨m,n,e1,e2,h3,_⟩:=key a ha b hb
  rw [get a ha b hb] at e1
  injection e1 with e1
  rw [e1]
  exact h3.1
 ·obtain ⟨m,n,e1,e2,h3,_⟩:=key a ha a ha
  rw [get a ha a ha] at e1
  injection e1 with e1
  rw [e1]
  exact h3.2 rfl
 ·obtain ⟨m,n,e1,e2,h3,h4,_⟩:=key a ha b hb
  rw [get a ha b hb] at e1
  rw [get b hb a ha] at e2
  injection e1 with e1
  injection e2 with e2
  rw [e1,e2]
  exact h4
 ·obtain ⟨m,n,e1,e2,h3,h4,h5⟩:=key a ha b hb
  rw [get a ha b hb] at e1
  injection e1 with e1
  obtain ⟨x,hx,hx0⟩:=h5 c hc (by omega) ⟨_,get b hb c hc,h2⟩
  rw [get a ha c hc] at hx
  injection hx with hx
  omega
theorem TotF.sub {f:α→α→Option Int} {l l':List α} (T:TotF f l) (h:∀ x∈l',x∈l):TotF f l' :=
 ⟨fun a ha b hb=>T.get a (h a ha) b (h b hb),fun a ha b hb=>T.zero a (h a ha) b (h b hb),fun a ha=>T.self a (h a ha),fun a ha b hb=>T.swap a (h a ha) b (h b hb),fun a ha b hb c hc=>T.trans a (h a ha) b (h b hb) c (h c hc)⟩
def NGt (f:α→α→Option Int) (a b:α):Prop:=¬ cfv f b a<0
theorem TotF.ngt_trans {f:α→α→Option Int} {l:List α} (T:TotF f l) {a b c:α} (ha:a∈l) (hb:b∈l) (hc:c∈l) (h1:NGt f a b) (h2:NGt f b c):NGt f a c:=by
 intro h3
 have s1:=T.swap a ha b hb
 have s2:=T.swap b hb c hc
 have s3:=T.swap c hc a ha
 have t1:=T.swap b hb a ha
 have t2:=T.swap c hc b hb
 unfold NGt at h1 h2
 by_cases e1:cfv f b a=0
 ·have:=T.zero b hb a ha e1
  subst this
  exact h2 h3
 ·by_cases e2:cfv f c b=0
  ·have:=T.zero c hc b hb e2
   subst this
   exact h1 h3
  ·have h4:cfv f a b<0:=s1.2 (by omega)
   have h5:=T.trans c hc a ha b hb h3 h4
   exact h2 h5
theorem insF_le {f:α→α→Option Int} {x y:α} {l:List α} {m:Int} (h:f x y=some m) (hm:m≤0):insF f x (y::l)=x::y::l:=by
 simp [insF,h,hm]
theorem insF_gt {f:α→α→Option Int} {x y:α} {l:List α} {m:Int} (h:f x y=some m) (hm:¬ m≤0):insF f x (y::l)=y::insF f x l:=by
 simp [insF,h,hm]
theorem zl2 (f:α→α→Option Int) (x:α):∀ l:List α,(insF f x l).Perm (x::l)
 | []=>List.Perm.refl _
 | y::l=>by
  cases h:f x y with
  | none=>simp [insF,h]
  | some m =>
   by_cases hm:m≤0
   ·rw [insF_le h hm]
   ·rw [insF_gt h hm]
    exact ((zl2 f x l).cons y).trans (List.Perm.swap x y l)
theorem zea (f:α→α→Option Int):∀ l:List α,(isortF f l).Perm l
 | []=>List.Perm.refl _
 | x::l=>(zl2 f x _).trans ((zea f l).cons x)
theorem zk9 {f:α→α→Option Int} {x:α}:∀ {l:List α},TotF f (x::l)→l.Pairwise (NGt f)→(insF f x l).Pairwise (NGt f)
 | [],_,_=>List.pairwise_singleton _ _
 | y::l,T,h=>by
  have hx:x∈x::y::l:=by simp
  have hy:y∈x::y::l:=by simp
  have hc:=List.pairwise_cons.1 h
  by_cases hd:cfv f x y≤0
  ·rw [insF_le (T.get x hx y hy) hd]
   have hxy:NGt f x y:=fun h0=>by
    have:=(T.swap y hy x hx).1 h0
    omega
   exact List.pairwise_cons.2 ⟨fun z hz=>by
    rcases List.mem_cons.1 hz with rfl | hz'
    ·exact hxy
    ·exact T.ngt_trans hx hy (by simp [hz']) hxy (hc.1 z hz'),h⟩
  ·rw [insF_gt (T.get x hx y hy) hd]
   have hyx:NGt f y x:=by unfold NGt;omega
   refine List.pairwise_cons.2 ⟨fun z hz=>?_,zk9 (T.sub fun z hz=>?_) hc.2⟩
   ·rcases List.mem_cons.1 ((zl2 f x l).mem_iff.1 hz) with rfl | hz'
    ·exact hyx
    ·exact hc.1 z hz'
   ·rcases List.mem_cons.1 hz with rfl | hz'
    ·simp
    ·simp [hz']
theorem zi1 {f:α→α→Option Int}:∀ {l:List α},TotF f l→(isortF f l).Pairwise (NGt f)
 | [],_=>List.Pairwise.nil
 | x::l,T=>zk9 (T.sub fun z hz=>by
   rcases List.mem_cons.1 hz with rfl | hz'
   ·simp
   ·exact List.mem_cons_of_mem _ ((zea f l).mem_iff.1 hz')) (zi1 (T.sub fun z hz=>List.mem_cons_of_mem _ hz))
theorem zkk {f:α→α→Option Int}:∀ {l1 l2:List α},TotF f l1→l1.Perm l2→l1.Pairwise (NGt f)→l2.Pairwise (NGt f)→l1=l2
 | [],l2,_,hp,_,_=>(List.nil_perm.1 hp).symm
 | x::l1,[],_,hp,_,_=>absurd hp.length_eq (by simp)
 | x::l1,y::l2,T,hp,h1,h2=>by
  have p1:=List.pairwise_cons.1 h1
  have p2:=List.pairwise_cons.1 h2
  have hx:x∈x::l1:=by simp
  have hy:y∈x::l1:=hp.mem_iff.2 (by simp)
  have e:x=y:=by
   rcases List.mem_cons.1 hy with e | hy'
   ·exact e.symm
   ·have hxy:=p1.1 y hy'
    rcases List.mem_cons.1 (hp.mem_iff.1 hx) with e | hx'
    ·exact e
    ·have hyx:=p2.1 x hx'
     have s1:=T.swap y hy x hx
     have s2:=T.swap x hx y hy
     unfold NGt at hxy hyx
     exact T.zero x hx y hy (by omega)
  subst e
  rw [zkk (T.sub fun z hz=>List.mem_cons_of_mem _ hz) (List.Perm.cons_inv hp) p1.2 p2.2]
end plain
section model
variable {α:Type}
def CmpG (P:Program) (g:FuncId) (X:α→IV) (f:α→α→Option Int):Prop :=
 ∀ (W:World) (S:Nat→Prop) (u u':Value) (x y:α) (r:Int),f x y=some r→RepI W S u (X x)→RepI W S u' (X y) →
  Calls P g #[u,u'] W fun e w'=>e=.returned (.int .i64 r)∧∃ q os,w'=Sort.grow (W.drewN q) os
def El (w:World) (S:Nat→Prop) (k:Nat) (c:α→List IV) (l:List α):Type:={ p:List Value×α // p.1.length=k∧(∀ v∈p.1,v.oneCell'=true)∧RepIs w S p.1 (c p.2)∧p.2∈l }
variable {w:World} {S:Nat→Prop} {k:Nat} {c:α→List IV} {l:List α}
def El.enc (x:El w S k c l):List Value:=x.val.1
def El.wd (x:El w S k c l):α:=x.val.2
def El.of (us:List Value) (x:α) (h1:us.length=k) (h2:∀ v∈us,v.oneCell'=true) (h3:RepIs w S us (c x)) (h4:x∈l):El w S k c l:=⟨(us,x),h1,h2,h3,h4⟩
theorem el_list (hk:∀ x,(c x).length=k):∀ (l0:List α) (us:List Value),(∀ x∈l0,x∈l)→us.length=(l0.map c).flatten.length→(∀ u∈us,u.oneCell'=true) →
  (∀ (i:Nat) u x,us[i]?=some u→(l0.map c).flatten[i]?=some x→RepI w S u x)→∃ zs:List (El w S k c l),(zs.map El.enc).flatten=us∧zs.map El.wd=l0
 | [],us,_,hl,_,_=>⟨[],(List.eq_nil_of_length_eq_zero hl).symm,rfl⟩
 | x::l0,us,hm,hl,h1,hr=>by
  rw [List.map_cons,List.flatten_cons] at hl hr
  rw [List.length_append,hk] at hl
  obtain ⟨zs,e1,e2⟩:=el_list hk l0 (us.drop k) (fun y hy=>hm y (List.mem_cons_of_mem _ hy)) (by rw [List.length_drop];omega) (fun u hu=>h1 u (List.mem_of_mem_drop hu)) fun i u y hu hy=>by
   rw [List.getElem?_drop] at hu
   refine hr (k+i) u y hu ?_
   rw [List.getElem?_append,if_neg (by rw [hk];omega),hk]
   rwa [Nat.add_sub_cancel_left]
  have hx1:(us.take k).length=k:=by rw [List.length_take];omega
  have hx2:∀ v∈us.take k,v.oneCell'=true:=fun u hu=>h1 u (List.mem_of_mem_take hu)
  have hx3:RepIs w S (us.take k) (c x):=⟨by rw [hx1,hk],fun i u y hu hy=>by
   have hi:i<k:=by
    rw [← hk x]
    exact (List.getElem?_eq_some_iff.1 hy).1
   rw [List.getElem?_take,if_pos hi] at hu
   exact hr i u y hu (by rw [List.getElem?_append,if_pos (by rw [hk];exact hi)];exact hy)⟩
  refine ⟨El.of (us.take k) x hx1 hx2 hx3 (hm x (by simp))::zs,?_,?_⟩
  ·rw [List.map_cons,List.flatten_cons,e1]
   exact List.take_append_drop k us
  ·rw [List.map_cons,e2]
   rfl
theorem el_swo {f:α→α→Option Int} (T:TotF f l):SWO (ltOf fun x y:El w S k c l=>cfv f x.wd y.wd) where
 irrefl x:=by
  have:=T.self x.wd x.property.2.2.2
  simp [ltOf,this]
 trans x y z h1 h2:=by
  simp only [ltOf,decide_eq_true_eq] at *
  exact T.trans _ x.property.2.2.2 _ y.property.2.2.2 _ z.property.2.2.2 h1 h2
 ntrans x y z h1 h2:=by
  simp only [ltOf,decide_eq_false_iff_not] at *
  exact T.ngt_trans z.property.2.2.2 y.property.2.2.2 x.property.2.2.2 h2 h1
def SortC (P:Program) (sg:FuncId) (k:Nat) (mk:List Value→Value):Prop :=
 (∀ (p:Option Addr) (cap:Nat) (fv:Value) (w:World),Calls P sg #[.slice p 0 cap,fv] w fun e w'=>e=.returned (.tuple #[])∧w'=w) ∧
 ∀ (E:Type) [Inhabited E] (enc:E→List Value) (cf:E→E→Int) (g blk cap:Nat) (d:Array E) (w:World),(∀ x,(enc x).length=k)→(∀ x,∀ v∈enc x,v.oneCell'=true)→SWO (ltOf cf) →
  (∀ args w,(callFunc g args).run P w=.ok (.enter g args) w) →
  (∀ (m:Nat) (os:Array Obj) (dk:Array E),dk.size=d.size→∀ x y:E,Calls P g #[mk (enc x),mk (enc y)] (Sort.grow (putRow id (Sort.ahead w m) blk 0 (Go.Sort.flatK enc k dk)) os) fun e w' =>
   e=.returned (.int .i64 (cf x y))∧∃ q os',w'=Sort.grow ((Sort.grow (putRow id (Sort.ahead w m) blk 0 (Go.Sort.flatK enc k dk)) os).drewN q) os') →
  Go.Sort.Holds id w blk 0 (Go.Sort.flatK enc k d)→blk<w.heap.size→d.size<4611686018427387904 →
  Calls P sg #[.slice (some ⟨blk,0,none⟩) d.size cap,.func (.func g) #[] #[]] w fun e w' =>
   e=.returned (.tuple #[])∧∃ d' n os,PermIn 0 d.size d d'∧SortedIn (ltOf cf) 0 d.size d'∧w'=Sort.grow (putRow id (Sort.ahead w n) blk 0 (Go.Sort.flatK enc k d')) os
theorem perm_of_in' {β:Type} [Inhabited β] {d d':Array β} (h:PermIn 0 d.size d d'):d'.toList.Perm d.toList:=by
 obtain ⟨hs,_,hp⟩:=h
 have e1:d'.extract 0 d.size=d':=by rw [← hs];simp
 have e2:d.extract 0 d.size=d:=by simp
 rwa [e1,e2] at hp
theorem zlv {β:Type} [Inhabited β] {lt:β→β→Bool} {d:Array β} {n:Nat} (hn:d.size=n) (h:SortedIn lt 0 n d):d.toList.Pairwise fun a b=>lt b a=false:=by
 rw [List.pairwise_iff_getElem]
 intro i j hi hj hij
 have:=h i j (Nat.zero_le _) hij (by rw [← hn];simpa using hj)
 simp at hi hj
 simpa [getElem!_pos,hi,hj] using this
theorem zm5 {β:Type} [Inhabited β] {enc:β→List Value} {k:Nat} (hk:∀ x,(enc x).length=k) (d:Array β):Go.Sort.flatK enc k d=(d.toList.map enc).flatten.toArray:=by
 have hl:((d.toList.map enc).flatten).length=d.size*k:=by
  rw [za5 (k:=k) fun x hx=>by obtain ⟨y,_,rfl⟩:=List.mem_map.1 hx;exact hk y]
  simp
 refine ext_get! (by simp [hl]) fun t ht=>?_
 rw [size_flatK] at ht
 rw [get_flatK _ _ _ t ht]
 have k0:0<k:=by
  rcases Nat.eq_zero_or_pos k with h | h
  ·subst h;simp at ht
  ·exact h
 have hq:t / k<d.size:=Nat.div_lt_of_lt_mul (by rwa [Nat.mul_comm] at ht)
 have hm:t%k<k:=Nat.mod_lt _ k0
 have hg:=flat_get (es:=d.toList.map enc) (i:=t / k) (j:=t%k) (e:=enc (d[t / k]'hq)) (fun x hx=>by obtain ⟨y,_,rfl⟩:=List.mem_map.1 hx;exact hk y) (by simp [hq]) hm
 rw [show t / k*k+t%k=t by rw [Nat.mul_comm];exact Nat.div_add_mod t k] at hg
 have hm2:t%k<(enc (d[t / k]'hq)).length:=by rw [hk];exact hm
 rw [List.getElem?_eq_getElem hm2,List.getElem?_eq_getElem (by rw [hl];exact ht)] at hg
 injection hg with hg
 rw [getElem!_pos d _ hq,getElem!_pos (enc (d[t / k]'hq)) (t%k) hm2,getElem!_pos ((d.toList.map enc).flatten.toArray) t (by simpa [hl] using ht)]
 simpa using hg.symm
theorem own_put {w:World} {base:Nat} {e:TypeId} {g n cap k q:Nat} {us us':List Value} {os:Array Obj} (h:w.ownsRow base e k (.slice (some ⟨g,0,none⟩) n cap) n us) (hl:us'.length=n*k) :
  (Sort.grow (putRow id (Sort.ahead w q) g 0 us'.toArray) os).ownsRow base e k (.slice (some ⟨g,0,none⟩) n cap) n us':=by
 rcases h.2 with ⟨e0,_⟩ | ⟨g',cap',cur,e0,hb,hg,hn,hm,hs,ht⟩
 ·cases e0
 ·injection e0 with e1 _ e3
  injection e1 with e1
  injection e1 with e1
  subst e1;subst e3
  have hlt:g<w.heap.size:=by
   rcases Nat.lt_or_ge g w.heap.size with h' | h'
   ·exact h'
   ·rw [Array.getElem?_eq_none h'] at hg;cases hg
  refine ⟨hl,.inr ⟨g,cap,putCells id 0 us'.toArray cur,rfl,hb,?_,hn,hm,by simpa [putCells] using hs,?_⟩⟩
  ·have:g<(putRow id (Sort.ahead w q) g 0 us'.toArray).heap.size:=by simpa [putRow,mapBlock,Sort.ahead] using hlt
   simp only [Sort.grow,Array.getElem?_append,if_pos this]
   simp [putRow,mapBlock,Sort.ahead,Array.getElem?_modify,hg,onCells]
  ·have hle:n*k≤cap*k:=Nat.mul_le_mul_right k hn
   apply List.ext_getElem?
   intro j
   rw [List.getElem?_take,Array.getElem?_toList]
   by_cases hj:j<n*k
   ·have hjc:j<cur.size:=by omega
    rw [if_pos hj]
    simp only [putCells,Array.getElem?_mapIdx,Array.getElem?_eq_getElem hjc,Option.map_some]
    rw [if_pos (by simp;omega),List.getElem?_eq_getElem (by omega)]
    simp [getElem!_pos,show j<us'.length by omega]
   ·rw [if_neg hj,List.getElem?_eq_none (by omega)]
theorem holds_own {w:World} {base:Nat} {e:TypeId} {g n cap k:Nat} {us:List Value} (h:w.ownsRow base e k (.slice (some ⟨g,0,none⟩) n cap) n us):Go.Sort.Holds id w g 0 us.toArray:=by
 rcases h.2 with ⟨e0,_⟩ | ⟨g',cap',cur,e0,hb,hg,hn,hm,hs,ht⟩
 ·cases e0
 ·injection e0 with e1 _ e3
  injection e1 with e1
  injection e1 with e1
  subst e1;subst e3
  intro j hj
  have hj':j<us.length:=by simpa using hj
  have hjn:j<n*k:=by rw [← h.1];exact hj'
  have hle:n*k≤cap*k:=Nat.mul_le_mul_right k hn
  have hjc:j<cur.size:=by omega
  have e1:(cur.toList.take (n*k))[j]?=us[j]?:=by rw [ht]
  rw [List.getElem?_take,if_pos hjn,Array.getElem?_toList,List.getElem?_eq_getElem hj'] at e1
  refine ⟨?_,by simp [World.frozen?,hg]⟩
  simp only [World.cell?,hg,Nat.zero_add,Option.isSome_none,Bool.false_eq_true,if_false]
  rw [e1]
  simp [getElem!_pos,hj']
theorem put_block {w:World} {g q:Nat} {F:Array Value} {os:Array Obj} {b:Nat} (hb:b<w.heap.size) (hne:b≠g):(Sort.grow (putRow id (Sort.ahead w q) g 0 F) os).heap[b]?=w.heap[b]?:=by
 have:b<(putRow id (Sort.ahead w q) g 0 F).heap.size:=by simpa [putRow,mapBlock,Sort.ahead] using hb
 simp only [Sort.grow,Array.getElem?_append,if_pos this]
 simp [putRow,mapBlock,Sort.ahead,Array.getElem?_modify,Ne.symm hne]
theorem put_cell {w:World} {g q:Nat} {F:Array Value} {os:Array Obj} {p:Addr} {u:Value} (hne:p.block≠g) (h:w.cell? p=some u):(Sort.grow (putRow id (Sort.ahead w q) g 0 F) os).cell? p=some u:=by
 have hlt:=World.block_lt_of_cell? w _ h
 unfold World.cell? at h ⊢
 rw [put_block hlt hne]
 exact h
theorem sp_of_sort [DecidableEq α] {P:Program} {sg:FuncId} {mk:List Value→Value} {t:TypeId} {X:α→IV} (he:∀ args w,(callFunc sg args).run P w=.ok (.enter sg args) w) (C:SortC P sg k mk) (hk0:0<k) (hk:∀ x,(c x).length=k)
  (hX:∀ (W:World) (S:Nat→Prop) us x,us.length=k→(∀ v∈us,v.oneCell'=true)→RepIs W S us (c x)→RepI W S (mk us) (X x))
  {f:α→α→Option Int} {g:FuncId} (eg:∀ args w,(callFunc g args).run P w=.ok (.enter g args) w) (hg:CmpG P g X f) {l r:List α} (h:libSort l f=some r) :
  Sp P sg [.lent (.row t k (l.map c)),.im (.fn g [])] (.mk true [] [.lent (.row t k (r.map c))]):=by
 obtain ⟨hlen,h⟩:=chk_some h
 cases hT:totB f l with
 | false=>rw [hT] at h;cases h
 | true =>
 rw [hT] at h
 injection h with h
 subst h
 have T:=totB_iff hT
 refine ⟨he,fun w S vs F hS hv hn hF=>?_⟩
 match vs,hv with
 | [v,u],⟨F1,F2,⟨hv1,inn,hrow,e1⟩,⟨F3,F4,⟨h4,e2⟩,h5,e3⟩,e4⟩ =>
  have h5:F4=[]:=h5
  have e1:F1=(blkOf v).toList:=e1
  subst e1 e2 h5 e3
  have e4:F=(blkOf v).toList:=by rw [e4];simp
  subst e4
  obtain ⟨us,_,_,hlim,hown,hul,h1,hr⟩:=hrow
  rw [List.length_map] at hown hlim
  have hu:u=.func (.func g) #[] #[]:=by
   generalize hx:IV.fn g []=x at h4
   cases h4 with
   | fn f us cs hl hr =>
    injection hx with hx1 hx2
    subst hx1 hx2
    have:=List.eq_nil_of_length_eq_zero hl
    subst this
    rfl
   | _=>cases hx
  subst hu
  have fin:∀ (w':World) (us':List Value),w'.ownsRow 0 t k v l.length us'→us'.length=((isortF f l).map c).flatten.length→(∀ u∈us',u.oneCell'=true) →
    Belo (fun b=>b∈(blkOf v).toList) w.heap.size w w'→(∀ (i:Nat) u x,us'[i]?=some u→((isortF f l).map c).flatten[i]?=some x→RepI w' (fun b=>(S b∨w.heap.size≤b∨b∈(blkOf v).toList)∧b<w'.heap.size∧b∉(blkOf v).toList) u x) →
    ∃ (v1:Value) (F':List Nat),Ending.returned (.tuple #[])=.returned v1∧Belo (fun b=>b∈(blkOf v).toList) w.heap.size w w' ∧
     ResOk w' (fun b=>(S b∨w.heap.size≤b∨b∈(blkOf v).toList)∧b<w'.heap.size∧b∉F') v1 (bxVs [v,.func (.func g) #[] #[]] [.lent (.row t k (l.map c)),.im (.fn g [])]) (.mk true [] [.lent (.row t k ((isortF f l).map c))]) F'∧F'.Nodup∧∀ b∈F',(w.heap.size≤b∨b∈(blkOf v).toList)∧b<w'.heap.size:=by
   intro w' us' ho hl' h1' hb hr'
   refine ⟨_,(blkOf v).toList,rfl,hb,⟨[],[],(blkOf v).toList,rfl,rfl,⟨(blkOf v).toList,[],⟨hv1,inn,⟨us',hk0,fun x hx=>?_,?_,?_,hl',h1',hr'⟩,rfl⟩,rfl,by simp⟩,by simp⟩,hn,fun b hb'=>⟨.inr hb',Nat.lt_of_lt_of_le (hF b hb').2 hb.size⟩⟩
   ·obtain ⟨y,_,rfl⟩:=List.mem_map.1 hx
    exact hk y
   ·rw [List.length_map,(zea f l).length_eq]
    exact hlim
   ·rw [List.length_map,(zea f l).length_eq]
    exact ho
  by_cases hnil:v=.slice none 0 0
  ·subst hnil
   have hl0:l.length=0:=by
    rcases hown.2 with ⟨_,h0⟩ | ⟨_,_,_,e,_⟩
    ·exact h0
    ·cases e
   have hl0:l=[]:=List.eq_nil_of_length_eq_zero hl0
   subst hl0
   refine (C.1 none 0 _ w).mono ?_
   rintro e w' ⟨rfl,rfl⟩
   have hus:us=[]:=List.eq_nil_of_length_eq_zero (by rw [hul];rfl)
   subst hus
   exact fin w' [] hown rfl (fun u hu=>by cases hu) (Belo.refl _ _ _) fun i u x hu=>by simp at hu
  ·obtain ⟨blk,cap,rfl⟩:∃ blk cap,v=.slice (some ⟨blk,0,none⟩) l.length cap:=by
    rcases hown.2 with ⟨e0,_⟩ | ⟨g,cap,cur,e,_⟩
    ·exact absurd e0 hnil
    ·exact ⟨g,cap,e⟩
   have hblk:blk<w.heap.size:=(hF blk (by simp [blkOf])).2
   have hnS:¬ S blk:=(hF blk (by simp [blkOf])).1
   obtain ⟨zs,hz1,hz2⟩:=el_list (w:=w) (S:=S) (l:=l) hk l us (fun x hx=>hx) hul h1 hr
   by_cases hl0:l=[]
   ·subst hl0
    refine (C.1 (some ⟨blk,0,none⟩) cap _ w).mono ?_
    rintro e w' ⟨rfl,rfl⟩
    have hus:us=[]:=List.eq_nil_of_length_eq_zero (by rw [hul];rfl)
    subst hus
    exact fin w' [] hown rfl (fun u hu=>by cases hu) (Belo.refl _ _ _) fun i u x hu=>by simp at hu
   ·have hzl:zs.length=l.length:=by have:=congrArg List.length hz2;simpa using this
    obtain ⟨z0,hz0⟩:∃ z,z∈zs:=by
     cases zs with
     | nil=>exact absurd (by simpa using hz2.symm) hl0
     | cons z zs=>exact ⟨z,by simp⟩
    haveI:Inhabited (El w S k c l):=⟨z0⟩
    have henc:∀ x:El w S k c l,(El.enc x).length=k:=fun x=>x.property.1
    have hflat:∀ d:Array (El w S k c l),Go.Sort.flatK El.enc k d=(d.toList.map El.enc).flatten.toArray:=zm5 henc
    have hcall:=C.2 (El w S k c l) El.enc (fun x y=>cfv f x.wd y.wd) g blk cap zs.toArray w henc (fun x=>x.property.2.1) (el_swo T) eg (fun m os dk _ x y=>by
      refine hg _ S _ _ x.wd y.wd _ (T.get _ x.property.2.2.2 _ y.property.2.2.2) (hX _ _ _ _ x.property.1 x.property.2.1 ⟨x.property.2.2.1.1,fun i u z hu hz=>?_⟩) (hX _ _ _ _ y.property.1 y.property.2.1 ⟨y.property.2.2.1.1,fun i u z hu hz=>?_⟩)
      ·exact (x.property.2.2.1.2 i u z hu hz).mono (fun _ h=>h) fun p u hp hu=>put_cell (fun e=>hnS (by rw [← e];exact hp)) hu
      ·exact (y.property.2.2.1.2 i u z hu hz).mono (fun _ h=>h) fun p u hp hu=>put_cell (fun e=>hnS (by rw [← e];exact hp)) hu)
     (by rw [hflat];show Go.Sort.Holds id w blk 0 ((zs.map El.enc).flatten).toArray;rw [hz1];exact holds_own hown) hblk (by simp;omega)
    have hsz:zs.toArray.size=l.length:=by simpa using hzl
    rw [hsz] at hcall
    refine hcall.mono ?_
    rintro e w' ⟨rfl,d',n,os,hp,hs,rfl⟩
    have hd':d'.size=l.length:=by rw [hp.1];exact hsz
    have hperm:=perm_of_in' (d:=zs.toArray) (by rw [hsz];exact hp)
    have hpw:=zlv hd' hs
    have hwd:d'.toList.map El.wd=isortF f l:=by
     have hp1:(d'.toList.map El.wd).Perm l:=(hperm.map El.wd).trans (List.Perm.of_eq hz2)
     refine zkk (T.sub fun x hx=>hp1.mem_iff.1 hx) (hp1.trans (zea f l).symm) ?_ (zi1 T)
     rw [List.pairwise_map]
     refine hpw.imp fun {a b} hab=>?_
     have hab2:¬ cfv f b.wd a.wd<0:=by simpa only [ltOf,decide_eq_false_iff_not] using hab
     exact hab2
    rw [hflat]
    have hlen':((d'.toList.map El.enc).flatten).length=l.length*k:=by
     rw [za5 (k:=k) fun x hx=>by obtain ⟨y,_,rfl⟩:=List.mem_map.1 hx;exact henc y]
     simp [hd']
    have hflen:((isortF f l).map c).flatten.length=l.length*k:=by
     rw [za5 (k:=k) fun x hx=>by obtain ⟨y,_,rfl⟩:=List.mem_map.1 hx;exact hk y,List.length_map,(zea f l).length_eq]
    refine fin _ _ (own_put hown hlen') (by rw [hlen',hflen]) (fun u hu=>?_) ⟨rfl,rfl,rfl,?_,fun b hb hnb=>put_block hb fun e=>hnb (by simp [blkOf,e])⟩ fun i u x hu hx=>?_
    ·obtain ⟨us2,h2,h3⟩:=List.mem_flatten.1 hu
     obtain ⟨y,_,rfl⟩:=List.mem_map.1 h2
     exact y.property.2.1 u h3
    ·simp [Sort.grow,putRow,mapBlock,Sort.ahead]
    ·have hi:i<l.length*k:=by rw [← hlen'];exact (List.getElem?_eq_some_iff.1 hu).1
     have hq:i / k<l.length:=Nat.div_lt_of_lt_mul (by rwa [Nat.mul_comm] at hi)
     have hm:i%k<k:=Nat.mod_lt _ hk0
     have hik:i / k*k+i%k=i:=by rw [Nat.mul_comm];exact Nat.div_add_mod i k
     have hq':i / k<d'.size:=by rw [hd'];exact hq
     have g1:=flat_get (es:=d'.toList.map El.enc) (i:=i / k) (j:=i%k) (e:=El.enc (d'[i / k]'hq')) (fun x hx=>by obtain ⟨y,_,rfl⟩:=List.mem_map.1 hx;exact henc y) (by simp [hq']) hm
     have g2:=flat_get (es:=(isortF f l).map c) (i:=i / k) (j:=i%k) (e:=c (El.wd (d'[i / k]'hq'))) (fun x hx=>by obtain ⟨y,_,rfl⟩:=List.mem_map.1 hx;exact hk y) (by rw [← hwd];simp [hq']) hm
     rw [hik,hu] at g1
     rw [hik,hx] at g2
     refine ((d'[i / k]'hq').property.2.2.1.2 _ _ _ g1.symm g2.symm).mono (fun b hb=>⟨.inl hb,?_,?_⟩) fun p u hp hu=>put_cell (fun e=>hnS (by rw [← e];exact hp)) hu
     ·have:w.heap.size≤(Sort.grow (putRow id (Sort.ahead w n) blk 0 ((d'.toList.map El.enc).flatten).toArray) os).heap.size:=by simp [Sort.grow,putRow,mapBlock,Sort.ahead]
      exact Nat.lt_of_lt_of_le (hS b hb) this
     ·intro hb'
      have:b=blk:=by simpa [blkOf] using hb'
      subst this
      exact hnS hb
end model
end Go.Proofs.YtcneaiejdidooaaGreatDoor.Sym

/-
 Plain laws on the key of a word: the digits at base 36, and that no two words have the same key. No program in sight.
-/
namespace Go.Proofs.YtcneaiejdidooaaGreatDoor
def dig36 (d:Nat):UInt8:=if d<10 then UInt8.ofNat (48+d) else UInt8.ofNat (87+d)
def digsF:Nat→Nat→List UInt8
 | 0,u=>[dig36 u]
 | f+1,u=>if u<36 then [dig36 u] else digsF f (u / 36)++[dig36 (u%36)]
theorem zne:∀ (f g u:Nat),u≤f→u≤g→digsF f u=digsF g u
 | 0,0,_,_,_=>rfl
 | 0,g+1,u,h,_=>by
  have h0:u=0:=by omega
  subst h0
  rfl
 | f+1,0,u,_,h=>by
  have h0:u=0:=by omega
  subst h0
  rfl
 | f+1,g+1,u,h1,h2=>by
  unfold digsF
  by_cases h:u<36
  ·rw [if_pos h,if_pos h]
  ·rw [if_neg h,if_neg h,zne f g (u / 36) (by omega) (by omega)]
def digs (u:Nat):List UInt8:=digsF u u
theorem zeg {u:Nat} (h:u<36):digs u=[dig36 u]:=by
 unfold digs
 cases u with
 | zero=>rfl
 | succ u=>unfold digsF;rw [if_pos h]
theorem digs_big {u:Nat} (h:36≤u):digs u=digs (u / 36)++[dig36 (u%36)]:=by
 obtain ⟨v,rfl⟩:∃ v,u=v+1:=⟨u-1,by omega⟩
 show digsF (v+1) (v+1)=digsF ((v+1) / 36) ((v+1) / 36)++[dig36 ((v+1)%36)]
 rw [digsF,if_neg (by omega),zne v ((v+1) / 36) ((v+1) / 36) (by omega) (Nat.le_refl _)]
theorem digs_len:∀ (k u:Nat),u<36^(k+1)→(digs u).length≤k+1
 | 0,u,h=>by rw [zeg (by simpa using h)];simp
 | k+1,u,h=>by
  by_cases h1:u<36
  ·rw [zeg h1];simp
  ·rw [digs_big (by omega),List.length_append]
   have:=digs_len k (u / 36) (by rw [Nat.div_lt_iff_lt_mul (by omega),← Nat.pow_succ];exact h)
   simp;omega
theorem zm6 {u:Nat} (h:u<18446744073709551616):(digs u).length≤13 :=
 digs_len 12 u (Nat.lt_of_lt_of_le h (by decide))
theorem digs_pos (u:Nat):0<(digs u).length:=by
 by_cases h1:u<36
 ·rw [zeg h1];simp
 ·rw [digs_big (by omega)];simp
def undig (c:UInt8):Nat:=if c.toNat<58 then c.toNat-48 else c.toNat-87
theorem undig_dig {d:Nat} (h:d<36):undig (dig36 d)=d:=by
 have:∀ d:Fin 36,undig (dig36 d.1)=d.1:=by decide
 exact this ⟨d,h⟩
theorem dig_char {d:Nat} (h:d<36):48≤(dig36 d).toNat:=by
 have:∀ d:Fin 36,48≤(dig36 d.1).toNat:=by decide
 exact this ⟨d,h⟩
def undigs (l:List UInt8):Nat:=l.foldl (fun n c=>n*36+undig c) 0
theorem zkx (u:Nat):undigs (digs u)=u:=by
 induction u using Nat.strongRecOn with
 | _ u ih =>
  by_cases h1:u<36
  ·rw [zeg h1];simp [undigs,undig_dig h1]
  ·rw [digs_big (by omega),undigs,List.foldl_append]
   have:=ih (u / 36) (by omega)
   rw [undigs] at this
   simp only [List.foldl_cons,List.foldl_nil,this,undig_dig (Nat.mod_lt u (by omega))]
   omega
theorem digs_inj {u v:Nat} (h:digs u=digs v):u=v:=by rw [← zkx u,h,zkx]
theorem zlq (u:Nat):∀ c∈digs u,48≤c.toNat:=by
 induction u using Nat.strongRecOn with
 | _ u ih =>
  by_cases h1:u<36
  ·rw [zeg h1]
   intro c hc
   simp at hc
   rw [hc];exact dig_char h1
  ·rw [digs_big (by omega)]
   intro c hc
   rw [List.mem_append] at hc
   rcases hc with hc | hc
   ·exact ih (u / 36) (by omega) c hc
   ·simp at hc
    rw [hc];exact dig_char (Nat.mod_lt u (by omega))
def enc36 (a:Int):List UInt8:=if a<0 then 45::digs a.natAbs else digs a.natAbs
theorem zni (a:Int):∀ c∈enc36 a,c≠32:=by
 intro c hc e
 subst e
 unfold enc36 at hc
 split at hc
 ·simp only [List.mem_cons] at hc
  rcases hc with hc | hc
  ·exact absurd hc (by decide)
  ·have:=zlq _ _ hc
   exact absurd this (by decide)
 ·have:=zlq _ _ hc
  exact absurd this (by decide)
theorem enc36_inj {a b:Int} (h:enc36 a=enc36 b):a=b:=by
 have hne:∀ u v:Nat,45::digs u≠digs v:=fun u v e=>by
  have:=zlq v 45 (by rw [← e];simp)
  exact absurd this (by decide)
 unfold enc36 at h
 split at h<;>split at h
 ·injection h with _ h
  have:=digs_inj h
  omega
 ·exact absurd h (hne _ _)
 ·exact absurd h.symm (hne _ _)
 ·have:=digs_inj h
  omega
theorem enc36_len {a:Int} (h1:-9223372036854775808≤a) (h2:a≤9223372036854775807):(enc36 a).length≤14:=by
 have:=zm6 (u:=a.natAbs) (by omega)
 unfold enc36
 split<;>simp<;>omega
def keyL:List Int→List UInt8
 | []=>[]
 | a::xs=>enc36 a++32::keyL xs
theorem zly:∀ xs ys:List Int,keyL (xs++ys)=keyL xs++keyL ys
 | [],_=>rfl
 | a::xs,ys=>by simp [keyL,zly xs ys]
theorem split_at {c:UInt8}:∀ {xs ys rs ss:List UInt8},(∀ d∈xs,d≠c)→(∀ d∈ys,d≠c)→xs++c::rs=ys++c::ss→xs=ys∧rs=ss
 | [],[],rs,ss,_,_,h=>by simpa using h
 | [],y::ys,rs,ss,_,h2,h=>by
  simp at h
  exact absurd h.1.symm (h2 y (by simp))
 | x::xs,[],rs,ss,h1,_,h=>by
  simp at h
  exact absurd h.1 (h1 x (by simp))
 | x::xs,y::ys,rs,ss,h1,h2,h=>by
  simp only [List.cons_append,List.cons.injEq] at h
  obtain ⟨e1,e2⟩:=split_at (fun d hd=>h1 d (by simp [hd])) (fun d hd=>h2 d (by simp [hd])) h.2
  exact ⟨by rw [h.1,e1],e2⟩
theorem keyL_inj:∀ {xs ys:List Int},keyL xs=keyL ys→xs=ys
 | [],[],_=>rfl
 | [],a::ys,h=>by simp [keyL] at h
 | a::xs,[],h=>by simp [keyL] at h
 | a::xs,b::ys,h=>by
  simp only [keyL] at h
  obtain ⟨e1,e2⟩:=split_at (zni a) (zni b) h
  rw [enc36_inj e1,keyL_inj e2]
theorem keyL_len:∀ {xs:List Int},(∀ x∈xs,-9223372036854775808≤x∧x≤9223372036854775807)→(keyL xs).length≤15*xs.length
 | [],_=>by simp [keyL]
 | a::xs,h=>by
  have h1:=keyL_len (xs:=xs) fun x hx=>h x (by simp [hx])
  have h2:=h a (by simp)
  have h3:=enc36_len h2.1 h2.2
  simp only [keyL,List.length_append,List.length_cons]
  omega
end Go.Proofs.YtcneaiejdidooaaGreatDoor

/-
 Walks of strconv.AppendInt at base 36 (internal/strconv.AppendInt, AppendUint, formatBits).
-/
namespace Go.Proofs.YtcneaiejdidooaaGreatDoor
open Go.RowKit
theorem Tryz.infoByte:(Tryz.prog.info? 5).map (fun i=>(i.zero,i.size,i.bytes))=some (some (.int .u8 0),1,1):=by kernel_rfl
def bcells (l:List UInt8):List Value:=l.map fun b=>.int .u8 (b.toNat:Int)
theorem ziw (l:List UInt8):(bcells l).length=l.length:=by simp [bcells]
theorem zgl (l m:List UInt8):bcells (l++m)=bcells l++bcells m:=by simp [bcells]
theorem bcells_one (l:List UInt8):∀ u∈bcells l,u.oneCell'=true:=by
 intro u hu
 simp only [bcells,List.mem_map] at hu
 obtain ⟨b,_,rfl⟩:=hu
 rfl
def OwnB (w:World) (base:Nat) (v:Value) (l:List UInt8):Prop:=w.ownsRow base 5 1 v l.length (bcells l)
theorem OwnB.lt {w:World} {base:Nat} {v:Value} {l:List UInt8} (h:OwnB w base v l):∀ k,v.ownBlock=some k→base≤k∧k<w.heap.size:=World.ownsRow.lt h
theorem OwnB.nil_ (w:World) (base:Nat):OwnB w base (.slice none 0 0) []:=World.ownsRow_nil _ _ _ _
def MoreB (w:World) (base:Nat) (l:List UInt8) (e:Ending) (w':World):Prop:=∃ v',e=.returned v'∧OwnB w' base v' l∧Below base w w'
theorem idx36 (k:IntKind) (z:Int) (d:Nat) (hz:z=(d:Int)) (hd:d<36) (w:World) :
  (Instr.index 9 (.string { data:=#[48,49,50,51,52,53,54,55,56,57,97,98,99,100,101,102,103,104,105,106,107,108,109,110,111,112,113,114,115,116,117,118,119,120,121,122] }) (.int k z)).run Tryz.prog w=.ok (.int .u8 ((dig36 d).toNat:Int)) w:=by
 subst hz
 rw [run_index_string w 9 _ k _ Tryz.underlying9,dif_pos ⟨by omega,by show (d:Int)<((36:Nat):Int);omega⟩]
 have:∀ d:Fin 36,(({ data:=#[48,49,50,51,52,53,54,55,56,57,97,98,99,100,101,102,103,104,105,106,107,108,109,110,111,112,113,114,115,116,117,118,119,120,121,122] }:ByteArray)[d.1]'(by show d.1<36;exact d.2))=dig36 d.1:=by decide
 have h:=this ⟨d,hd⟩
 simp only [Int.toNat_natCast]
 rw [h]
def Dig (zs:List Value) (i:Nat) (l:List UInt8):Prop:=zs.length=65∧zs.drop i=bcells l
theorem Dig.push {zs:List Value} {j:Nat} {m:List UInt8} (h:Dig zs (j+1) m) (hj:j<65) (c:UInt8):Dig (zs.set j (.int .u8 (c.toNat:Int))) j (c::m):=by
 obtain ⟨h1,h2⟩:=h
 refine ⟨by simpa using h1,?_⟩
 rw [List.drop_eq_getElem_cons (by simp;omega),List.getElem_set_self,List.drop_set_of_lt (by omega),h2]
 rfl
set_option maxRecDepth 100000 in
set_option maxHeartbeats 1600000 in
theorem zmw {B u:Nat} {sv:Value} {l:List UInt8} {w:World} (hu:u<18446744073709551616) (hown:OwnB w B sv l) (hB:B≤w.heap.size) (hl:l.length≤1000000000) :
  Calls Tryz.prog 177 #[sv,.int .u64 u,.int .i64 36,.bool false,.bool true] w (fun e w'=>∃ v',e=.returned (.tuple #[v',.string ByteArray.empty])∧OwnB w' B v' (l++digs u)∧Below B w w'):=by
 obtain ⟨i0,hi,hz0,hz1,hz2⟩:=info_parts Tryz.infoByte
 have HOWN:=Lib.hid hown
 clear hown
 have hbits:(bits BinOp.and IntKind.i64 36 35==0)=false:=by decide
 go_enter Tryz.func177,Tryz.ntmps177
 go_wp2
 go_loopw [1,13,18] (fun v i _ wr=>∃ k j:Nat,∃ m:List UInt8,∃ zs,v=.int .u64 k∧i=.int .i64 j∧k<18446744073709551616∧j+m.length=65∧Hid (digs k++m=digs u)∧Hid (Dig zs j m)∧wr.ownsRow w.heap.size 250 1 (.slice (some ⟨w.heap.size,0,none⟩) 65 65) 65 zs∧Below w.heap.size w wr) (fun v _ _ _=>(intOf v).toNat)
 case atStart=>exact ⟨u,65,[],_,rfl,rfl,hu,rfl,Lib.hid (by simp),Lib.hid ⟨rfl,rfl⟩,World.ownsRow_lit w _ 65 (Nat.le_refl _) (by unfold maxLen;omega) rfl,(Below.refl _ _).alloc (Nat.le_refl _) _⟩
 case round =>
  obtain ⟨k,j,m,zs,rfl,rfl,hk,hj,HD,HZ,hrow,hbel⟩:=hrel
  have hlen:m.length≤12:=by
   have h1:=congrArg List.length HD.out
   rw [List.length_append] at h1
   have h2:=digs_pos k
   have h3:=zm6 hu
   omega
  obtain ⟨j,rfl⟩:∃ j':Nat,j=j'+1:=⟨j-1,by omega⟩
  have hzl:j<zs.length:=by rw [HZ.out.1];omega
  have q1:wr.cell? ⟨w.heap.size,j,none⟩=some (zs[j]):=by rw [hrow.cellAt j (by omega)];exact List.getElem?_eq_getElem hzl
  have q2:wr.frozen? ⟨w.heap.size,j,none⟩=false:=hrow.frozenAt j
  generalize zs[j]=z0 at q1
  have HR:=Lib.hid hrow
  have HB:=Lib.hid hbel
  clear hrow hbel hzl
  by_cases h1:36≤k
  ·have e0:((j+1:Nat):Int)-1=(j:Int):=by omega
   have hix:=fun W=>idx36 .u64 ((k:Int)-(k:Int) / 36*36) (k%36) (by omega) (by omega) W
   go_wp2
   go_roundw
   case rel =>
    obtain ⟨s1,s2⟩:=HR.out.stored j (.int .u8 ((dig36 (k%36)).toNat:Int))
    exact ⟨k / 36,j,dig36 (k%36)::m,_,by go_num,rfl,by omega,by simp;omega,Lib.hid (by rw [← HD.out,digs_big h1];simp),Lib.hid (HZ.out.push (by omega) _),s1,HB.out.grown s2 HB.out.size (fun g e=>by injection e with e;omega)⟩
   case measure=>simp [intOf]<;>omega
  ·have e0:((j+1:Nat):Int)-1=(j:Int):=by omega
   have hix:=fun W=>idx36 .u64 (k:Int) k rfl (by omega) W
   have hal:Tryz.prog.arrayLen 250=65:=by simp [Program.arrayLen,Tryz.underlying250]
   have hsl:∀ W,(Instr.sliceAt 250 (.pointer (some ⟨w.heap.size,0,none⟩)) (some (.int .i64 (j:Int))) none none).run Tryz.prog W=.ok (.slice (some ⟨w.heap.size,j,none⟩) (65-j) (65-j)) W:=fun W=>by
    rw [run_sliceAt_array_l W 250 ⟨w.heap.size,0,none⟩ (by simp [Program.arrayLen,Program.elem,Tryz.underlying250]) .i64 (j:Int) (by omega) (by rw [hal];omega)]
    go_simp
    omega
   obtain ⟨s1,s2⟩:=HR.out.stored j (.int .u8 ((dig36 k).toNat:Int))
   have hb2:Below w.heap.size w (wr.setCell ⟨w.heap.size,j,none⟩ (.int .u8 ((dig36 k).toNat:Int))):=HB.out.grown s2 HB.out.size (fun g e=>by injection e with e;omega)
   have hown2:OwnB (wr.setCell ⟨w.heap.size,j,none⟩ (.int .u8 ((dig36 k).toNat:Int))) B sv l:=World.ownsRow.kept HOWN.out (znc hb2) (by cases sv.ownBlock<;>simp)
   have hdz:=HZ.out.push (by omega) (dig36 k)
   have hsrc:Src (wr.setCell ⟨w.heap.size,j,none⟩ (.int .u8 ((dig36 k).toNat:Int))) (some ⟨w.heap.size,j,none⟩) (65-j) (bcells (dig36 k::m)):=by
    refine ⟨by rw [ziw];simp;omega,fun _=>⟨_,_,rfl,fun i v hv=>?_⟩⟩
    have hi:i<(bcells (dig36 k::m)).length:=(List.getElem?_eq_some_iff.1 hv).1
    rw [ziw,List.length_cons] at hi
    rw [s1.cellAt (j+i) (by omega),← hv,← hdz.2,List.getElem?_drop]
   have hone:=bcells_one (dig36 k::m)
   have hc1:l.length+(65-j)≤maxLen:=by unfold maxLen;omega
   have hc2:(l.length+(65-j))*1≤140737488355328:=by omega
   have hc3:B≤(wr.setCell ⟨w.heap.size,j,none⟩ (.int .u8 ((dig36 k).toNat:Int))).heap.size:=Nat.le_trans hB hb2.size
   have hfull:bcells l++bcells (dig36 k::m)=bcells (l++digs u):=by
    rw [← zgl,← HD.out,zeg (by omega)];rfl
   have hfl:l.length+(65-j)=(l++digs u).length:=by
    rw [← HD.out,zeg (by omega)];simp;omega
   have HF:=Lib.hid (And.intro hfull hfl)
   have HB2:=Lib.hid hb2
   clear s1 s2 hdz hb2 hfull hfl hal
   unfold OwnB at hown2
   go_wp2_with (at_builtin;refine zeb rfl (.tmp 95) (.tmp 97) 192 rfl B 5 i0 (.int .u8 0) 1 Tryz.underlying192 hi hz0 hz1 hz2 rfl sv _ _ rfl hown2 _ (65-j) (65-j) _ rfl hsrc hone hc1 hc2 hc3 ?_;intro v1 w1 hown1 hg1 hb1)
   go_ret2
   have hlt:=hown2
   refine ⟨_,rfl,?_,?_⟩
   ·unfold OwnB
    rw [← HF.out.1,← HF.out.2]
    exact hown1
   ·exact (HB2.out.mono hB).grown hg1 hc3 fun g e=>(OwnB.lt hown2 g e).1
set_option maxRecDepth 100000 in
set_option maxHeartbeats 800000 in
theorem zhw {B u:Nat} {sv:Value} {l:List UInt8} {w:World} (hu:u<18446744073709551616) (hown:OwnB w B sv l) (hB:B≤w.heap.size) (hl:l.length≤1000000000) :
  Calls Tryz.prog 159 #[sv,.int .u64 u,.int .i64 36] w (MoreB w B (l++digs u)):=by
 have hcall:=zmw hu hown hB hl
 clear hown
 go_enter Tryz.func159,Tryz.ntmps159
 go_wp2_with (go_at_call 177;refine hcall.mono ?_;rintro e w' ⟨v',rfl,hown',hb'⟩)
 go_ret
 exact ⟨_,rfl,hown',hb'⟩
set_option maxRecDepth 100000 in
set_option maxHeartbeats 800000 in
theorem appendInt_any {B:Nat} {a:Int} {sv:Value} {l:List UInt8} {w:World} (ha1:-9223372036854775808≤a) (ha2:a≤9223372036854775807) (hown:OwnB w B sv l) (hB:B≤w.heap.size) (hl:l.length≤100000000) :
  Calls Tryz.prog 144 #[sv,.int .i64 a,.int .i64 36] w (MoreB w B (l++enc36 a)):=by
 obtain ⟨i0,hi,hz0,hz1,hz2⟩:=info_parts Tryz.infoByte
 by_cases h1:a<0
 ·have hs1:∀ t,Src (w.alloc (.cells #[.int .u8 45] t)) (some ⟨w.heap.size,0,none⟩) 1 [.int .u8 45]:=fun t=>src_one w _ t
  have hone:∀ u∈[Value.int .u8 45],u.oneCell'=true:=by intro u hu;simp at hu;subst hu;rfl
  have hownA:∀ o,(w.alloc o).ownsRow B 5 1 sv l.length (bcells l):=fun o=>World.ownsRow.alloc hown o
  have hc1:l.length+1≤maxLen:=by unfold maxLen;omega
  have hc2:(l.length+1)*1≤140737488355328:=by omega
  have hc3:∀ o,B≤(w.alloc o).heap.size:=fun o=>by simp;omega
  have hlt:=OwnB.lt hown
  have hB1:∀ o,Below B w (w.alloc o):=fun o=>(Below.refl B w).alloc hB o
  have HOWN:=Lib.hid hown
  clear hown
  have e1:(enc36 a)=45::digs a.natAbs:=by unfold enc36;rw [if_pos h1]
  have HE:=Lib.hid e1
  clear e1
  go_enter Tryz.func144,Tryz.ntmps144
  go_wp2_with (at_builtin;refine zeb rfl (.tmp 12) (.tmp 13) 192 rfl B 5 i0 (.int .u8 0) 1 Tryz.underlying192 hi hz0 hz1 hz2 rfl sv _ _ rfl (hownA _) _ 1 1 [.int .u8 45] rfl (hs1 _) hone hc1 hc2 (hc3 _) ?_;intro v1 w1 hown1 hg1 hb1)
  have hw:IntKind.u64.wrap (-IntKind.u64.wrap a)=((a.natAbs:Nat):Int):=by
   rw [IntKind.wrap_u64,IntKind.wrap_u64];omega
  rw [hw]
  have hown2:OwnB w1 B v1 (l++[45]):=by
   unfold OwnB
   rw [zgl,List.length_append]
   exact hown1
  have hb2:Below B w w1:=(hB1 _).grown hg1 (hc3 _) fun g e=>(hlt g e).1
  have hcall:=zhw (u:=a.natAbs) (by omega) hown2 (Nat.le_trans hB (by have:=hg1.size;simp at this;omega)) (by simp;omega)
  clear hown1 hg1 hb1 hown2 hownA hs1 hc3
  refine hcall.mono ?_
  rintro e w' ⟨v',rfl,hown',hb'⟩
  go_wp2
  go_ret
  refine ⟨_,rfl,?_,hb2.trans hb'⟩
  rw [HE.out]
  simpa using hown'
 ·have HOWN:=Lib.hid hown
  have e1:(enc36 a)=digs a.natAbs:=by unfold enc36;rw [if_neg h1]
  have hw:IntKind.u64.wrap a=((a.natAbs:Nat):Int):=by
   rw [IntKind.wrap_u64];omega
  have hcall:=zhw (u:=a.natAbs) (by omega) hown hB (by omega)
  clear hown
  go_enter Tryz.func144,Tryz.ntmps144
  go_wp2_with (go_at_call 159;refine hcall.mono ?_;rintro e w' ⟨v',rfl,hown',hb'⟩)
  go_ret
  exact ⟨_,rfl,by rw [e1];exact hown',hb'⟩
set_option maxRecDepth 100000 in
theorem zhr {B:Nat} {a:Int} {sv:Value} {l:List UInt8} {w:World} (ha1:-9223372036854775808≤a) (ha2:a≤9223372036854775807) (hown:OwnB w B sv l) (hB:B≤w.heap.size) (hl:l.length≤100000000) :
  Calls Tryz.prog 127 #[sv,.int .i64 a,.int .i64 36] w (MoreB w B (l++enc36 a)):=by
 have hcall:=appendInt_any ha1 ha2 hown hB hl
 clear hown
 go_enter Tryz.func127,Tryz.ntmps127
 go_wp2_with (go_at_call 144;refine hcall.mono ?_;rintro e w' ⟨v',rfl,hown',hb'⟩)
 go_ret
 exact ⟨_,rfl,hown',hb'⟩
theorem keyL_take {xs:List Int} {k:Nat} {x:Int} (h:xs[k]?=some x):keyL (xs.take (k+1))=(keyL (xs.take k)++enc36 x)++[32]:=by
 rw [zb9 h,zly];simp [keyL]
def Rng (x:Int):Prop:=-9223372036854775808≤x∧x≤9223372036854775807
def KeyPost (w:World) (l:List UInt8) (e:Ending) (w':World):Prop:=e=.returned (.string ⟨l.toArray⟩)∧Below w.heap.size w w'
set_option maxRecDepth 100000 in
set_option maxHeartbeats 1600000 in
theorem key_any {A:Option Addr} {n c:Nat} {xs:List Int} {w:World} (hx:RowOf w IsInt A n c xs) (hr:∀ x∈xs,Rng x) (hn:n≤2000000) :
  Calls Tryz.prog 109 #[.slice A n c] w (KeyPost w (keyL xs)):=by
 have HL:=Lib.hid hx.len
 have HR:=Lib.hid hr
 obtain ⟨i0,hi,hz0,hz1,hz2⟩:=info_parts Tryz.infoByte
 clear hr
 go_enter Tryz.func109,Tryz.ntmps109
 go_wp2
 go_loopw [3,5,8] (fun v _ i wr=>∃ k:Nat,k≤n∧i=.int .i64 k∧OwnB wr w.heap.size v (keyL (xs.take k))∧Below w.heap.size w wr) (fun _ _ i _=>n-(intOf i).toNat)
 case atStart=>exact ⟨0,by omega,rfl,OwnB.nil_ _ _,Below.refl _ _⟩
 case round =>
  obtain ⟨k,hk,rfl,hown,hbel⟩:=hrel
  have hkl:(keyL (xs.take k)).length≤15*k:=by
   have:=keyL_len (xs:=xs.take k) fun x hx=>HR.out x (List.mem_of_mem_take hx)
   rw [List.length_take] at this
   omega
  by_cases h1:k<n
  ·obtain ⟨b,o,x,rfl,hx1,hx2⟩:=hx.int_at h1
   have hc:=Keeps.of_below hbel _ _ hx2
   have hrx:=HR.out x (List.mem_of_getElem? hx1)
   have HX:=Lib.hid hx1
   have HC:=Lib.hid (zhr hrx.1 hrx.2 hown hbel.size (by omega))
   have hlen:=enc36_len hrx.1 hrx.2
   have HB:=Lib.hid hbel
   clear hx1 hx2 hrx hown hbel
   have hone:∀ u∈[Value.int .u8 32],u.oneCell'=true:=by intro u hu;simp at hu;subst hu;rfl
   have hc1:(keyL (xs.take k)++enc36 x).length+1≤maxLen:=by unfold maxLen;simp;omega
   have hc2:((keyL (xs.take k)++enc36 x).length+1)*1≤140737488355328:=by simp;omega
   go_wp2_with (first | (go_at_call 127;refine HC.out.mono ?_;rintro e w1 ⟨v1,rfl,hown1,hb1⟩;have HH:=Lib.hid (And.intro hown1 hb1);have hs1:=fun t=>src_one w1 (.int .u8 32) t;have hownA:=fun o=>World.ownsRow.alloc hown1 o;have hc3:∀ o,w.heap.size≤(w1.alloc o).heap.size:=(fun o=>by have:=HB.out.size;have:=hb1.size;simp;omega);clear hown1 hb1) | (at_builtin;refine zeb rfl (.tmp 14) (.tmp 15) 192 rfl w.heap.size 5 i0 (.int .u8 0) 1 Tryz.underlying192 hi hz0 hz1 hz2 rfl v1 _ _ rfl (hownA _) _ 1 1 [.int .u8 32] rfl (hs1 _) hone hc1 hc2 (hc3 _) ?_;intro v2 w2 hown2 hg2 hb2))
   have hfin:OwnB w2 w.heap.size v2 (keyL (xs.take (k+1))):=by
    unfold OwnB
    rw [keyL_take HX.out,zgl,List.length_append]
    exact hown2
   have hbel':Below w.heap.size w w2:=((HB.out.trans (HH.out.2.mono (Nat.le_refl _))).alloc (by have:=HB.out.size;have:=HH.out.2.size;omega) _).grown hg2 (hc3 _) fun g e=>(OwnB.lt HH.out.1 g e).1
   clear hown2 hg2 hb2 hs1 hownA hc3
   go_roundw
   case rel=>exact ⟨k+1,by omega,by go_num,hfin,hbel'⟩
   case measure=>simp [intOf]<;>omega
  ·rw [List.take_of_length_le (by rw [HL.out];omega)] at hown
   have hconv:(convert 192 9 u3).run Tryz.prog wr=.ok (.string ⟨(keyL xs).toArray⟩) wr:=by
    rcases hown.2 with ⟨rfl,h0⟩ | ⟨g,cap,cur,rfl,_,_,_⟩
    ·have h00:keyL xs=[]:=List.eq_nil_of_length_eq_zero h0
     rw [h00]
     exact Lib.run_convert_nil_bytes wr _ _ _ 0 Tryz.underlying192 Tryz.underlying5 Tryz.underlying9
    ·refine run_convert_bytes_back wr _ _ _ ⟨g,0,none⟩ cap (keyL xs) Tryz.underlying192 Tryz.underlying5 Tryz.underlying9 fun j hj=>?_
     rw [hown.cells (g:=g) rfl j (.int .u8 ((keyL xs)[j].toNat:Int)) (by simp [bcells,hj])]
   clear hown
   go_wp2
   go_ret
   exact ⟨rfl,hbel⟩
end Go.Proofs.YtcneaiejdidooaaGreatDoor

/-
 The contract of the key of a word.
-/
namespace Go.Proofs.YtcneaiejdidooaaGreatDoor.Sym
open Go.RowKit
theorem zge {w:World} {S:Nat→Prop} {v:Value} {l:List Int} (h:RepI w S v (nL cI l)):∃ A n c,v=.slice A n c∧RowOf w IsInt A n c l:=by
 have h:RepI w S v (.sl (l.map cI)):=h
 generalize he:l.map cI=es at h
 cases h with
 | emp A c =>
  have:l=[]:=by simpa using he
  subst this
  exact ⟨A,0,c,rfl,rfl,Nat.zero_le _,by omega,fun h=>by omega⟩
 | sl b o c k n _ us hn hk hc hs hS hl h1 hu hr =>
  subst he
  have hf:(l.map cI).flatten=l.map fun x=>nI x:=by
   clear hn hk hl hr h
   induction l with
   | nil=>rfl
   | cons x l ih=>rw [List.map_cons,List.flatten_cons,ih];rfl
  rw [hf] at hl hr
  refine ⟨_,_,_,rfl,by simpa using hn,hc,hs,fun _=>⟨b,o,rfl,fun i x hx=>?_⟩⟩
  have hi:i<us.length:=by rw [hl,List.length_map];exact (List.getElem?_eq_some_iff.1 hx).1
  have hg:=List.getElem?_eq_getElem hi
  refine ⟨_,hu i _ hg,?_⟩
  have:=hr i _ (nI x) hg (by rw [List.getElem?_map,hx];rfl)
  generalize us[i]=u at this
  cases this with
  | val _=>rfl
def zhp (l:List Int):Option ByteArray:=chk (∀ x∈l,inR x) (chk (l.length≤2000000) (some ⟨(keyL l).toArray⟩))
set_option maxRecDepth 100000 in
theorem sp_nondet_key (l:List Int) (r:ByteArray) (h:zhp l=some r):Sp Tryz.prog 109 [.im (nL cI l)] (.im (nS r)):=by
 obtain ⟨h1,h⟩:=chk_some h
 obtain ⟨h2,h⟩:=chk_some h
 injection h with h
 subst h
 refine ⟨fun args w=>zd6 rfl rfl rfl args w,fun w S vs F hS hv hn hF=>?_⟩
 match vs,hv with
 | [v],⟨F1,F2,⟨h3,e1⟩,h4,e2⟩ =>
  have h4:F2=[]:=h4
  subst e1 h4 e2
  obtain ⟨A,n,c,rfl,hrow⟩:=zge h3
  refine (key_any hrow h1 (by rw [← hrow.1];exact h2)).mono ?_
  rintro e w' ⟨rfl,hb⟩
  exact ⟨_,[],rfl,.of hb,⟨[_],[],[],rfl,⟨[],[],⟨.val _,rfl⟩,rfl,rfl⟩,rfl,rfl⟩,List.nodup_nil,fun b hb=>by simp at hb⟩
end Go.Proofs.YtcneaiejdidooaaGreatDoor.Sym

/-
 Walks of cmp.Compare, slices.Compare, word.Lex, cmp.Or, word.Compare.
-/
namespace Go.Proofs.YtcneaiejdidooaaGreatDoor
open Go.RowKit
def cmpI (x y:Int):Int:=if x<y then -1 else if y<x then 1 else 0
theorem zfu (x y:Int) (w:World) :
  Calls Tryz.prog 155 #[.int .i64 x,.int .i64 y] w fun e w'=>e=.returned (.int .i64 (cmpI x y))∧w=w':=by
 by_cases h1:x<y
 ·go_enter Tryz.func155,Tryz.ntmps155
  go_wp2
  go_ret
  exact ⟨ret_int (by unfold cmpI;rw [if_pos h1]),rfl⟩
 ·by_cases h2:y<x
  ·go_enter Tryz.func155,Tryz.ntmps155
   go_wp2
   go_ret
   exact ⟨ret_int (by unfold cmpI;rw [if_neg (by omega),if_pos h2]),rfl⟩
  ·go_enter Tryz.func155,Tryz.ntmps155
   go_wp2
   go_ret
   exact ⟨ret_int (by unfold cmpI;rw [if_neg (by omega),if_neg (by omega)]),rfl⟩
theorem lexI_step {xs ys:List Int} {k:Nat} {x y:Int} (hx:xs[k]?=some x) (hy:ys[k]?=some y) :
  lexI (xs.drop k) (ys.drop k)=if cmpI x y=0 then lexI (xs.drop (k+1)) (ys.drop (k+1)) else cmpI x y:=by
 obtain ⟨h1,h1'⟩:=List.getElem?_eq_some_iff.1 hx
 obtain ⟨h2,h2'⟩:=List.getElem?_eq_some_iff.1 hy
 rw [List.drop_eq_getElem_cons h1,List.drop_eq_getElem_cons h2,h1',h2']
 simp only [lexI,cmpI]
 by_cases a:x<y
 ·simp [a]
 ·by_cases b:y<x
  ·simp [a,b]
  ·simp [a,b]
theorem lexI_long {xs ys:List Int} {k:Nat} (h1:k<xs.length) (h2:ys.length≤k):lexI (xs.drop k) (ys.drop k)=1:=by
 rw [List.drop_eq_getElem_cons h1,List.drop_eq_nil_of_le h2];rfl
theorem lexI_end {xs ys:List Int} {k:Nat} (h1:xs.length≤k):lexI (xs.drop k) (ys.drop k)=if k<ys.length then -1 else 0:=by
 rw [List.drop_eq_nil_of_le h1]
 by_cases h2:k<ys.length
 ·rw [if_pos h2,List.drop_eq_getElem_cons h2];rfl
 ·rw [if_neg h2,List.drop_eq_nil_of_le (by omega)];rfl
set_option maxHeartbeats 800000 in
theorem zf9 {A B:Option Addr} {n c m c':Nat} {xs ys:List Int} {w:World} (hx:RowOf w IsInt A n c xs) (hy:RowOf w IsInt B m c' ys) :
  Calls Tryz.prog 141 #[.slice A n c,.slice B m c'] w fun e w'=>e=.returned (.int .i64 (lexI xs ys))∧w=w':=by
 have hn:=hx.small
 have hm:=hy.small
 have HL:=Lib.hid (And.intro hx.len hy.len)
 go_enter Tryz.func141,Tryz.ntmps141
 go_wp2
 go_loop [5,6,7,8,11] (fun _ _ _ _ i=>∃ k:Nat,k≤n∧k≤m∧i=.int .i64 k∧Hid (lexI xs ys=lexI (xs.drop k) (ys.drop k))) (fun _ _ _ _ i=>n-(intOf i).toNat)
 case atStart=>exact ⟨0,by omega,by omega,rfl,Lib.hid (by simp)⟩
 case round =>
  obtain ⟨k,hk,hk',rfl,HT⟩:=hrel
  by_cases h1:k<n
  ·obtain ⟨b,o,x,rfl,hx1,hx2⟩:=hx.int_at h1
   have HX:=Lib.hid hx1
   clear hx1
   by_cases h2:k<m
   ·obtain ⟨b',o',y,rfl,hy1,hy2⟩:=hy.int_at h2
    have HY:=Lib.hid hy1
    clear hy1
    have hst:=lexI_step HX.out HY.out
    by_cases h3:cmpI x y=0
    ·rw [if_pos h3] at hst
     have HST:=Lib.hid hst
     have d3:(cmpI x y != 0)=false:=by simp [h3]
     have H3:=Lib.hid h3
     clear h3 hst
     go_wp2_with (go_at_call 155;refine (zfu _ _ _).mono ?_;rintro e w' ⟨rfl,rfl⟩)
     go_round
     case rel=>exact ⟨k+1,by omega,by omega,by go_num,Lib.hid (by rw [HT.out,HST.out])⟩
     case measure=>simp [intOf];omega
    ·rw [if_neg h3] at hst
     have HST:=Lib.hid hst
     have d3:(cmpI x y != 0)=true:=by simp [h3]
     clear h3 hst
     go_wp2_with (go_at_call 155;refine (zfu _ _ _).mono ?_;rintro e w' ⟨rfl,rfl⟩)
     go_ret
     exact ⟨ret_int (by rw [HT.out,HST.out]),rfl⟩
   ·go_wp2
    go_ret
    obtain ⟨h3,h4⟩:=HL.out
    exact ⟨ret_int (by rw [HT.out,lexI_long (by omega) (by omega)]),rfl⟩
  ·obtain ⟨h3,h4⟩:=HL.out
   have HE:=Lib.hid (lexI_end (xs:=xs) (ys:=ys) (k:=k) (by omega))
   clear h3 h4
   by_cases h2:n<m
   ·go_wp2
    go_ret
    obtain ⟨h3,h4⟩:=HL.out
    exact ⟨ret_int (by rw [HT.out,HE.out,if_pos (by omega)]),rfl⟩
   ·go_wp2
    go_ret
    obtain ⟨h3,h4⟩:=HL.out
    exact ⟨ret_int (by rw [HT.out,HE.out,if_neg (by omega)]),rfl⟩
theorem wordLex_any {A B:Option Addr} {n c m c':Nat} {xs ys:List Int} {w:World} (hx:RowOf w IsInt A n c xs) (hy:RowOf w IsInt B m c' ys) :
  Calls Tryz.prog 122 #[.slice A n c,.slice B m c'] w fun e w'=>e=.returned (.int .i64 (lexI xs ys))∧w=w':=by
 go_enter Tryz.func122,Tryz.ntmps122
 go_wp2_with (go_at_call 141;refine (zf9 hx hy).mono ?_;rintro e w' ⟨rfl,rfl⟩)
 go_ret
 exact ⟨rfl,rfl⟩
def orI (xs:List Int):Int:=(xs.find? fun a=>a != 0).getD 0
set_option maxHeartbeats 400000 in
theorem cmpOr_any {A:Option Addr} {n c:Nat} {xs:List Int} {w:World} (hx:RowOf w IsInt A n c xs) :
  Calls Tryz.prog 154 #[.slice A n c] w fun e w'=>e=.returned (.int .i64 (orI xs))∧w=w':=by
 have hns:=hx.small
 have HL:=Lib.hid hx.len
 go_enter Tryz.func154,Tryz.ntmps154
 go_wp2
 go_loop [5,8] (fun _ i=>∃ k:Nat,k≤n∧i=.int .i64 k∧Hid (((xs.take k).find? fun a=>a != 0)=none)) (fun _ i=>n-(intOf i).toNat)
 case atStart=>exact ⟨0,by omega,rfl,Lib.hid (by simp)⟩
 case round =>
  obtain ⟨k,hk,rfl,HT⟩:=hrel
  by_cases h1:k<n
  ·obtain ⟨b,o,x,rfl,hx1,hx2⟩:=hx.int_at h1
   have HX:=Lib.hid hx1
   clear hx1
   by_cases h2:x=0
   ·have d2:(x != 0)=false:=by simp [h2]
    have H2:=Lib.hid h2
    clear h2
    go_wp2
    go_round
    case rel=>exact ⟨k+1,by omega,by go_num,Lib.hid (by rw [zb9 HX.out,List.find?_append,HT.out,H2.out];rfl)⟩
    case measure=>simp [intOf]<;>omega
   ·have d2:(x != 0)=true:=by simp [h2]
    go_wp2
    go_ret
    refine ⟨ret_int ?_,rfl⟩
    have hsp:=List.take_append_drop (k+1) xs
    unfold orI
    rw [← hsp,List.find?_append,zb9 HX.out,List.find?_append,HT.out]
    simp [h2]
  ·go_wp2
   go_ret
   have ht:=HT.out
   rw [List.take_of_length_le (by rw [HL.out];omega)] at ht
   exact ⟨ret_int (by unfold orI;rw [ht];rfl),rfl⟩
theorem orI_cmp (xs ys:List Int):orI [cmpI xs.length ys.length,lexI xs ys]=cmpW xs ys:=by
 unfold orI cmpI cmpW
 by_cases h1:xs.length<ys.length
 ·rw [if_pos (by omega),if_pos h1];rfl
 ·by_cases h2:ys.length<xs.length
  ·rw [if_neg (by omega),if_pos (by omega),if_neg h1,if_pos h2];rfl
  ·rw [if_neg (by omega),if_neg (by omega),if_neg h1,if_neg h2]
   by_cases h3:lexI xs ys=0
   ·simp [h3]
   ·simp [h3]
theorem src_two {w:World} (x y:Value) (t:TypeId):Src (w.alloc (.cells #[x,y] t)) (some ⟨w.heap.size,0,none⟩) 2 [x,y] :=
 ⟨rfl,fun _=>⟨_,_,rfl,fun j u hu=>by
  have:=cell_two_new w x y t j u hu
  rwa [addr_add] at this⟩⟩
theorem ints_row {w:World} (x y:Int) (t:TypeId):RowOf (w.alloc (.cells #[.int .i64 x,.int .i64 y] t)) IsInt (some ⟨w.heap.size,0,none⟩) 2 2 [x,y]:=by
 refine ⟨rfl,Nat.le_refl _,by omega,fun _=>⟨_,_,rfl,fun i z hz=>?_⟩⟩
 obtain ⟨_,hc⟩:=src_two (w:=w) (.int .i64 x) (.int .i64 y) t
 obtain ⟨b,o,e,hcc⟩:=hc (by omega)
 injection e with e
 injection e with e1 e2
 subst e1 e2
 match i,hz with
 | 0,hz =>
  simp at hz
  subst hz
  exact ⟨_,hcc 0 _ rfl,rfl⟩
 | 1,hz =>
  simp at hz
  subst hz
  exact ⟨_,hcc 1 _ rfl,rfl⟩
set_option maxHeartbeats 400000 in
theorem zk2 {A B:Option Addr} {n c m c':Nat} {xs ys:List Int} {w:World} (hx:RowOf w IsInt A n c xs) (hy:RowOf w IsInt B m c' ys) :
  Calls Tryz.prog 135 #[.slice A n c,.slice B m c'] w fun e w'=>e=.returned (.int .i64 (cmpW xs ys))∧w.alloc (.cells #[.int .i64 (cmpI xs.length ys.length),.int .i64 (lexI xs ys)] 3)=w':=by
 have hn:=hx.small
 have hm:=hy.small
 have hc1:=Lib.hid (zf9 hx hy)
 have HE:=Lib.hid (orI_cmp xs ys)
 have h1:=hx.len
 have h2:=hy.len
 have HO:=Lib.hid (fun t=>cmpOr_any (ints_row (w:=w) (cmpI xs.length ys.length) (lexI xs ys) t))
 rw [h1,h2] at HE HO
 rw [h1,h2]
 clear h1 h2 hx hy
 go_enter Tryz.func135,Tryz.ntmps135
 go_wp2_with (first | (go_at_call 155;refine (zfu _ _ _).mono ?_;rintro e w' ⟨rfl,rfl⟩) | (go_at_call 141;refine hc1.out.mono ?_;rintro e w' ⟨rfl,rfl⟩) | (go_at_call 154;refine (HO.out _).mono ?_;rintro e w' ⟨rfl,rfl⟩))
 go_ret
 exact ⟨ret_int HE.out,rfl⟩
end Go.Proofs.YtcneaiejdidooaaGreatDoor

/-
 DERIVED: THE SHELF's CONTRACTS AT THIS DUMP, IN PLAIN WORDS (tools/lay-plain.mjs out of 'YtcneaiejdidooaaGreatDoorShelf0.lean', which tools/lay-shelf.mjs wrote): THE SAME DECLARATIONS UNDER THE SAME NAMES: 'import', 'namespace', 'open', 'def', 'theorem' AND NOTHING ELSE: no command of the shelf's: FOR A HAND-IN. Each laying: the table of numbers ('.._ren') and one theorem, a field a fact of the dump's own or the kernel's comparison; each contract: ONE APPLICATION.
-/
namespace Go.Proofs
open Go.Shelf
def Tryz.sortW_ren:Go.Shelf.Ren:=⟨fun | 6=>138 | 15=>157 | 14=>156 | 28=>172 | 29=>173 | 20=>164 | 21=>165 | 22=>166 | 23=>167 | 24=>168 | 25=>169 | 26=>170 | 27=>171 | 46=>179 | 47=>180 | 48=>181 | 49=>182 | 50=>183 | 57=>189 | n=>n,fun | 22=>22 | 24=>25 | 25=>101 | 3=>3 | 39=>218 | 0=>0 | 53=>234 | 55=>30 | 4=>4 | 46=>228 | 45=>227 | 50=>211 | 5=>5 | 9=>9 | 66=>241 | 70=>245 | 76=>252 | 77=>176 | n=>n,fun | n=>n⟩
theorem Tryz.sortW:Go.Proofs.SlLaysF.n6 Tryz.prog Tryz.sortW_ren:={
 mixed:=by kernel_rfl
 f6:=⟨Tryz.f138.name,by decide,Tryz.func138.trans (congrArg some (by kernel_rfl))⟩
 f14:=⟨Tryz.f156.name,by decide,Tryz.func156.trans (congrArg some (by kernel_rfl))⟩
 f15:=Tryz.func157.trans (congrArg some (by kernel_rfl))
 f20:=⟨Tryz.f164.name,by decide,Tryz.func164.trans (congrArg some (by kernel_rfl))⟩
 f21:=⟨Tryz.f165.name,by decide,Tryz.func165.trans (congrArg some (by kernel_rfl))⟩
 f22:=⟨Tryz.f166.name,by decide,Tryz.func166.trans (congrArg some (by kernel_rfl))⟩
 f23:=⟨Tryz.f167.name,by decide,Tryz.func167.trans (congrArg some (by kernel_rfl))⟩
 f24:=⟨Tryz.f168.name,by decide,Tryz.func168.trans (congrArg some (by kernel_rfl))⟩
 f25:=⟨Tryz.f169.name,by decide,Tryz.func169.trans (congrArg some (by kernel_rfl))⟩
 f26:=⟨Tryz.f170.name,by decide,Tryz.func170.trans (congrArg some (by kernel_rfl))⟩
 f27:=⟨Tryz.f171.name,by decide,Tryz.func171.trans (congrArg some (by kernel_rfl))⟩
 f28:=Tryz.func172.trans (congrArg some (by kernel_rfl))
 f29:=Tryz.func173.trans (congrArg some (by kernel_rfl))
 f46:=⟨Tryz.f179.name,by decide,Tryz.func179.trans (congrArg some (by kernel_rfl))⟩
 f47:=Tryz.func180.trans (congrArg some (by kernel_rfl))
 f48:=Tryz.func181.trans (congrArg some (by kernel_rfl))
 f49:=⟨Tryz.f182.name,by decide,Tryz.func182.trans (congrArg some (by kernel_rfl))⟩
 f50:=⟨Tryz.f183.name,by decide,Tryz.func183.trans (congrArg some (by kernel_rfl))⟩
 f57:=⟨Tryz.f189.name,by decide,Tryz.func189.trans (congrArg some (by kernel_rfl))⟩
 t0:=Tryz.underlying0
 a0:=Tryz.isAgg0
 z0:=Tryz.sizeOf0
 v0:=Tryz.zeroValue0
 t3:=Tryz.underlying3
 a3:=Tryz.isAgg3
 z3:=Tryz.sizeOf3
 v3:=Tryz.zeroValue3
 t4:=Tryz.underlying4
 a4:=Tryz.isAgg4
 z4:=Tryz.sizeOf4
 v4:=Tryz.zeroValue4
 t5:=Tryz.underlying5
 a5:=Tryz.isAgg5
 z5:=Tryz.sizeOf5
 v5:=Tryz.zeroValue5
 t9:=Tryz.underlying9
 a9:=Tryz.isAgg9
 z9:=Tryz.sizeOf9
 v9:=Tryz.zeroValue9
 t22:=Tryz.underlying22
 a22:=Tryz.isAgg22
 z22:=Tryz.sizeOf22
 v22:=Tryz.zeroValue22
 a24:=Tryz.isAgg25
 z24:=Tryz.sizeOf25
 t25:=Tryz.underlying101
 a25:=Tryz.isAgg101
 z25:=Tryz.sizeOf101
 v25:=Tryz.zeroValue101
 t39:=Tryz.underlying218
 a39:=Tryz.isAgg218
 z39:=Tryz.sizeOf218
 v39:=Tryz.zeroValue218
 t45:=Tryz.underlying227
 a45:=Tryz.isAgg227
 z45:=Tryz.sizeOf227
 v45:=Tryz.zeroValue227
 t46:=Tryz.underlying228
 a46:=Tryz.isAgg228
 z46:=Tryz.sizeOf228
 v46:=Tryz.zeroValue228
 t50:=Tryz.underlying211
 a50:=Tryz.isAgg211
 z50:=Tryz.sizeOf211
 v50:=Tryz.zeroValue211
 t53:=Tryz.underlying234
 a53:=Tryz.isAgg234
 z53:=Tryz.sizeOf234
 v53:=Tryz.zeroValue234
 t55:=Tryz.underlying30
 a55:=Tryz.isAgg30
 z55:=Tryz.sizeOf30
 v55:=Tryz.zeroValue30
 t66:=Tryz.underlying241
 a66:=Tryz.isAgg241
 z66:=Tryz.sizeOf241
 v66:=Tryz.zeroValue241
 t70:=Tryz.underlying245
 a70:=Tryz.isAgg245
 z70:=Tryz.sizeOf245
 v70:=Tryz.zeroValue245
 t76:=Tryz.underlying252
 a76:=Tryz.isAgg252
 z76:=Tryz.sizeOf252
 v76:=Tryz.zeroValue252
 t77:=Tryz.underlying176
 a77:=Tryz.isAgg176
 z77:=Tryz.sizeOf176
 v77:=Tryz.zeroValue176 }
end Go.Proofs

/-
 The sort at this program's types, and the comparisons that it is handed.
-/
namespace Go.Proofs.YtcneaiejdidooaaGreatDoor.Sym
open Go.RowKit Go.Sort
set_option maxRecDepth 100000
theorem putRow_map {E:Type} [Inhabited E] (enc:E→Value) (w:World) (blk off:Nat) (d:Array E):putRow enc w blk off d=putRow id w blk off (d.map enc):=by
 unfold putRow
 congr 1
 funext c
 unfold putCells
 congr 1
 funext k x
 rw [Array.size_map]
 by_cases h:off≤k∧k<off+d.size
 ·have h1:k-off<d.size:=by omega
  rw [if_pos h,if_pos h,getElem!_pos d _ h1,getElem!_pos (d.map enc) _ (by simpa using h1)]
  simp
 ·rw [if_neg h,if_neg h]
theorem holds_map {E:Type} [Inhabited E] {enc:E→Value} {w:World} {blk off:Nat} {d:Array E} (h:Go.Sort.Holds id w blk off (d.map enc)):Go.Sort.Holds enc w blk off d:=fun j hj=>by
 have:=h j (by simpa using hj)
 rw [getElem!_pos (d.map enc) _ (by simpa using hj)] at this
 rw [getElem!_pos d _ hj]
 simpa using this
def one1 (us:List Value):Value:=us.headD undef
theorem flat_one1 {E:Type} [Inhabited E] {enc:E→List Value} (hk:∀ x,(enc x).length=1) (d:Array E):Go.Sort.flatK enc 1 d=d.map fun x=>one1 (enc x):=by
 rw [zm5 hk]
 have:(d.toList.map enc).flatten=d.toList.map fun x=>one1 (enc x):=by
  generalize d.toList=l
  induction l with
  | nil=>rfl
  | cons x l ih =>
   rw [List.map_cons,List.flatten_cons,ih,List.map_cons]
   have:=hk x
   match h:enc x,this with
   | [v],_=>rfl
 rw [this]
 apply Array.ext'
 simp
theorem sortC_words:SortC Tryz.prog 138 1 one1:=by
 refine ⟨fun p cap fv w=>AnyF.slices_SortFunc_none { Tryz.sortW with } p cap fv w,?_⟩
 intro E _ enc cf g blk cap d w hk h1 hO eg hcmp hH hblk hsz
 have e1:∀ m (dk:Array E),putRow (fun x=>one1 (enc x)) (Sort.ahead w m) blk 0 dk=putRow id (Sort.ahead w m) blk 0 (Go.Sort.flatK enc 1 dk):=fun m dk=>by rw [flat_one1 hk,putRow_map]
 have hone:OneCell fun x=>one1 (enc x):=fun x=>by
  have h2:=hk x
  have h3:=h1 x
  match h:enc x,h2 with
  | [v],_ =>
   show (one1 (enc x)).oneCell'=true
   rw [h] at h3 ⊢
   exact h3 v (by simp)
 refine (Any.slices_SortFunc Tryz.sortW (fun x=>one1 (enc x)) hone cf hO g #[] blk 0 cap d w eg (fun m os dk hs x y=>?_) (holds_map (by rw [← flat_one1 hk];exact hH)) hblk hsz).mono ?_
 ·have:=hcmp m os dk hs x y
  unfold sortWorld
  rw [e1]
  simpa using this
 ·rintro e w' ⟨he,d',n,os,hp,hs,hw⟩
  exact ⟨he,d',n,os,hp,hs,by rw [hw];unfold sortWorld;rw [e1]⟩
theorem cmpG_lex {f:List Int→List Int→Option Int} (hf:∀ x y r,x.length≤17592186044416→f x y=some r→r=lexI x y):CmpG Tryz.prog 122 (nL cI) f:=by
 intro W S u u' x y r h hu hu'
 obtain ⟨A,n,c,rfl,h1⟩:=zge hu
 have:=hf x y r (by rw [h1.len];exact h1.small) h
 subst this
 obtain ⟨B,m,c',rfl,h2⟩:=zge hu'
 refine (wordLex_any h1 h2).mono fun e w' ⟨he,hw⟩=>⟨he,0,#[],?_⟩
 rw [← hw,Sort.grow_empty]
 rfl
theorem cmpG_compare {f:List Int→List Int→Option Int} (hf:∀ x y r,x.length≤17592186044416→f x y=some r→r=cmpW x y):CmpG Tryz.prog 135 (nL cI) f:=by
 intro W S u u' x y r h hu hu'
 obtain ⟨A,n,c,rfl,h1⟩:=zge hu
 have:=hf x y r (by rw [h1.len];exact h1.small) h
 subst this
 obtain ⟨B,m,c',rfl,h2⟩:=zge hu'
 refine (zk2 h1 h2).mono fun e w' ⟨he,hw⟩=>⟨he,0,#[.cells #[.int .i64 (cmpI x.length y.length),.int .i64 (lexI x y)] 3],?_⟩
 rw [← hw,Sort.alloc_eq_grow]
 rfl
theorem rep_of_one {W:World} {S:Nat→Prop} {us:List Value} {x:IV} (hl:us.length=1) (hr:RepIs W S us [x]):RepI W S (one1 us) x:=by
 match us,hl with
 | [u],_=>exact hr.2 0 u x rfl rfl
def CmpE {T:Type} (P:Program) (g:FuncId) (X:T→IV) (f:T→T→Option Int):Prop:=(∀ args w,(callFunc g args).run P w=.ok (.enter g args) w)∧CmpG P g X f
end Go.Proofs.YtcneaiejdidooaaGreatDoor.Sym

/-
 The contract of slices.Insert of one element.
-/
namespace Go.Proofs.YtcneaiejdidooaaGreatDoor.Sym
open Go.RowKit
theorem Tryz.infoI_traces:(Tryz.prog.info? 55).map (fun i=>(i.zero,i.size,i.bytes))=some (some (.agg #[.slice none 0 0,.slice none 0 0]),2,48):=by kernel_rfl
section
variable {P:Program}
theorem znf (w:World) {o:Oper} {a:Act} {K:Act→World→Prop} {Q:Exit→Act→World→Prop} (d s:Operand) (t t':TypeId)
  (ho:o.op=.call { callee:=.builtin .copy,args:=#[d,s],argTypes:=#[t,t'] }) (v u:Value) (hd:a.eval d=v) (hs:a.eval s=u) {v':Value} {w':World}
  (hr:(Builtin.copy_ #[t,t'] o.type #[v,u]).run P w=.ok v' w') (h:K (a.put o.dst v') w'):o.wp P a w K Q:=by
 unfold Oper.wp execOp
 simp only [ho,resolve,invoke,builtin,Sem.run_bind,Sem.run_pure,Result.andThen_ok,List.map_toArray,List.map_cons,List.map_nil,hd,hs,hr]
 exact h
theorem zhz (w:World) {ops:Array Oper} {rest:List Oper} {o:Oper} {a:Act} {Q:Exit→Act→World→Prop} (hgd:o.guard=none) (d s:Operand) (t t':TypeId)
  (ho:o.op=.call { callee:=.builtin .copy,args:=#[d,s],argTypes:=#[t,t'] }) (v u:Value) (hd:a.eval d=v) (hs:a.eval s=u) {v':Value} {w':World}
  (hr:(Builtin.copy_ #[t,t'] o.type #[v,u]).run P w=.ok v' w') (h:wpList P ops Q rest (a.put o.dst v') w'):wpList P ops Q (o::rest) a w :=
 wpList_plain hgd fun _ hK=>znf w d s t t' ho v u hd hs hr (hK _ _ h)
theorem zjp {ops:Array Oper} {o:Oper} {a:Act} {w:World} {K:Act→World→Prop} {Q:Exit→Act→World→Prop} {E:Prop}
  (hg:o.guard=none) (d x:Operand) (dT sT:TypeId) (hop:o.op=Op.call { callee:=Callee.builtin Builtin.copy,args:=#[d,x],argTypes:=#[dT,sT] })
  (v u:Value) (hd:a.eval d=v) (hx:a.eval x=u) {v':Value} {w':World} (hr:(Builtin.copy_ #[dT,sT] o.type #[v,u]).run P w=.ok v' w') (hK:K (a.put o.dst v') w') :
  if Region.wanted o (yielded ops a.tmps)=true then Oper.wp P o a w K Q else E:=by
 have hw:Region.wanted o (yielded ops a.tmps)=true:=by simp [Region.wanted,hg]
 rw [if_pos hw]
 exact znf w d x dT sT hop v u hd hx hr hK
end
def InsPost (t:TypeId) (k n:Nat) (us:List Value) (v:Value) (w:World) (e:Ending) (w':World):Prop :=
 ∃ v',e=.returned v'∧w'.ownsRow 0 t k v' (n+1) us∧w.grownBy w' v.ownBlock∧(v'.ownBlock=v.ownBlock∨v'.ownBlock=some w.heap.size)
set_option maxRecDepth 100000 in
set_option maxHeartbeats 400000 in
theorem insert_end (w:World) (v:Value) (n vb vc:Nat) (us news:List Value) (ho:w.ownsRow 0 55 2 v n us) (hl:news.length=1*2) (hb:∀ (j:Nat) u,news[j]?=some u→w.cell? ⟨vb,0+j,none⟩=some u)
  (h1:∀ u∈news,u.oneCell'=true) (hn:n≤1000000):Calls Tryz.prog 152 #[v,.int .i64 n,.slice (some ⟨vb,0,none⟩) 1 vc] w (InsPost 55 2 n (us++news) v w):=by
 obtain ⟨j0,ji,jz0,jz1,jz2⟩:=info_parts Tryz.infoI_traces
 have hc6:n+1≤maxLen:=by unfold maxLen;omega
 have hc7:(n+1)*48≤140737488355328:=by omega
 rcases ho.2 with ⟨hv,h0⟩ | ⟨g,cap,cur,hv,_,hg,hnc,hcm,hcz,hct⟩
 ·subst hv h0
  go_enter Tryz.func152,Tryz.ntmps152
  go_wp2_with (at_builtin;refine zd3 rfl (.tmp 23) (.tmp 24) 33 rfl 0 55 j0 (.agg #[.slice none 0 0,.slice none 0 0]) 2 48 Tryz.underlying33 ji jz0 jz1 jz2 rfl (by decide) _ _ _ rfl ho _ _ _ _ rfl hl (fun _=>⟨vb,0,rfl,hb⟩) h1 hc6 hc7 (Nat.zero_le _) ?_;intro v1 w1 hown1 hg1 hb1)
  all_goals (go_ret;exact ⟨v1,rfl,hown1,hg1,hb1⟩)
 ·subst hv
  go_enter Tryz.func152,Tryz.ntmps152
  go_wp2_with (at_builtin;refine zd3 rfl (.tmp 23) (.tmp 24) 33 rfl 0 55 j0 (.agg #[.slice none 0 0,.slice none 0 0]) 2 48 Tryz.underlying33 ji jz0 jz1 jz2 rfl (by decide) _ _ _ rfl ho _ _ _ _ rfl hl (fun _=>⟨vb,0,rfl,hb⟩) h1 hc6 hc7 (Nat.zero_le _) ?_;intro v1 w1 hown1 hg1 hb1)
  all_goals (go_ret;exact ⟨v1,rfl,hown1,hg1,hb1⟩)
set_option maxRecDepth 100000 in
set_option maxHeartbeats 800000 in
theorem insert_shift (w:World) (g cap n i vb vc:Nat) (cur cur2:Array Value) (us news:List Value) (hg:w.heap[g]?=some (.cells cur 55 (0,0))) (hcz:cur.size=cap*2) (hct:cur.toList.take (n*2)=us)
  (hcm:cap≤maxLen) (hne:vb≠g) (hvb:w.heap[vb]?=some (.cells cur2 55 (0,0))) (hvz:cur2.toList.take 2=news) (hl:news.length=2) (h1:∀ u∈us,u.oneCell'=true) (h2:∀ u∈news,u.oneCell'=true) (hi:i<n) (hr:n<cap) (hn:n≤1000000) :
  Calls Tryz.prog 152 #[.slice (some ⟨g,0,none⟩) n cap,.int .i64 i,.slice (some ⟨vb,0,none⟩) 1 vc] w (InsPost 55 2 n (us.take (i*2)++news++us.drop (i*2)) (.slice (some ⟨g,0,none⟩) n cap) w):=by
 obtain ⟨j0,ji,jz0,jz1,jz2⟩:=info_parts Tryz.infoI_traces
 have hz2:¬ ((i:Int)=(n:Int)):=by omega
 have hov:∀ lb cb,(callFunc 160 #[.slice (some ⟨vb,0,none⟩) 1 vc,.slice (some ⟨g,(i+1)*2,none⟩) lb cb]).run Tryz.prog w=.ok (.value (.bool false)) w:=fun lb cb=>by
  rw [run_callFunc_extern Tryz.func160 (by kernel_rfl) (by kernel_rfl) (by kernel_rfl) (e:=Extern.SlicesOverlaps.overlaps #[33,33] #[4]) (by kernel_rfl),
   Lib.run_overlaps_apart w 33 4 55 Tryz.underlying33 2 Tryz.sizeOf55 ⟨vb,0,none⟩ ⟨g,(i+1)*2,none⟩ 1 vc lb cb hne 55 55 cur2.size cur.size (by simp [World.shape?,hvb]) (by simp [World.shape?,hg]) (by omega) (by simp [World.frozen?,hvb]) (by simp [World.frozen?,hvb])]
  rfl
 have hct':∀ (j:Nat),j<n*2→cur[j]?=us[j]?:=fun j hj=>by
  rw [← hct,List.getElem?_take,if_pos hj,Array.getElem?_toList]
 have hul:us.length=n*2:=by
  rw [← hct,List.length_take,Array.length_toList]
  omega
 have hdl:(us.drop (i*2)).length=(n-i)*2:=by rw [List.length_drop,hul];omega
 obtain ⟨R1,hR1⟩:∃ R1,R1=(cur.toList.take ((i+1)*2)++us.drop (i*2)++cur.toList.drop ((i+1)*2+(us.drop (i*2)).length)).toArray:=⟨_,rfl⟩
 have hcp1:∀ ty dl dc sl sc,dl=n-i→sl=n+1-i→(Builtin.copy_ #[33,33] ty #[.slice (some ⟨g,(i+1)*2,none⟩) dl dc,.slice (some ⟨g,i*2,none⟩) sl sc]).run Tryz.prog w.drew=.ok (goInt ((n-i:Nat):Int)) (w.drew.setRow g R1):=fun ty dl dc sl sc hd hs=>by
  have hm:Nat.min sl dl=n-i:=by rw [hd,hs];simp only [Nat.min_def];split<;>omega
  have:=zf7 (P:=Tryz.prog) w.drew 33 33 ty 55 g ((i+1)*2) dl dc ⟨g,i*2,none⟩ sl sc cur 55 (us.drop (i*2)) 2 Tryz.underlying33 (by rw [ji];simp [jz1]) hg (by rw [hm,hdl]) (fun j v hj=>by
   rw [Addr.add_lit]
   rw [List.getElem?_drop] at hj
   have hlt:=(List.getElem?_eq_some_iff.1 hj).1
   show w.cell? _=_
   simp only [World.cell?,hg]
   rw [hct' _ (by omega)]
   simpa using hj) (by rw [hdl];omega) (fun v hv=>h1 v (List.mem_of_mem_drop hv))
  rw [hm,← hR1] at this
  exact this
 have hR1z:R1.size=cap*2:=by
  rw [hR1]
  simp only [List.size_toArray,List.length_append,List.length_take,List.length_drop,Array.length_toList]
  omega
 have hg1:(w.drew.setRow g R1).heap[g]?=some (.cells R1 55 (0,0)):=setRow_heap w.drew g cur R1 _ _ hg
 have hvb1:(w.drew.setRow g R1).heap[vb]?=some (.cells cur2 55 (0,0)):=by
  rw [setRow_other _ _ _ _ hne]
  exact hvb
 obtain ⟨R2,hR2⟩:∃ R2,R2=(R1.toList.take (i*2)++news++R1.toList.drop (i*2+news.length)).toArray:=⟨_,rfl⟩
 have hcp2:∀ (W:World) ty dl dc,W.heap[g]?=some (.cells R1 55 (0,0))→W.heap[vb]?=some (.cells cur2 55 (0,0))→1≤dl→(Builtin.copy_ #[33,33] ty #[.slice (some ⟨g,i*2,none⟩) dl dc,.slice (some ⟨vb,0,none⟩) 1 vc]).run Tryz.prog W=.ok (goInt ((1:Nat):Int)) (W.setRow g R2):=fun W ty dl dc hW hV hd=>by
  have hm:Nat.min 1 dl=1:=by simp only [Nat.min_def];split<;>omega
  have:=zf7 (P:=Tryz.prog) W 33 33 ty 55 g (i*2) dl dc ⟨vb,0,none⟩ 1 vc R1 55 news 2 Tryz.underlying33 (by rw [ji];simp [jz1]) hW (by rw [hm,hl]) (fun j v hj=>by
   rw [Addr.add_lit]
   have hlt:=(List.getElem?_eq_some_iff.1 hj).1
   simp only [World.cell?,hV]
   rw [← hvz,List.getElem?_take,if_pos (by omega),Array.getElem?_toList] at hj
   simpa using hj) (by rw [hl];omega) h2
  rw [hm,← hR2] at this
  exact this
 obtain ⟨US,hUS⟩:∃ US,US=us.take (i*2)++news++us.drop (i*2):=⟨_,rfl⟩
 rw [← hUS]
 have HUS:=Lib.hid hUS
 have HR1:=Lib.hid hR1
 have HR2:=Lib.hid hR2
 have HDL:=Lib.hid hdl
 have HUL:=Lib.hid hul
 have HCT:=Lib.hid hct
 have HL:=Lib.hid hl
 have HVZ:=Lib.hid hvz
 clear hUS hR1 hR2 hdl hul hct hct' hl hvz h1 h2
 have hcp3:=fun ty dl dc=>hcp2 (w.drew.setRow g R1) ty dl dc hg1 hvb1
 have hcd:1≤n+1-i:=by omega
 clear hcp2 hg1 hvb1
 have mixed:Tryz.prog.follows Departure.mixedOrders=true:=by kernel_rfl
 have hw1:IntKind.i64.wrap ((i:Int)+1)=(i:Int)+1:=by rw [IntKind.wrap_i64];omega
 have hb1:(0:Int)≤(i:Int)+1:=by omega
 have hin:i≤n:=by omega
 have htn:((i:Int)+1).toNat=i+1:=by omega
 have hb2:¬ (cap=i+1):=by omega
 have hb3:(i:Int)≤(n:Int)+1:=by omega
 have hb4:¬ (cap=i):=by omega
 go_enter Tryz.func152,Tryz.ntmps152
 go_wp2_with (simp only [hov])
 go_region_law_o (refine zjp rfl _ _ 33 33 rfl _ _ (by simp [Act.eval,Act.put]) (by simp [Act.eval,Act.put]) (hcp1 _ _ _ _ _ (by omega) (by omega)) ?_)
 go_wp2_with (at_builtin;refine zhz _ rfl _ _ 33 33 rfl _ _ rfl rfl (hcp3 3 (n+1-i) (cap-i) hcd) ?_)
 go_ret
 have hl:=HL.out
 have hul:=HUL.out
 have hct:=HCT.out
 have hdl:=HDL.out
 have hRL1:R1.toList=cur.toList.take ((i+1)*2)++us.drop (i*2)++cur.toList.drop ((i+1)*2+(us.drop (i*2)).length):=by rw [HR1.out]
 have hA1:(cur.toList.take ((i+1)*2)).length=(i+1)*2:=by rw [List.length_take,Array.length_toList];omega
 have hT:R1.toList.take (i*2)=us.take (i*2):=by
  rw [hRL1,List.append_assoc,List.take_append_of_le_length (by rw [hA1];omega),List.take_take,← hct,List.take_take]
  congr 1
  omega
 have hD:R1.toList.drop (i*2+2)=us.drop (i*2)++cur.toList.drop ((i+1)*2+(us.drop (i*2)).length):=by
  rw [hRL1,List.append_assoc,List.drop_append_of_le_length (by rw [hA1];omega),List.drop_of_length_le (by rw [hA1];omega),List.nil_append]
 have hRL2:R2.toList=US++cur.toList.drop ((i+1)*2+(us.drop (i*2)).length):=by
  rw [HR2.out,HUS.out,hl,hT,hD]
  simp
 have hUL:US.length=(n+1)*2:=by
  rw [HUS.out,List.length_append,List.length_append,hdl,hl,List.length_take,hul]
  omega
 refine ⟨_,rfl,⟨hUL,.inr ⟨g,cap,R2,rfl,Nat.zero_le _,?_,by omega,hcm,?_,?_⟩⟩,⟨rfl,rfl,rfl,?_,fun k hk hkn=>?_⟩,.inl rfl⟩
 ·exact setRow_heap _ g R1 R2 _ _ (setRow_heap w.drew g cur R1 _ _ hg)
 ·rw [← Array.length_toList,hRL2,List.length_append,hUL,List.length_drop,Array.length_toList,hdl]
  omega
 ·rw [hRL2,List.take_append_of_le_length (by omega),List.take_of_length_le (by omega)]
 ·simp
 ·have hkg:k≠g:=fun e=>hkn (by rw [e];rfl)
  rw [setRow_other _ _ _ _ hkg,setRow_other _ _ _ _ hkg]
  rfl
set_option maxRecDepth 100000 in
set_option maxHeartbeats 800000 in
theorem insert_grow (w:World) (g n i vb vc:Nat) (cur cur2:Array Value) (us news:List Value) (hg:w.heap[g]?=some (.cells cur 55 (0,0))) (hcz:cur.size=n*2) (hct:cur.toList.take (n*2)=us)
  (hvb:w.heap[vb]?=some (.cells cur2 55 (0,0))) (hvz:cur2.toList.take 2=news) (hl:news.length=2) (h1:∀ u∈us,u.oneCell'=true) (h2:∀ u∈news,u.oneCell'=true) (hi:i<n) (hn:n≤1000000) :
  Calls Tryz.prog 152 #[.slice (some ⟨g,0,none⟩) n n,.int .i64 i,.slice (some ⟨vb,0,none⟩) 1 vc] w (InsPost 55 2 n (us.take (i*2)++news++us.drop (i*2)) (.slice (some ⟨g,0,none⟩) n n) w):=by
 obtain ⟨j0,ji,jz0,jz1,jz2⟩:=info_parts Tryz.infoI_traces
 have hz2:¬ ((i:Int)=(n:Int)):=by omega
 have hz3:(n:Int)<(n:Int)+1:=by omega
 have hct':∀ (j:Nat),j<n*2→cur[j]?=us[j]?:=fun j hj=>by
  rw [← hct,List.getElem?_take,if_pos hj,Array.getElem?_toList]
 have hul:us.length=n*2:=by
  rw [← hct,List.length_take,Array.length_toList]
  omega
 have hdl:(us.drop (i*2)).length=(n-i)*2:=by rw [List.length_drop,hul];omega
 have htl:(us.take (i*2)).length=i*2:=by rw [List.length_take,hul];omega
 have hgl:g<w.heap.size:=by
  rcases Nat.lt_or_ge g w.heap.size with h | h
  ·exact h
  ·rw [Array.getElem?_eq_none h] at hg
   cases hg
 have hvl:vb<w.heap.size:=by
  rcases Nat.lt_or_ge vb w.heap.size with h | h
  ·exact h
  ·rw [Array.getElem?_eq_none h] at hvb
   cases hvb
 obtain ⟨N,hN⟩:∃ N,N=w.heap.size:=⟨_,rfl⟩
 have hold:(Builtin.firstCells j0.size i (.slice (some ⟨g,0,none⟩) i n)).run Tryz.prog w.drew=.ok (us.take (i*2)).toArray w.drew:=by
  rw [jz1]
  exact run_firstCells_some w.drew 2 i ⟨g,0,none⟩ i n (us.take (i*2)) htl (fun j v hj=>by
   rw [Addr.add_lit]
   rw [List.getElem?_take] at hj
   split at hj
   ·show w.cell? _=_
    simp only [World.cell?,hg]
    rw [Nat.zero_add,hct' _ (by omega)]
    exact hj
   ·cases hj)
 obtain ⟨G,hG⟩:∃ G,G=grownCap w (n+1) n 55:=⟨_,rfl⟩
 obtain ⟨ROW,hROW⟩:∃ ROW:Array Value,ROW=(us.take (i*2)).toArray++Builtin.zeroCells (Value.agg #[.slice none 0 0,.slice none 0 0]).cells (n+1-i)++Builtin.zeroCells (Value.agg #[.slice none 0 0,.slice none 0 0]).cells (G-(n+1)):=⟨_,rfl⟩
 have hGn:n+1≤G:=by rw [hG];exact grownCap_ge w _ _ _
 have hGm:G≤maxLen:=by rw [hG];exact grownCap_le_maxLen w (n+1) n 55 (by unfold maxLen;omega)
 have hG63:G≤9223372036854775807:=by unfold maxLen at hGm;omega
 obtain ⟨W1,hW1⟩:∃ W1,W1=w.drew.alloc (.cells ROW 55):=⟨_,rfl⟩
 have hrz:∀ ty,(Builtin.append_ #[33,3] ty #[.slice (some ⟨g,0,none⟩) i n,.int .i64 ((n:Int)+1-(i:Int))]).run Tryz.prog w=.ok (.slice (some ⟨N,0,none⟩) (n+1) G) W1:=fun ty=>by
  have h:=Lib.run_append_grow_zeros w 33 3 ty 55 j0 _ .i64 .i64 Tryz.underlying33 Tryz.underlying3 ji jz0 (some ⟨g,0,none⟩) i n (us.take (i*2)) hold (n+1-i) (by omega) (by omega) (by omega) (by omega) (by rw [jz2];omega) (by rw [jz2,show i+(n+1-i)=n+1 by omega];exact growslice_fits (by omega) (by omega))
  rw [show i+(n+1-i)=n+1 by omega,← hG,← hROW,← hN,← hW1] at h
  rw [show (n:Int)+1-(i:Int)=((n+1-i:Nat):Int) by omega]
  exact h
 have hRz:ROW.size=G*2:=by
  rw [hROW]
  simp only [Array.size_append,List.size_toArray,htl,Builtin.zeroCells,Value.cells,Array.size_map,Array.size_range]
  simp
  omega
 have hROWL:ROW.toList.take (i*2)=us.take (i*2):=by
  rw [hROW,Array.toList_append,Array.toList_append,List.append_assoc,List.take_append_of_le_length (by simp [htl]),List.take_of_length_le (by simp [htl])]
 have hA0:W1.heap[N]?=some (.cells ROW 55 (0,0)):=by
  rw [hW1,hN]
  exact heap_alloc_new w.drew _
 have hAold:∀ k,k<w.heap.size→W1.heap[k]?=w.heap[k]?:=fun k hk=>by
  rw [hW1]
  exact heap_alloc_old w.drew _ hk
 obtain ⟨R1,hR1⟩:∃ R1,R1=(ROW.toList.take (i*2)++news++ROW.toList.drop (i*2+news.length)).toArray:=⟨_,rfl⟩
 have hcpA:∀ (W:World) ty dl dc,W.heap[N]?=some (.cells ROW 55 (0,0))→W.heap[vb]?=some (.cells cur2 55 (0,0))→1≤dl→(Builtin.copy_ #[33,33] ty #[.slice (some ⟨N,i*2,none⟩) dl dc,.slice (some ⟨vb,0,none⟩) 1 vc]).run Tryz.prog W=.ok (goInt ((1:Nat):Int)) (W.setRow N R1):=fun W ty dl dc hW hV hd=>by
  have hm:Nat.min 1 dl=1:=by simp only [Nat.min_def];split<;>omega
  have:=zf7 (P:=Tryz.prog) W 33 33 ty 55 N (i*2) dl dc ⟨vb,0,none⟩ 1 vc ROW 55 news 2 Tryz.underlying33 (by rw [ji];simp [jz1]) hW (by rw [hm,hl]) (fun j v hj=>by
   rw [Addr.add_lit]
   have hlt:=(List.getElem?_eq_some_iff.1 hj).1
   simp only [World.cell?,hV]
   rw [← hvz,List.getElem?_take,if_pos (by omega),Array.getElem?_toList] at hj
   simpa using hj) (by rw [hl];omega) h2
  rw [hm,← hR1] at this
  exact this
 have hR1z:R1.size=G*2:=by
  rw [hR1]
  simp only [List.size_toArray,List.length_append,List.length_take,List.length_drop,Array.length_toList,hl]
  omega
 obtain ⟨R2,hR2⟩:∃ R2,R2=(R1.toList.take ((i+1)*2)++us.drop (i*2)++R1.toList.drop ((i+1)*2+(us.drop (i*2)).length)).toArray:=⟨_,rfl⟩
 have hcpB:∀ (W:World) ty dl dc sl sc,W.heap[N]?=some (.cells R1 55 (0,0))→W.heap[g]?=some (.cells cur 55 (0,0))→dl=n-i→sl=n-i→(Builtin.copy_ #[33,33] ty #[.slice (some ⟨N,(i+1)*2,none⟩) dl dc,.slice (some ⟨g,i*2,none⟩) sl sc]).run Tryz.prog W=.ok (goInt ((n-i:Nat):Int)) (W.setRow N R2):=fun W ty dl dc sl sc hW hV hd hs=>by
  have hm:Nat.min sl dl=n-i:=by rw [hd,hs];simp only [Nat.min_def];split<;>omega
  have:=zf7 (P:=Tryz.prog) W 33 33 ty 55 N ((i+1)*2) dl dc ⟨g,i*2,none⟩ sl sc R1 55 (us.drop (i*2)) 2 Tryz.underlying33 (by rw [ji];simp [jz1]) hW (by rw [hm,hdl]) (fun j v hj=>by
   rw [Addr.add_lit]
   rw [List.getElem?_drop] at hj
   have hlt:=(List.getElem?_eq_some_iff.1 hj).1
   simp only [World.cell?,hV]
   rw [hct' _ (by omega)]
   simpa using hj) (by rw [hdl,hR1z];omega) (fun v hv=>h1 v (List.mem_of_mem_drop hv))
  rw [hm,← hR2] at this
  exact this
 have hcdA:1≤n+1-i:=by omega
 have hvN:vb≠N:=by omega
 have hgN:g≠N:=by omega
 have hA1:=fun ty dc=>hcpA W1 ty (n+1-i) dc hA0 (by rw [hAold vb hvl];exact hvb) hcdA
 have hB0:(W1.setRow N R1).heap[N]?=some (.cells R1 55 (0,0)):=setRow_heap W1 N ROW R1 _ _ hA0
 have hB1:(W1.setRow N R1).drew.heap[g]?=some (.cells cur 55 (0,0)):=by
  show (W1.setRow N R1).heap[g]?=_
  rw [setRow_other _ _ _ _ hgN,hAold g hgl]
  exact hg
 have hB2:=fun ty dl dc sl sc h3 h4=>hcpB (W1.setRow N R1).drew ty dl dc sl sc hB0 hB1 h3 h4
 obtain ⟨US,hUS⟩:∃ US,US=us.take (i*2)++news++us.drop (i*2):=⟨_,rfl⟩
 rw [← hUS]
 have hfin:∃ REST,R2.toList=US++REST:=by
  refine ⟨R1.toList.drop ((i+1)*2+(us.drop (i*2)).length),?_⟩
  have hT:R1.toList.take ((i+1)*2)=us.take (i*2)++news:=by
   have hz:(us.take (i*2)++news).length=(i+1)*2:=by rw [List.length_append,htl,hl];omega
   rw [hR1,hROWL,← hz,List.take_append_of_le_length (Nat.le_refl _),List.take_length]
  rw [hR2,hT,hUS]
 have hUL:US.length=(n+1)*2:=by
  rw [hUS,List.length_append,List.length_append,hdl,hl,htl]
  omega
 have hR2z:R2.size=G*2:=by
  rw [hR2]
  simp only [List.size_toArray,List.length_append,List.length_take,List.length_drop,Array.length_toList]
  omega
 have HR1:=Lib.hid hR1
 have HN:=Lib.hid hN
 have HG:=Lib.hid hG
 have HW1:=Lib.hid hW1
 have HOLD:=Lib.hid hAold
 clear hUS hR1 hR2 hdl hul hct hct' hl hvz h1 h2 hold hROW hROWL htl hcpA hcpB hRz hR1z hG hN hW1 hAold
 have mixed:Tryz.prog.follows Departure.mixedOrders=true:=by kernel_rfl
 have hw1:IntKind.i64.wrap ((i:Int)+1)=(i:Int)+1:=by rw [IntKind.wrap_i64];omega
 have hb1:(0:Int)≤(i:Int)+1:=by omega
 have hin:i≤n:=by omega
 have htn:((i:Int)+1).toNat=i+1:=by omega
 have hb3:(i:Int)≤(n:Int):=by omega
 have hGi:¬ (G=i):=by omega
 have hGim:¬ (G=i+1):=by omega
 have hci:¬ (n=i):=by omega
 go_enter Tryz.func152,Tryz.ntmps152
 go_wp2_with (first
  | (at_builtin;refine Lib.wpList_append_run _ rfl _ _ _ _ rfl _ _ rfl rfl _ _ (hrz _) ?_)
  | (at_builtin;refine zhz _ rfl _ _ 33 33 rfl _ _ rfl rfl (hA1 _ _) ?_))
 go_region_law_o (refine zjp rfl _ _ 33 33 rfl _ _ (by simp [Act.eval,Act.put]) (by simp [Act.eval,Act.put]) (hB2 _ _ _ _ _ (by omega) (by omega)) ?_)
 go_wp2
 go_ret
 obtain ⟨REST,hREST⟩:=hfin
 have hN:=HN.out
 refine ⟨_,rfl,⟨hUL,.inr ⟨N,G,R2,rfl,Nat.zero_le _,?_,hGn,hGm,hR2z,?_⟩⟩,⟨?_,?_,?_,?_,fun k hk hkn=>?_⟩,.inr (by rw [← hN];rfl)⟩
 ·exact setRow_heap _ N R1 R2 _ _ hB0
 ·rw [hREST,List.take_append_of_le_length (by omega),List.take_of_length_le (by omega)]
 ·rw [HW1.out];rfl
 ·rw [HW1.out];rfl
 ·rw [HW1.out];rfl
 ·simp [HW1.out]
 ·have hkg:k≠N:=by omega
  rw [setRow_other _ _ _ _ hkg]
  show (W1.setRow N R1).heap[k]?=_
  rw [setRow_other _ _ _ _ hkg,HOLD.out k hk]
theorem zlb {α:Type} {k:Nat}:∀ {es:List (List α)} (i:Nat),(∀ e∈es,e.length=k)→(es.take i).flatten=es.flatten.take (i*k)∧(es.drop i).flatten=es.flatten.drop (i*k)
 | [],i,_=>by simp
 | e::es,0,_=>by simp
 | e::es,i+1,h=>by
  have he:=h e (by simp)
  obtain ⟨h1,h2⟩:=zlb (es:=es) i fun x hx=>h x (by simp [hx])
  have hz:(i+1)*k=e.length+i*k:=by rw [he,Nat.succ_mul,Nat.add_comm]
  constructor
  ·rw [List.take_succ_cons,List.flatten_cons,List.flatten_cons,h1,hz,List.take_append (l₁:=e),List.take_of_length_le (l:=e) (by omega),Nat.add_sub_cancel_left]
  ·rw [List.drop_succ_cons,List.flatten_cons,h2,hz,List.drop_append (l₁:=e),List.drop_of_length_le (l:=e) (by omega),List.nil_append,Nat.add_sub_cancel_left]
def RelW (R:Value→IV→Prop) (us:List Value) (xs:List IV):Prop:=∀ (i:Nat) u x,us[i]?=some u→xs[i]?=some x→R u x
theorem RelW.append {R:Value→IV→Prop} {us vs:List Value} {xs ys:List IV} (hl:us.length=xs.length) (h1:RelW R us xs) (h2:RelW R vs ys):RelW R (us++vs) (xs++ys):=fun i u x hu hx=>by
 rcases Nat.lt_or_ge i us.length with h | h
 ·rw [List.getElem?_append_left h] at hu
  rw [List.getElem?_append_left (by omega)] at hx
  exact h1 i u x hu hx
 ·rw [List.getElem?_append_right h] at hu
  rw [List.getElem?_append_right (by omega),← hl] at hx
  exact h2 _ u x hu hx
theorem RelW.take {R:Value→IV→Prop} {us:List Value} {xs:List IV} (k:Nat) (h:RelW R us xs):RelW R (us.take k) (xs.take k):=fun i u x hu hx=>by
 rw [List.getElem?_take] at hu hx
 split at hu
 ·rename_i g
  rw [if_pos g] at hx
  exact h i u x hu hx
 ·cases hu
theorem RelW.drop {R:Value→IV→Prop} {us:List Value} {xs:List IV} (k:Nat) (h:RelW R us xs):RelW R (us.drop k) (xs.drop k):=fun i u x hu hx=>by
 rw [List.getElem?_drop] at hu hx
 exact h _ u x hu hx
set_option maxRecDepth 100000 in
theorem sp_of_insert {es:List (List IV)} {e:List IV} {i:Int} (hk:∀ x∈es,x.length=2) (hke:e.length=2) (h0:0≤i) (h1:i≤(↑es.length:Int)) (hn:es.length≤1000000) :
  Sp Tryz.prog 152 [.row 55 2 es,.im (nI i),.row 55 2 [e]] (.row 55 2 (es.take i.toNat++[e]++es.drop i.toNat)):=by
 refine ⟨fun args w=>zd6 rfl rfl rfl args w,fun w S vs F hS hv hnd hF=>?_⟩
 match vs,hv with
 | [v,vi,va],⟨F1,F2,⟨hv1,inn,hrow,e1⟩,⟨F3,F4,⟨h4,e2⟩,⟨F5,F6,⟨hva1,inn2,hrow2,e5⟩,h6,e6⟩,e3⟩,e4⟩ =>
  have h6:F6=[]:=h6
  have e1:F1=(blkOf v).toList:=e1
  have e5:F5=(blkOf va).toList:=e5
  subst e1 e2 e5 h6
  have e6:F4=(blkOf va).toList:=by rw [e6];simp
  subst e6
  have e3:F2=(blkOf va).toList:=by rw [e3];simp
  subst e3
  subst e4
  cases h4
  obtain ⟨us,_,_,hlim,hown,hul,hu1,hr⟩:=hrow
  obtain ⟨news,_,_,_,hown2,hul2,hu2,hr2⟩:=hrow2
  have hlen:([e]:List (List IV)).length=1:=rfl
  rw [hlen] at hown2
  have hnl:news.length=2:=by
   rw [hul2]
   simp [hke]
  obtain ⟨vb,vc,cur2,rfl,_,hvb,hvc,hvm,hvz,hvt⟩:∃ vb vc cur2,va=.slice (some ⟨vb,0,none⟩) 1 vc∧0≤vb∧w.heap[vb]?=some (.cells cur2 55 (0,0))∧1≤vc∧vc≤maxLen∧cur2.size=vc*2∧cur2.toList.take (1*2)=news:=by
   rcases hown2.2 with ⟨_,h⟩ | h
   ·cases h
   ·exact h
  have hbva:blkOf (.slice (some ⟨vb,0,none⟩) 1 vc)=some vb:=rfl
  rw [hbva] at hnd hF ⊢
  have hvbF:¬ S vb∧vb<w.heap.size:=hF vb (by simp)
  have hull:us.length=es.length*2:=hown.1
  have ei:i=(↑i.toNat:Int):=by omega
  have hcall:Calls Tryz.prog 152 #[v,.int .i64 i,.slice (some ⟨vb,0,none⟩) 1 vc] w (InsPost 55 2 es.length (us.take (i.toNat*2)++news++us.drop (i.toNat*2)) v w):=by
   rw [ei]
   simp only [Int.toNat_natCast]
   by_cases hend:i.toNat=es.length
   ·have:=insert_end w v es.length vb vc us news hown (by omega) (fun j u hj=>by
     have hlt:=(List.getElem?_eq_some_iff.1 hj).1
     simp only [World.cell?,hvb]
     rw [← hvt,List.getElem?_take,if_pos (by omega),Array.getElem?_toList] at hj
     simpa using hj) hu2 hn
    rw [hend,List.take_of_length_le (by omega),List.drop_of_length_le (by omega),List.append_nil]
    exact this
   ·rcases hown.2 with ⟨_,h⟩ | ⟨g,cap,cur,hv,_,hg,hnc,hcm,hcz,hct⟩
    ·omega
    ·subst hv
     have hne:vb≠g:=fun e=>by
      have:blkOf (.slice (some ⟨g,0,none⟩) es.length cap)=some g:=rfl
      rw [this,e] at hnd
      simp at hnd
     by_cases hroom:es.length<cap
     ·exact insert_shift w g cap es.length i.toNat vb vc cur cur2 us news hg hcz hct hcm hne hvb hvt hnl hu1 hu2 (by omega) hroom hn
     ·have hc:cap=es.length:=by omega
      subst hc
      exact insert_grow w g es.length i.toNat vb vc cur cur2 us news hg hcz hct hvb hvt hnl hu1 hu2 (by omega) hn
  refine hcall.mono ?_
  rintro ex w' ⟨v',rfl,ho,hgr,hbl⟩
  have hown0:=hown
  have hbv:v.ownBlock=blkOf v:=by
   rcases hown.2 with ⟨rfl,_⟩ | ⟨g,cap,cur,rfl,_⟩<;>rfl
  have hbv':v'.ownBlock=blkOf v':=by
   rcases ho.2 with ⟨rfl,_⟩ | ⟨g,cap,cur,rfl,_⟩<;>rfl
  have hlt:=ho.lt
  have hbk:∀ b∈(blkOf v').toList,(w.heap.size≤b∨b∈(blkOf v).toList)∧b<w'.heap.size:=fun b hb=>by
   have h2:blkOf v'=some b:=by simpa using hb
   refine ⟨?_,?_⟩
   ·rcases hbl with h | h
    ·rw [hbv,hbv',h2] at h
     exact .inr (by rw [← h];simp)
    ·rw [hbv',h2] at h
     injection h with h
     exact .inl (by omega)
   ·refine (hlt b ?_).2
    rw [row_blk ho]
    simpa using hb
  have hbe:Belo (fun b=>b∈(blkOf v).toList++[vb]) w.heap.size w w':=⟨hgr.os,hgr.tape,hgr.output,hgr.size,fun b hb hnb=>hgr.block b hb fun h=>hnb (by
   rw [hbv] at h
   rw [← h]
   simp)⟩
  have hS':∀ b,S b→b<w.heap.size∧b∉(blkOf v).toList∧b≠vb:=fun b hb=>⟨hS b hb,fun hm=>(hF b (by simp [hm])).1 hb,fun e=>hvbF.1 (e ▸ hb)⟩
  have hkeep:∀ u x,RepI w S u x→RepI w' (fun b=>(S b∨w.heap.size≤b∨b∈(blkOf v).toList++[vb])∧b<w'.heap.size∧b∉(blkOf v').toList) u x:=fun u x h=>h.mono (fun b hb=>⟨.inl hb,Nat.lt_of_lt_of_le (hS b hb) hgr.size,fun hm=>by
    rcases (hbk b hm).1 with h2 | h2
    ·have:=hS b hb
     omega
    ·exact (hS' b hb).2.1 h2⟩) fun p y hp hy=>by
   have h6:=hgr.block p.block (hS _ hp) fun h=>(hS' _ hp).2.1 (by
    rw [hbv] at h
    rw [← h]
    simp)
   have h7:w'.cell? p=w.cell? p:=by
    unfold World.cell?
    rw [h6]
   rw [h7]
   exact hy
  have hfl:=zlb (es:=es) (k:=2) i.toNat hk
  have hflat:(es.take i.toNat++[e]++es.drop i.toNat).flatten=es.flatten.take (i.toNat*2)++[e].flatten++es.flatten.drop (i.toNat*2):=by
   rw [List.flatten_append,List.flatten_append,hfl.1,hfl.2]
  have hlen2:(es.take i.toNat++[e]++es.drop i.toNat).length=es.length+1:=by
   rw [List.length_append,List.length_append,List.length_take,List.length_drop,List.length_singleton]
   omega
  refine ⟨v',(blkOf v').toList,rfl,hbe,⟨[v'],(blkOf v').toList,[],rfl,⟨(blkOf v').toList,[],⟨row_one ho,[],⟨_,by decide,fun x hx=>?_,by rw [hlen2];omega,by rw [hlen2];exact ho,?_,fun u hu=>?_,?_⟩,rfl⟩,rfl,by simp⟩,rfl,by simp⟩,?_,fun b hb=>⟨?_,(hbk b hb).2⟩⟩
  ·rcases List.mem_append.1 hx with hx | hx
   ·rcases List.mem_append.1 hx with hx | hx
    ·exact hk x (List.mem_of_mem_take hx)
    ·rw [List.mem_singleton.1 hx]
     exact hke
   ·exact hk x (List.mem_of_mem_drop hx)
  ·rw [hflat]
   simp only [List.length_append,List.length_take,List.length_drop,← hul,← hul2]
  ·rcases List.mem_append.1 hu with hu | hu
   ·rcases List.mem_append.1 hu with hu | hu
    ·exact hu1 u (List.mem_of_mem_take hu)
    ·exact hu2 u hu
   ·exact hu1 u (List.mem_of_mem_drop hu)
  ·rw [hflat]
   have q1:RelW (RepI w S) us es.flatten:=hr
   have q2:RelW (RepI w S) news [e].flatten:=hr2
   have:=RelW.append (by simp only [List.length_append,List.length_take,← hul,← hul2]) (RelW.append (by simp only [List.length_take,← hul]) (q1.take (i.toNat*2)) q2) (q1.drop (i.toNat*2))
   exact fun j u x hu hx=>hkeep u x (this j u x hu hx)
  ·cases blkOf v'<;>simp
  ·rcases (hbk b hb).1 with h | h
   ·exact .inl h
   ·exact .inr (by simp [h])
end Go.Proofs.YtcneaiejdidooaaGreatDoor.Sym

namespace Go.Proofs.YtcneaiejdidooaaGreatDoor.Sym
open Go.RowKit
set_option maxRecDepth 100000
set_option linter.unusedVariables false
set_option maxHeartbeats 4000000
def libClone {α:Type} (by_:Nat) (l:List α):Option (List α):=chk (capOk l.length by_) (some l)
def zba (l:List Int):Option (List Int):=libClone 8 l
theorem za4 (l r:List Int) (h:zba l=some r):Sp Tryz.prog 46 [.im (nL cI l)] (.row 3 1 (List.map cI r)):=by
 obtain ⟨h1,h⟩:=chk_some h
 injection h with h
 subst h
 exact zl4 (by_:=8) (fun args w=>zd6 rfl rfl rfl args w) (by decide) clone_int (fun e he=>by obtain ⟨y,_,rfl⟩:=List.mem_map.1 he;rfl) (by rw [List.length_map];exact h1)
def zgw (l:List (List Int)):Option (List (List Int)):=libClone 24 l
theorem zix (l r:List (List Int)) (h:zgw l=some r):Sp Tryz.prog 137 [.im (nL (cL cI) l)] (.row 25 1 (List.map (cL cI) r)):=by
 obtain ⟨h1,h⟩:=chk_some h
 injection h with h
 subst h
 exact zl4 (by_:=24) (fun args w=>zd6 rfl rfl rfl args w) (by decide) clone_words (fun e he=>by obtain ⟨y,_,rfl⟩:=List.mem_map.1 he;rfl) (by rw [List.length_map];exact h1)
def zfp (l:List (List Int)) (f:(List Int)→(List Int)→Option Int):Option (List (List Int)):=libSort l f
theorem zg1 (l:List (List Int)) (f:(List Int)→(List Int)→Option Int) (g:FuncId) (hd:CmpE Tryz.prog g (fun x=>nL cI x) f) (r:List (List Int)) (h:zfp l f=some r):Sp Tryz.prog 138 [.lent (.row 25 1 (List.map (cL cI) l)),.im (.fn g [])] (.mk true [] [.lent (.row 25 1 (List.map (cL cI) r))]) :=
 sp_of_sort (fun args w=>zd6 rfl rfl rfl args w) sortC_words (by decide) (fun _=>rfl) (fun W S us x hl h1 hr=>rep_of_one hl hr) hd.1 hd.2 h
def zed (l:List zaa) (i:Int) (v:List zaa):Option (List zaa):=chk (0≤i∧i≤(↑l.length:Int)∧v.length=1∧l.length≤1000000) (some (l.take i.toNat++v++l.drop i.toNat))
theorem zhu (l:List zaa) (i:Int) (v:List zaa) (r:List zaa) (h:zed l i v=some r):Sp Tryz.prog 152 [.row 55 2 (List.map zac l),.im (nI i),.row 55 2 (List.map zac v)] (.row 55 2 (List.map zac r)):=by
 obtain ⟨h1,h⟩:=chk_some h
 injection h with h
 subst h
 match v,h1 with
 | [x],h1 =>
  have:=sp_of_insert (es:=l.map zac) (e:=zac x) (i:=i) (fun e he=>by obtain ⟨y,_,rfl⟩:=List.mem_map.1 he;rfl) rfl h1.1 (by rw [List.length_map];exact h1.2.1) (by rw [List.length_map];exact h1.2.2.2)
  simpa [List.map_append,List.map_take,List.map_drop] using this
end Go.Proofs.YtcneaiejdidooaaGreatDoor.Sym

namespace Go.Proofs.YtcneaiejdidooaaGreatDoor.Sym
open Go.RowKit
set_option maxRecDepth 100000
set_option linter.unusedVariables false
set_option maxHeartbeats 4000000
def L06_Long.s2 (l_:List (List Int)) (i68:Nat):Option (Nat⊕(Unit⊕Bool)) :=
 cond (decide ((↑i68:Int)<(↑(List.length l_):Int))) (idxn l_ i68 fun e74=>cond (decide (200<(↑(List.length e74):Int))) (some (.inr (.inr true))) (some (.inl (i68+1)))) (some (.inr (.inl ())))
def L06_Long (l_:List (List Int)):Option (Bool) :=
 cond (decide (200<(↑(List.length l_):Int))) (some true) ((iter (fun (s:Nat)=>L06_Long.s2 l_ s) fuel 0:Option (Unit⊕Bool)).bind (Sum.elim (fun (_:Unit)=>some false) some))
def zc4.s2 (o_:zam) (i99:Nat):Option (Nat⊕(Unit⊕Bool)) :=
 cond (decide ((↑i99:Int)<(↑(List.length o_.Traces):Int))) ((idxn o_.Traces i99 fun e119=>cond (decide (100<(↑(List.length e119.In):Int))) (some true) (idxn o_.Traces i99 fun e121=>some (decide (100<(↑(List.length e121.Out):Int)))):Option (Bool)).bind (fun (y118:Bool)=>cond (y118) (some (.inr (.inr true))) (some (.inl (i99+1))))) (some (.inr (.inl ())))
def zc4 (o_:zam):Option (Bool) :=
 cond (decide (60<(↑(List.length o_.Traces):Int))) (some true) ((iter (fun (s:Nat)=>zc4.s2 o_ s) fuel 0:Option (Unit⊕Bool)).bind (Sum.elim (fun (_:Unit)=>some false) some))
def zgx (q_:zae):Option (Bool) :=
 (cond (decide (20<(↑(List.length q_.Device.M.Next):Int))) (some true) (cond (decide (10<q_.Device.M.Inputs)) (some true) (cond (decide (20<(↑(List.length q_.Device.Latency.Step):Int))) (some true) ((zc4 q_.Obs).bind fun c61=>some c61))):Option (Bool)).bind (fun (y57:Bool)=>some y57)
def zhh (m_:zab):Option (Bool) :=
 (cond (decide (40<(↑(List.length m_.Next):Int))) (some true) (cond (decide (40<(↑(List.length m_.Out):Int))) (some true) (some (decide (20<m_.Inputs)))):Option (Bool)).bind (fun (y55:Bool)=>some y55)
def R06_row.s2 (m_:zab) (s_:Int) (a174:Nat):Option (Nat⊕(Unit⊕Int)) :=
 cond (decide ((↑a174:Int)<m_.Inputs)) ((idx m_.Next s_ fun e219=>idxn e219 a174 fun e220=>cond (decide (e220<0)) (some true) (idx m_.Next s_ fun e222=>idxn e222 a174 fun e223=>cond (decide ((↑(List.length m_.Next):Int)≤e223)) (some true) (idx m_.Out s_ fun e225=>idxn e225 a174 fun e226=>cond (decide (e226<0)) (some true) (idx m_.Out s_ fun e228=>idxn e228 a174 fun e229=>some (decide (1048576<e229))))):Option (Bool)).bind (fun (y218:Bool)=>cond (y218) (some (.inr (.inr 2))) (chk (inR ((↑a174:Int)+1)) (some (.inl (a174+1)))))) (some (.inr (.inl ())))
def R06_row (m_:zab) (s_:Int):Option (Int) :=
 (idx m_.Next s_ fun e57=>cond (decide ((↑(List.length e57):Int)≠m_.Inputs)) (some true) (idx m_.Out s_ fun e59=>some (decide ((↑(List.length e59):Int)≠m_.Inputs))):Option (Bool)).bind (fun (y56:Bool)=>cond (y56) (some 1) ((iter (fun (s:Nat)=>R06_row.s2 m_ s_ s) fuel 0:Option (Unit⊕Int)).bind (Sum.elim (fun (_:Unit)=>some 0) some)))
def zb8.s2 (m_:zab) (s81:Nat):Option (Nat⊕(Unit⊕Int)) :=
 cond (decide ((↑s81:Int)<(↑(List.length m_.Next):Int))) ((R06_row m_ (↑s81:Int)).bind fun c87=>cond (decide (c87≠0)) (some (.inr (.inr c87))) (some (.inl (s81+1)))) (some (.inr (.inl ())))
def zb8 (m_:zab):Option (Int) :=
 (cond (decide (m_.Inputs<1)) (some true) (some (decide (64<m_.Inputs))):Option (Bool)).bind (fun (y54:Bool)=>cond (y54) (some 2) (cond (decide ((↑(List.length m_.Next):Int)=0)) (some 19) (cond (decide (128<(↑(List.length m_.Next):Int))) (some 11) ((cond (decide (m_.Start<0)) (some true) (some (decide ((↑(List.length m_.Next):Int)≤m_.Start))):Option (Bool)).bind (fun (y62:Bool)=>cond (y62) (some 2) (cond (decide ((↑(List.length m_.Out):Int)≠(↑(List.length m_.Next):Int))) (some 1) ((iter (fun (s:Nat)=>zb8.s2 m_ s) fuel 0:Option (Unit⊕Int)).bind (Sum.elim (fun (_:Unit)=>some 0) some))))))))
def zc0.s2 (l_:zav) (i98:Nat):Option (Nat⊕(Unit⊕Bool)) :=
 cond (decide ((↑i98:Int)<(↑(List.length l_.Step):Int))) ((idxn l_.Step i98 fun e118=>cond (decide (e118<0)) (some true) (idxn l_.Step i98 fun e120=>some (decide (1048576<e120))):Option (Bool)).bind (fun (y117:Bool)=>cond (y117) (some (.inr (.inr false))) (some (.inl (i98+1))))) (some (.inr (.inl ())))
def zc0 (l_:zav):Option (Bool) :=
 (iter (fun (s:Nat)=>zc0.s2 l_ s) fuel 0:Option (Unit⊕Bool)).bind (Sum.elim (fun (_:Unit)=>(cond (decide (0≤l_.Reset)) (some (decide (l_.Reset≤1048576))) (some false):Option (Bool)).bind (fun (y125:Bool)=>some y125)) some)
def R19_Fits (l_:zav) (inputs_:Int):Option (Int) :=
 cond (decide ((↑(List.length l_.Step):Int)≠inputs_)) (some 1) ((zc0 l_).bind fun c52=>cond ((!c52)) (some 2) (some 0))
def R19_rate (n_:Int):Option (Bool) :=
 (cond (decide (0≤n_)) (some (decide (n_≤10000))) (some false):Option (Bool)).bind (fun (y54:Bool)=>some y54)
def zdx (n_:Int):Option (Bool) :=
 (cond (decide (0≤n_)) (some (decide (n_≤1125899906842624))) (some false):Option (Bool)).bind (fun (y54:Bool)=>some y54)
def zhg (d_:zaf):Option (Int) :=
 (zb8 d_.M).bind fun c51=>cond (decide (c51≠0)) ((zb8 d_.M).bind fun c53=>some c53) ((cond (decide (d_.State<0)) (some true) (some (decide ((↑(List.length d_.M.Next):Int)≤d_.State))):Option (Bool)).bind (fun (y57:Bool)=>cond (y57) (some 2) ((R19_Fits d_.Latency d_.M.Inputs).bind fun c60=>cond (decide (c60≠0)) ((R19_Fits d_.Latency d_.M.Inputs).bind fun c62=>some c62) (((R19_rate d_.Faults.Lost).bind fun c74=>cond ((!c74)) (some true) ((R19_rate d_.Faults.Wrong).bind fun c76=>cond ((!c76)) (some true) ((R19_rate d_.Faults.Crash).bind fun c78=>cond ((!c78)) (some true) (chk (inR (d_.Faults.Lost+d_.Faults.Wrong)) (chk (inR ((d_.Faults.Lost+d_.Faults.Wrong)+d_.Faults.Crash)) (some (decide (10000<((d_.Faults.Lost+d_.Faults.Wrong)+d_.Faults.Crash)))))))):Option (Bool)).bind (fun (y73:Bool)=>cond (y73) (some 2) (((zdx d_.Steps).bind fun c91=>cond ((!c91)) (some true) ((zdx d_.Resets).bind fun c93=>cond ((!c93)) (some true) ((zdx d_.Time).bind fun c95=>some (!c95))):Option (Bool)).bind (fun (y90:Bool)=>cond (y90) (some 2) (some 0))))))))
def R01_Size (inputs_:Int):Option (Bool) :=
 (cond (decide (1≤inputs_)) (some (decide (inputs_≤1024))) (some false):Option (Bool)).bind (fun (y54:Bool)=>some y54)
def zcy.s2 (w_:List Int) (inputs_:Int) (i106:Nat):Option (Nat⊕(Unit⊕Int)) :=
 cond (decide ((↑i106:Int)<(↑(List.length w_):Int))) ((idxn w_ i106 fun e127=>cond (decide (e127<0)) (some true) (idxn w_ i106 fun e129=>some (decide (inputs_≤e129))):Option (Bool)).bind (fun (y126:Bool)=>cond (y126) (some (.inr (.inr 1))) (some (.inl (i106+1))))) (some (.inr (.inl ())))
def zcy (w_:List Int) (inputs_:Int):Option (Int) :=
 (R01_Size inputs_).bind fun c51=>cond ((!c51)) (some 2) (cond (decide (1024<(↑(List.length w_):Int))) (some 3) ((iter (fun (s:Nat)=>zcy.s2 w_ inputs_ s) fuel 0:Option (Unit⊕Int)).bind (Sum.elim (fun (_:Unit)=>some 0) some)))
def zcu.s2 (a_:List Int) (b_:List Int) (i115:Nat):Option (Nat⊕Nat) :=
 (cond (decide ((↑i115:Int)<(↑(List.length a_):Int))) (cond (decide ((↑i115:Int)<(↑(List.length b_):Int))) (idxn a_ i115 fun e141=>idxn b_ i115 fun e142=>some (decide (e141=e142))) (some false)) (some false):Option (Bool)).bind (fun (y138:Bool)=>cond (y138) (chk (inR ((↑i115:Int)+1)) (some (.inl (i115+1)))) (some (.inr i115)))
def zcu (a_:List Int) (b_:List Int):Option (Int) :=
 (iter (fun (s:Nat)=>zcu.s2 a_ b_ s) fuel 0:Option (Nat)).bind (fun (i100:Nat)=>some (↑i100:Int))
def R01_Lex (a_:List Int) (b_:List Int):Option (Int) :=
 (zcu a_ b_).bind fun c51=>(cond (decide (c51=(↑(List.length a_):Int))) (some (decide (c51=(↑(List.length b_):Int)))) (some false):Option (Bool)).bind (fun (y55:Bool)=>cond (y55) (some 0) ((cond (decide (c51=(↑(List.length a_):Int))) (some (decide (c51=(↑(List.length a_):Int)))) (cond (decide (c51<(↑(List.length b_):Int))) (idx a_ c51 fun e69=>idx b_ c51 fun e70=>some (decide (e69<e70))) (some false)):Option (Bool)).bind (fun (y66:Bool)=>cond (y66) (some (-1:Int)) (some 1))))
def zfc (a_:List Int) (b_:List Int):Option (Int) :=
 cond (decide ((↑(List.length a_):Int)<(↑(List.length b_):Int))) (some (-1:Int)) (cond (decide ((↑(List.length b_):Int)<(↑(List.length a_):Int))) (some 1) ((R01_Lex a_ b_).bind fun c53=>some c53))
def zct.s2 (t_:zaa) (i101:Nat):Option (Nat⊕(Unit⊕Int)) :=
 cond (decide ((↑i101:Int)<(↑(List.length t_.Out):Int))) ((idxn t_.Out i101 fun e121=>cond (decide (e121<0)) (some true) (idxn t_.Out i101 fun e123=>some (decide (1048576<e123))):Option (Bool)).bind (fun (y120:Bool)=>cond (y120) (some (.inr (.inr 2))) (some (.inl (i101+1))))) (some (.inr (.inl ())))
def zct (t_:zaa) (inputs_:Int):Option (Int) :=
 (zcy t_.In inputs_).bind fun c51=>cond (decide (c51≠0)) (some c51) (cond (decide ((↑(List.length t_.Out):Int)≠(↑(List.length t_.In):Int))) (some 1) ((iter (fun (s:Nat)=>zct.s2 t_ s) fuel 0:Option (Unit⊕Int)).bind (Sum.elim (fun (_:Unit)=>some 0) some)))
def zcw (w_:List Int) (p_:List Int):Option (Bool) :=
 (zcu w_ p_).bind fun c51=>some (decide (c51=(↑(List.length p_):Int)))
def zcv.s2 (a_:zaa) (b_:zaa) (c51:Int) (i73:Nat):Option (Nat⊕(Unit⊕Int)) :=
 cond (decide ((↑i73:Int)<c51)) (idxn a_.Out i73 fun e81=>idxn b_.Out i73 fun e82=>cond (decide (e81≠e82)) (some (.inr (.inr (↑i73:Int)))) (chk (inR ((↑i73:Int)+1)) (some (.inl (i73+1))))) (some (.inr (.inl ())))
def zcv (a_:zaa) (b_:zaa):Option (Int) :=
 (zcu a_.In b_.In).bind fun c51=>(iter (fun (s:Nat)=>zcv.s2 a_ b_ c51 s) fuel 0:Option (Unit⊕Int)).bind (Sum.elim (fun (_:Unit)=>some (-1:Int)) some)
def zbn.s30 (o_:zam) (i518:Nat) (prefix714:Bool) (clash715:Bool) (k716:Nat):Option ((Bool×Bool×Nat)⊕(Bool×Bool)) :=
 cond (decide ((↑k716:Int)<(↑(List.length o_.Traces):Int))) ((cond (prefix714) (some true) (idxn o_.Traces k716 fun e743=>idxn o_.Traces i518 fun e744=>(zcw e743.In e744.In).bind fun c745=>some c745):Option (Bool)).bind (fun (prefix741:Bool)=>cond (clash715) (some (.inl (prefix741,true,(k716+1)))) (idxn o_.Traces i518 fun e747=>idxn o_.Traces k716 fun e748=>(zcv e747 e748).bind fun c749=>some (.inl (prefix741,decide (0≤c749),(k716+1)))))) (some (.inr (prefix714,clash715)))
def zbn.k31 (i518:Nat) (prefix693:Bool) (clash694:Bool):Option (Nat⊕(Unit⊕Int)) :=
 cond (prefix693) (some (.inr (.inr 7))) (cond (clash694) (some (.inr (.inr 13))) (some (.inl (i518+1))))
def zbn.s32 (o_:zam) (i518:Nat):Option (Nat⊕(Unit⊕Int)) :=
 cond (decide ((↑i518:Int)<(↑(List.length o_.Traces):Int))) ((iter (fun (s:Bool×Bool×Nat)=>zbn.s30 o_ i518 s.1 s.2.1 s.2.2) fuel (false,false,(i518+1)):Option (Bool×Bool)).bind (fun (s:Bool×Bool)=>zbn.k31 i518 s.1 s.2)) (some (.inr (.inl ())))
def zbn (o_:zam):Option (Int) :=
 (iter (fun (s:Nat)=>zbn.s32 o_ s) fuel 0:Option (Unit⊕Int)).bind (Sum.elim (fun (_:Unit)=>some 0) some)
def zdc.s2 (o_:zam) (i129:Nat):Option (Nat⊕(Unit⊕Int)) :=
 cond (decide ((↑i129:Int)<(↑(List.length o_.Traces):Int))) (idxn o_.Traces i129 fun e149=>(zcy e149.In o_.Inputs).bind fun c150=>cond (decide (c150≠0)) (some (.inr (.inr c150))) (cond (decide ((↑(List.length e149.In):Int)=0)) (some (.inr (.inr 19))) ((zct e149 o_.Inputs).bind fun c153=>cond (decide (c153≠0)) (some (.inr (.inr c153))) ((cond (decide (0<(↑i129:Int))) (idx o_.Traces ((↑i129:Int)-1) fun e162=>(zfc e162.In e149.In).bind fun c163=>some (decide (0≤c163))) (some false):Option (Bool)).bind (fun (y160:Bool)=>cond (y160) (some (.inr (.inr 10))) (some (.inl (i129+1)))))))) (some (.inr (.inl ())))
def zdc (o_:zam):Option (Int) :=
 (cond (decide (o_.Inputs<1)) (some true) (some (decide (64<o_.Inputs))):Option (Bool)).bind (fun (y54:Bool)=>cond (y54) (some 2) (cond (decide (10000<(↑(List.length o_.Traces):Int))) (some 11) ((iter (fun (s:Nat)=>zdc.s2 o_ s) fuel 0:Option (Unit⊕Int)).bind (Sum.elim (fun (_:Unit)=>(zbn o_).bind fun c165=>some c165) some))))
def zg7 (q_:zae):Option (Bool) :=
 ((zhg q_.Device).bind fun c62=>cond (decide (c62=0)) ((zdc q_.Obs).bind fun c64=>cond (decide (c64=0)) (cond (decide (q_.Obs.Inputs=q_.Device.M.Inputs)) (cond (decide (1≤q_.Votes)) (cond (decide (q_.Votes≤9)) (cond (decide (q_.Votes≤q_.Tries)) (some (decide (q_.Tries≤64))) (some false)) (some false)) (some false)) (some false)) (some false)) (some false):Option (Bool)).bind (fun (y61:Bool)=>some y61)
def R06_Ints.s2 (a_:List Int) (b_:List Int) (i73:Nat):Option (Nat⊕(Unit⊕Bool)) :=
 cond (decide ((↑i73:Int)<(↑(List.length a_):Int))) (idxn a_ i73 fun e80=>idxn b_ i73 fun e81=>cond (decide (e80≠e81)) (some (.inr (.inr false))) (some (.inl (i73+1)))) (some (.inr (.inl ())))
def R06_Ints (a_:List Int) (b_:List Int):Option (Bool) :=
 cond (decide ((↑(List.length a_):Int)≠(↑(List.length b_):Int))) (some false) ((iter (fun (s:Nat)=>R06_Ints.s2 a_ b_ s) fuel 0:Option (Unit⊕Bool)).bind (Sum.elim (fun (_:Unit)=>some true) some))
def zet.s2 (a_:List (List Int)) (b_:List (List Int)) (i77:Nat):Option (Nat⊕(Unit⊕Bool)) :=
 cond (decide ((↑i77:Int)<(↑(List.length a_):Int))) (idxn a_ i77 fun e85=>idxn b_ i77 fun e86=>(R06_Ints e85 e86).bind fun c87=>cond ((!c87)) (some (.inr (.inr false))) (some (.inl (i77+1)))) (some (.inr (.inl ())))
def zet (a_:List (List Int)) (b_:List (List Int)):Option (Bool) :=
 cond (decide ((↑(List.length a_):Int)≠(↑(List.length b_):Int))) (some false) ((iter (fun (s:Nat)=>zet.s2 a_ b_ s) fuel 0:Option (Unit⊕Bool)).bind (Sum.elim (fun (_:Unit)=>some true) some))
def L50_gate:Option (zab) :=
 some (⟨2,0,[[1,0],[1,0]],[[1,0],[1,2]]⟩:zab)
def zdn.s2 (ids_:List (List (List Int))) (n65:Int) (y66:Nat):Option ((Int×Nat)⊕Int) :=
 cond (decide ((↑y66:Int)<(↑(List.length ids_):Int))) (idxn ids_ y66 fun e71=>some (.inl ((max n65 (↑(List.length e71):Int)),(y66+1)))) (some (.inr n65))
def zdn (ids_:List (List (List Int))):Option (Int) :=
 (iter (fun (s:Int×Nat)=>zdn.s2 ids_ s.1 s.2) fuel (1,0):Option (Int)).bind (fun (n62:Int)=>some n62)
def zaz.s2 (slices_:List (List Int)) (size73:Nat) (y74:Nat):Option ((Nat×Nat)⊕Nat) :=
 cond (decide ((↑y74:Int)<(↑(List.length slices_):Int))) (idxn slices_ y74 fun e81=>chk (inR ((↑size73:Int)+(↑(List.length e81):Int))) (cond (decide (((↑size73:Int)+(↑(List.length e81):Int))<0)) (none) (some (.inl ((size73+(List.length e81)),(y74+1)))))) (some (.inr size73))
def zaz.s4 (slices_:List (List Int)) (y106:List Int) (y107:Nat):Option ((List Int×Nat)⊕List Int) :=
 cond (decide ((↑y107:Int)<(↑(List.length slices_):Int))) (idxn slices_ y107 fun e113=>chk (capOk (List.length y106+List.length e113) 8) (some (.inl ((y106++e113),(y107+1))))) (some (.inr y106))
def zaz (slices_:List (List Int)):Option (List Int) :=
 (iter (fun (s:Nat×Nat)=>zaz.s2 slices_ s.1 s.2) fuel (0,0):Option (Nat)).bind (fun (size68:Nat)=>(zjw (↑size68:Int)).bind fun c86=>(iter (fun (s:List Int×Nat)=>zaz.s4 slices_ s.1 s.2) fuel (c86,0):Option (List Int)).bind (fun (y102:List Int)=>some y102))
def zfd (parts_:List (List Int)):Option (List Int) :=
 (zaz parts_).bind fun c51=>some c51
def zat.s2 (s_:List Int) (f_:Int→Option Bool) (y71:Nat):Option (Nat⊕(Unit⊕Int)) :=
 cond (decide ((↑y71:Int)<(↑(List.length s_):Int))) (idxn s_ y71 fun e78=>(f_ e78).bind fun c79=>cond (c79) (some (.inr (.inr (↑y71:Int)))) (some (.inl (y71+1)))) (some (.inr (.inl ())))
def zat (s_:List Int) (f_:Int→Option Bool):Option (Int) :=
 (iter (fun (s:Nat)=>zat.s2 s_ f_ s) fuel 0:Option (Unit⊕Int)).bind (Sum.elim (fun (_:Unit)=>some (-1:Int)) some)
def zbe (s_:List Int) (f_:Int→Option Bool):Option (Bool) :=
 (zat s_ f_).bind fun c51=>some (decide (0≤c51))
def zdt (inputs_:Int):Option (Bool) :=
 (cond (decide (1≤inputs_)) (some (decide (inputs_≤1024))) (some false):Option (Bool)).bind (fun (y54:Bool)=>some y54)
def zdz (a_:Int) (p1_:Int):Option (Bool) :=
 (cond (decide (a_<0)) (some true) (some (decide (p1_≤a_))):Option (Bool)).bind (fun (y54:Bool)=>some y54)
def zan.s2 (s_:List Int) (f_:Int→Option Bool) (y71:Nat):Option (Nat⊕(Unit⊕Int)) :=
 cond (decide ((↑y71:Int)<(↑(List.length s_):Int))) (idxn s_ y71 fun e78=>(f_ e78).bind fun c79=>cond (c79) (some (.inr (.inr (↑y71:Int)))) (some (.inl (y71+1)))) (some (.inr (.inl ())))
def zan (s_:List Int) (f_:Int→Option Bool):Option (Int) :=
 (iter (fun (s:Nat)=>zan.s2 s_ f_ s) fuel 0:Option (Unit⊕Int)).bind (Sum.elim (fun (_:Unit)=>some (-1:Int)) some)
def zbu (s_:List Int) (f_:Int→Option Bool):Option (Bool) :=
 (zan s_ f_).bind fun c51=>some (decide (0≤c51))
def zc6 (w_:List Int) (inputs_:Int):Option (Int) :=
 (zdt inputs_).bind fun c51=>cond ((!c51)) (some 2) (cond (decide (1024<(↑(List.length w_):Int))) (some 3) ((zbu w_ (fun u0=>zdz u0 inputs_)).bind fun c54=>cond (c54) (some 1) (some 0)))
def zdk (m_:zb7) (s_:Int) (a_:Int):Option (Int×Int) :=
 idx m_.Mealy.Next s_ fun e51=>idx e51 a_ fun e52=>idx m_.Mealy.Out s_ fun e53=>idx e53 a_ fun e54=>some (e52,e54)
def za6.s2 (r_:zbo) (w_:List Int) (y76:Int) (y77:List Int) (y78:Nat):Option ((Int×List Int×Nat)⊕(Int×List Int)) :=
 cond (decide ((↑y78:Int)<(↑(List.length w_):Int))) (idxn w_ y78 fun e85=>(zdk r_.machine y76 e85).bind fun c86=>chk (capOk (List.length y77+1) 8) (some (.inl (c86.1,(y77++[c86.2]),(y78+1))))) (some (.inr (y76,y77)))
def za6.k3 (r_:zbo) (y71:Int) (y72:List Int):Option (List Int×zbo) :=
 some (y72,(⟨r_.machine,y71⟩:zbo))
def za6 (r_:zbo) (w_:List Int):Option (List Int×zbo) :=
 (iter (fun (s:Int×List Int×Nat)=>za6.s2 r_ w_ s.1 s.2.1 s.2.2) fuel (r_.at_,[],0):Option (Int×List Int)).bind (fun (s:Int×List Int)=>za6.k3 r_ s.1 s.2)
def zap.s13 (m_:zab) (y509:Nat) (y697:Nat):Option (Nat⊕(Unit⊕(Nat⊕(Unit⊕Int)))) :=
 cond (decide ((↑y697:Int)<m_.Inputs)) (idxn m_.Next y509 fun e716=>idxn e716 y697 fun e717=>idxn m_.Out y509 fun e718=>idxn e718 y697 fun e719=>(cond (decide (e717<0)) (some true) (cond (decide ((↑(List.length m_.Next):Int)≤e717)) (some true) (cond (decide (e719<0)) (some true) (some (decide (1048576<e719))))):Option (Bool)).bind (fun (y725:Bool)=>cond (y725) (some (.inr (.inr (.inr (.inr 2))))) (chk (inR ((↑y697:Int)+1)) (some (.inl (y697+1)))))) (some (.inr (.inl ())))
def zap.s14 (m_:zab) (y509:Nat):Option (Nat⊕(Unit⊕Int)) :=
 cond (decide ((↑y509:Int)<(↑(List.length m_.Next):Int))) ((idxn m_.Next y509 fun e628=>cond (decide ((↑(List.length e628):Int)≠m_.Inputs)) (some true) (idxn m_.Out y509 fun e630=>some (decide ((↑(List.length e630):Int)≠m_.Inputs))):Option (Bool)).bind (fun (y627:Bool)=>cond (y627) (some (.inr (.inr 1))) ((iter (fun (s:Nat)=>zap.s13 m_ y509 s) fuel 0:Option (Unit⊕(Nat⊕(Unit⊕Int)))).bind (Sum.elim (fun (_:Unit)=>some (.inl (y509+1))) some)))) (some (.inr (.inl ())))
def zap (m_:zab):Option (Int) :=
 (cond (decide (m_.Inputs<1)) (some true) (some (decide (64<m_.Inputs))):Option (Bool)).bind (fun (y54:Bool)=>cond (y54) (some 2) (cond (decide ((↑(List.length m_.Next):Int)=0)) (some 19) (cond (decide (128<(↑(List.length m_.Next):Int))) (some 11) ((cond (decide (m_.Start<0)) (some true) (some (decide ((↑(List.length m_.Next):Int)≤m_.Start))):Option (Bool)).bind (fun (y62:Bool)=>cond (y62) (some 2) (cond (decide ((↑(List.length m_.Out):Int)≠(↑(List.length m_.Next):Int))) (some 1) ((iter (fun (s:Nat)=>zap.s14 m_ s) fuel 0:Option (Unit⊕Int)).bind (Sum.elim (fun (_:Unit)=>some 0) some))))))))
def zgo (m_:zab) (s_:Int):Option (Int) :=
 (zap m_).bind fun c51=>cond (decide (c51≠0)) (some c51) ((cond (decide (s_<0)) (some true) (some (decide ((↑(List.length m_.Next):Int)≤s_))):Option (Bool)).bind (fun (y56:Bool)=>cond (y56) (some 2) (some 0)))
def ze4 (m_:zab) (s_:Int) (w_:List Int):Option (List Int×Int×Int) :=
 (zgo m_ s_).bind fun c51=>cond (decide (c51≠0)) (some ([],0,c51)) ((zc6 w_ m_.Inputs).bind fun c53=>cond (decide (c53≠0)) (some ([],0,c53)) ((za6 (⟨(⟨m_⟩:zb7),s_⟩:zbo) w_).bind fun c55=>some (c55.1,c55.2.at_,0)))
def zcq.s2 (u_:List Int) (tails_:List (List Int)) (y73:List (List Int)) (y74:Nat):Option ((List (List Int)×Nat)⊕List (List Int)) :=
 cond (decide ((↑y74:Int)<(↑(List.length tails_):Int))) (idxn tails_ y74 fun e81=>(zfd [u_,e81]).bind fun c82=>chk (capOk (List.length y73+1) 24) (some (.inl ((y73++[c82]),(y74+1))))) (some (.inr y73))
def zcq (u_:List Int) (tails_:List (List Int)):Option (List (List Int)) :=
 (iter (fun (s:List (List Int)×Nat)=>zcq.s2 u_ tails_ s.1 s.2) fuel ([],0):Option (List (List Int))).bind (fun (y69:List (List Int))=>some y69)
def zhc (m_:zab) (ids_:List (List (List Int))) (w_:List Int):Option (List (List Int)×Int) :=
 (ze4 m_ m_.Start w_).bind fun c51=>cond (decide (c51.2.2≠0)) (some ([],c51.2.2)) (cond (decide ((↑(List.length ids_):Int)≠(↑(List.length m_.Next):Int))) (some ([],1)) (idx ids_ c51.2.1 fun e54=>cond (decide ((↑(List.length e54):Int)=0)) (some ([[]],0)) (idx ids_ c51.2.1 fun e56=>(zcq [] e56).bind fun c57=>some (c57,0))))
def zdp (a_:List Int) (b_:List Int) (p2_:(List Int)→(List Int)→Option Int):Option (Bool) :=
 (p2_ a_ b_).bind fun c51=>some (decide (c51=0))
def zal.s18 (eq_:(List Int)→(List Int)→Option Bool) (k356:Nat) (y481:List (List Int)) (k482:Nat) (y483:Nat):Option ((List (List Int)×Nat×Nat)⊕(List (List Int)×Nat)) :=
 cond (decide ((↑y483:Int)<(↑(List.length y481-k356):Int))) (idxn y481 (k356+y483) fun e495=>chk ((0:Int)≤((↑y483:Int)-1)) (idxn y481 (k356+(Int.toNat ((↑y483:Int)-1))) fun e496=>(eq_ e495 e496).bind fun c498=>cond ((!c498)) (idxn y481 (k356+y483) fun e500=>idxn y481 k482 fun e501=>chk (inR ((↑k482:Int)+1)) (some (.inl ((List.set y481 k482 e500),(k482+1),(y483+1))))) (some (.inl (y481,k482,(y483+1)))))) (some (.inr (y481,k482)))
def zal.k19 (y471:List (List Int)) (k472:Nat):Option (Nat⊕(Unit⊕List (List Int))) :=
 chk ((0:Int)≤(↑k472:Int)∧(↑k472:Int)≤(↑(List.length y471):Int)∧0<List.length y471) (chk (k472≤List.length y471) (chk ((0:Int)≤(↑k472:Int)∧(↑k472:Int)≤(↑(List.length (List.take k472 y471++List.replicate (List.length y471-k472) [])):Int)∧0<List.length (List.take k472 y471++List.replicate (List.length y471-k472) [])) (some (.inr (.inr (List.take k472 (List.take k472 y471++List.replicate (List.length y471-k472) [])))))))
def zal.s20 (s_:List (List Int)) (eq_:(List Int)→(List Int)→Option Bool) (k356:Nat):Option (Nat⊕(Unit⊕List (List Int))) :=
 cond (decide ((↑k356:Int)<(↑(List.length s_):Int))) (idxn s_ k356 fun e434=>idx s_ ((↑k356:Int)-1) fun e435=>(eq_ e434 e435).bind fun c436=>cond (c436) (chk ((0:Int)≤(↑k356:Int)∧(↑k356:Int)≤(↑(List.length s_):Int)∧0<List.length s_) ((iter (fun (s:List (List Int)×Nat×Nat)=>zal.s18 eq_ k356 s.1 s.2.1 s.2.2) fuel (s_,k356,1):Option (List (List Int)×Nat)).bind (fun (s:List (List Int)×Nat)=>zal.k19 s.1 s.2))) (some (.inl (k356+1)))) (some (.inr (.inl ())))
def zal (s_:List (List Int)) (eq_:(List Int)→(List Int)→Option Bool):Option (List (List Int)) :=
 cond (decide ((↑(List.length s_):Int)<2)) (some s_) ((iter (fun (s:Nat)=>zal.s20 s_ eq_ s) fuel 1:Option (Unit⊕List (List Int))).bind (Sum.elim (fun (_:Unit)=>some s_) some))
def zb6.s2 (c53:List (List Int)) (y78:List (List Int)) (y79:Nat):Option ((List (List Int)×Nat)⊕List (List Int)) :=
 cond (decide ((↑y79:Int)<(↑(List.length c53):Int))) (idxn y78 y79 fun e87=>(zba e87).bind fun c88=>idxn y78 y79 fun e89=>chk (inR ((↑y79:Int)+1)) (some (.inl ((List.set y78 y79 c88),(y79+1))))) (some (.inr y78))
def zb6 (l_:List (List Int)) (order_:(List Int)→(List Int)→Option Int):Option (List (List Int)) :=
 (zgw l_).bind fun c51=>(zfp c51 order_).bind fun c52=>(zal c52 (fun u0 u1=>zdp u0 u1 order_)).bind fun c53=>(iter (fun (s:List (List Int)×Nat)=>zb6.s2 c53 s.1 s.2) fuel (c53,0):Option (List (List Int))).bind (fun (y73:List (List Int))=>some y73)
def zb1.s2 (a_:List Int) (b_:List Int) (y72:Nat):Option (Nat⊕(Unit⊕Int)) :=
 cond (decide ((↑y72:Int)<(min (↑(List.length a_):Int) (↑(List.length b_):Int)))) (idxn a_ y72 fun e79=>idxn b_ y72 fun e80=>cond (decide (e79≠e80)) (some (.inr (.inr (↑y72:Int)))) (some (.inl (y72+1)))) (some (.inr (.inl ())))
def zb1 (a_:List Int) (b_:List Int):Option (Int) :=
 (iter (fun (s:Nat)=>zb1.s2 a_ b_ s) fuel 0:Option (Unit⊕Int)).bind (Sum.elim (fun (_:Unit)=>some (min (↑(List.length a_):Int) (↑(List.length b_):Int))) some)
def zch (w_:List Int) (p_:List Int):Option (Bool) :=
 (zb1 w_ p_).bind fun c51=>some (decide (c51=(↑(List.length p_):Int)))
def cmp_isNaN_int (x_:Int):Option (Bool) :=
 some (decide (x_≠x_))
def cmp_Compare_int (x_:Int) (y_:Int):Option (Int) :=
 (cmp_isNaN_int x_).bind fun c51=>(cmp_isNaN_int y_).bind fun c52=>cond (c51) (cond (c52) (some 0) (some (-1:Int))) (cond (c52) (some 1) (cond (decide (x_<y_)) (some (-1:Int)) (cond (decide (y_<x_)) (some 1) (some 0))))
def zax.s2 (s1_:List Int) (s2_:List Int) (y80:Nat):Option (Nat⊕(Unit⊕Int)) :=
 cond (decide ((↑y80:Int)<(↑(List.length s1_):Int))) (idxn s1_ y80 fun e89=>cond (decide ((↑(List.length s2_):Int)≤(↑y80:Int))) (some (.inr (.inr 1))) (idxn s2_ y80 fun e91=>(cmp_Compare_int e89 e91).bind fun c92=>cond (decide (c92≠0)) (some (.inr (.inr c92))) (some (.inl (y80+1))))) (some (.inr (.inl ())))
def zax (s1_:List Int) (s2_:List Int):Option (Int) :=
 (iter (fun (s:Nat)=>zax.s2 s1_ s2_ s) fuel 0:Option (Unit⊕Int)).bind (Sum.elim (fun (_:Unit)=>cond (decide ((↑(List.length s1_):Int)<(↑(List.length s2_):Int))) (some (-1:Int)) (some 0)) some)
def zcm.s2 (vals_:List Int) (y67:Nat):Option (Nat⊕(Unit⊕Int)) :=
 cond (decide ((↑y67:Int)<(↑(List.length vals_):Int))) (idxn vals_ y67 fun e73=>cond (decide (e73≠0)) (some (.inr (.inr e73))) (some (.inl (y67+1)))) (some (.inr (.inl ())))
def zcm (vals_:List Int):Option (Int) :=
 (iter (fun (s:Nat)=>zcm.s2 vals_ s) fuel 0:Option (Unit⊕Int)).bind (Sum.elim (fun (_:Unit)=>some 0) some)
def zc8 (a_:List Int) (b_:List Int):Option (Int) :=
 (cmp_Compare_int (↑(List.length a_):Int) (↑(List.length b_):Int)).bind fun c51=>(zax a_ b_).bind fun c52=>(zcm [c51,c52]).bind fun c53=>some c53
def zej (l_:List (List Int)):Option (List (List Int)) :=
 (zb6 l_ (fun u0 u1=>zc8 u0 u1)).bind fun c51=>some c51
def word_Lex (a_:List Int) (b_:List Int):Option (Int) :=
 (zax a_ b_).bind fun c51=>some c51
def zcj.s2 (c51:List (List Int)) (y119:List (List Int)) (y120:Nat):Option ((List (List Int)×Nat)⊕List (List Int)) :=
 cond (decide ((↑y120:Int)<(↑(List.length c51):Int))) (idxn c51 y120 fun e139=>(cond (decide (((↑y120:Int)+1)=(↑(List.length c51):Int))) (some true) (idxn c51 (y120+1) fun e147=>(zch e147 e139).bind fun c148=>some (!c148)):Option (Bool)).bind (fun (y145:Bool)=>cond (y145) (chk (capOk (List.length y119+1) 24) (some (.inl ((y119++[e139]),(y120+1))))) (some (.inl (y119,(y120+1)))))) (some (.inr y119))
def zcj (l_:List (List Int)):Option (List (List Int)) :=
 (zb6 l_ (fun u0 u1=>word_Lex u0 u1)).bind fun c51=>(iter (fun (s:List (List Int)×Nat)=>zcj.s2 c51 s.1 s.2) fuel ([],0):Option (List (List Int))).bind (fun (y104:List (List Int))=>(zej y104).bind fun c157=>some c157)
def zbq.s18 (e359:List Int) (y394:List Bool) (y395:List Int) (y396:Nat):Option ((List Bool×List Int×Nat)⊕(List Bool×List Int)) :=
 cond (decide ((↑y396:Int)<(↑(List.length e359):Int))) (idxn e359 y396 fun e405=>idx y394 e405 fun e406=>cond ((!e406)) (idx y394 e405 fun e408=>chk (capOk (List.length y395+1) 8) (some (.inl ((List.set y394 e405.toNat true),(y395++[e405]),(y396+1))))) (some (.inl (y394,y395,(y396+1))))) (some (.inr (y394,y395)))
def zbq.k19 (i297:Nat) (y386:List Bool) (y387:List Int):Option ((List Bool×List Int×Nat)⊕List Int) :=
 some (.inl (y386,y387,(i297+1)))
def zbq.s20 (m_:zab) (y295:List Bool) (y296:List Int) (i297:Nat):Option ((List Bool×List Int×Nat)⊕List Int) :=
 cond (decide ((↑i297:Int)<(↑(List.length y296):Int))) (idxn y296 i297 fun e358=>idx m_.Next e358 fun e359=>(iter (fun (s:List Bool×List Int×Nat)=>zbq.s18 e359 s.1 s.2.1 s.2.2) fuel (y295,y296,0):Option (List Bool×List Int)).bind (fun (s:List Bool×List Int)=>zbq.k19 i297 s.1 s.2)) (some (.inr y296))
def zbq (m_:zab):Option (List Int) :=
 (zap m_).bind fun c51=>cond (decide (c51≠0)) (some []) (chk ((0:Int)≤(↑(List.length m_.Next):Int)∧(↑(List.length m_.Next):Int)≤(↑(List.length m_.Next):Int)∧capOk (Int.toNat (↑(List.length m_.Next):Int)) 1) (idx (List.replicate (List.length m_.Next) false) m_.Start fun e54=>(iter (fun (s:List Bool×List Int×Nat)=>zbq.s20 m_ s.1 s.2.1 s.2.2) fuel ((List.set (List.replicate (List.length m_.Next) false) m_.Start.toNat true),[m_.Start],0):Option (List Int)).bind (fun (y236:List Int)=>some y236)))
def zbk.s2 (c53:List Int) (y74:List Int) (y75:Nat):Option ((List Int×Nat)⊕List Int) :=
 cond (decide ((↑y75:Int)<(↑(List.length c53):Int))) (idxn c53 y75 fun e81=>idx y74 e81 fun e82=>some (.inl ((List.set y74 e81.toNat (↑y75:Int)),(y75+1)))) (some (.inr y74))
def zbk.s15 (y70:List Int) (e374:List Int) (y402:List Int) (y403:Nat):Option ((List Int×Nat)⊕List Int) :=
 cond (decide ((↑y403:Int)<(↑(List.length e374):Int))) (idxn e374 y403 fun e410=>idx y70 e410 fun e411=>idxn y402 y403 fun e412=>some (.inl ((List.set y402 y403 e411),(y403+1)))) (some (.inr y402))
def zbk.s16 (m_:zab) (c53:List Int) (y70:List Int) (y310:List (List Int)) (y311:List (List Int)) (y312:Nat):Option ((List (List Int)×List (List Int)×Nat)⊕(List (List Int)×List (List Int))) :=
 cond (decide ((↑y312:Int)<(↑(List.length c53):Int))) (idxn c53 y312 fun e372=>chk ((0:Int)≤m_.Inputs∧m_.Inputs≤m_.Inputs∧capOk (Int.toNat m_.Inputs) 8) (idx m_.Next e372 fun e374=>(iter (fun (s:List Int×Nat)=>zbk.s15 y70 e374 s.1 s.2) fuel ((List.replicate (Int.toNat m_.Inputs) 0),0):Option (List Int)).bind (fun (y397:List Int)=>chk (capOk (List.length y310+1) 24) (idx m_.Out e372 fun e425=>(zba e425).bind fun c426=>chk (capOk (List.length y311+1) 24) (some (.inl ((y310++[y397]),(y311++[c426]),(y312+1)))))))) (some (.inr (y310,y311)))
def zbk.k17 (m_:zab) (y259:List (List Int)) (y260:List (List Int)):Option (zab×Int) :=
 some ((⟨m_.Inputs,0,y259,y260⟩:zab),0)
def zbk (m_:zab):Option (zab×Int) :=
 (zap m_).bind fun c51=>cond (decide (c51≠0)) (some ((⟨0,0,[],[]⟩:zab),c51)) ((zbq m_).bind fun c53=>chk ((0:Int)≤(↑(List.length m_.Next):Int)∧(↑(List.length m_.Next):Int)≤(↑(List.length m_.Next):Int)∧capOk (Int.toNat (↑(List.length m_.Next):Int)) 8) ((iter (fun (s:List Int×Nat)=>zbk.s2 c53 s.1 s.2) fuel ((List.replicate (List.length m_.Next) 0),0):Option (List Int)).bind (fun (y70:List Int)=>(iter (fun (s:List (List Int)×List (List Int)×Nat)=>zbk.s16 m_ c53 y70 s.1 s.2.1 s.2.2) fuel ([],[],0):Option (List (List Int)×List (List Int))).bind (fun (s:List (List Int)×List (List Int))=>zbk.k17 m_ s.1 s.2))))
def za7.s18 (m_:zab) (class_:List Int) (y467:Nat) (y623:List Int) (y624:Nat):Option ((List Int×Nat)⊕List Int) :=
 cond (decide ((↑y624:Int)<m_.Inputs)) (idxn m_.Out y467 fun e639=>idxn e639 y624 fun e640=>chk ((↑y624:Int)<128) (idxn y623 y624 fun e641=>chk (inR (64+(↑y624:Int))) (idxn m_.Next y467 fun e644=>idxn e644 y624 fun e645=>idx class_ e645 fun e646=>chk ((64+(↑y624:Int))<128) (idxn (List.set y623 y624 e640) (64+y624) fun e647=>chk (inR ((↑y624:Int)+1)) (some (.inl ((List.set (List.set y623 y624 e640) (64+y624) e646),(y624+1)))))))) (some (.inr y623))
def za7.k19 (y466:List Int) (y467:Nat) (y663:List (List Int×Int)) (n664:Int):Option (((List (List Int×Int))×List Int×Nat)⊕((List (List Int×Int))×List Int)) :=
 idxn y466 y467 fun e670=>some (.inl (y663,(List.set y466 y467 n664),(y467+1)))
def za7.s20 (m_:zab) (class_:List Int) (y465:List (List Int×Int)) (y466:List Int) (y467:Nat):Option (((List (List Int×Int))×List Int×Nat)⊕((List (List Int×Int))×List Int)) :=
 cond (decide ((↑y467:Int)<(↑(List.length class_):Int))) ((iter (fun (s:List Int×Nat)=>za7.s18 m_ class_ y467 s.1 s.2) fuel ((List.replicate 128 0),0):Option (List Int)).bind (fun (y612:List Int)=>chk (List.length y612=128) (chk (List.length y612=128∧∀ p∈y465,List.length p.1=128) ((cond ((!((mget y612 y465).isSome))) (chk (List.length y612=128) (chk (List.length y612=128∧∀ p∈y465,List.length p.1=128) (some ((mset y612 (↑(List.length y465):Int) y465),(↑(List.length y465):Int))))) (some (y465,((mget y612 y465).getD 0))):Option ((List (List Int×Int))×Int)).bind (fun (s:(List (List Int×Int))×Int)=>za7.k19 y466 y467 s.1 s.2))))) (some (.inr (y465,y466)))
def za7.k21 (y362:List (List Int×Int)) (y363:List Int):Option (List Int×Int) :=
 some (y363,(↑(List.length y362):Int))
def za7 (m_:zab) (class_:List Int):Option (List Int×Int) :=
 chk ((0:Int)≤(↑(List.length class_):Int)∧(↑(List.length class_):Int)≤(↑(List.length class_):Int)∧capOk (Int.toNat (↑(List.length class_):Int)) 8) ((iter (fun (s:(List (List Int×Int))×List Int×Nat)=>za7.s20 m_ class_ s.1 s.2.1 s.2.2) fuel (([]:List (List Int×Int)),(List.replicate (List.length class_) 0),0):Option ((List (List Int×Int))×List Int)).bind (fun (s:(List (List Int×Int))×List Int)=>za7.k21 s.1 s.2))
def zck.s2 (m_:zab) (k_:Int) (class71:List Int) (n72:Int) (y73:Nat):Option ((List Int×Int×Nat)⊕(List Int⊕(List Int×Int))) :=
 cond (decide ((↑y73:Int)<(min (max k_ 0) (↑(List.length m_.Next):Int)))) ((za7 m_ class71).bind fun c79=>cond (decide (c79.2=n72)) (some (.inr (.inr (class71,(↑y73:Int))))) (some (.inl (c79.1,c79.2,(y73+1))))) (some (.inr (.inl class71)))
def zck (m_:zab) (k_:Int):Option (List Int×Int) :=
 chk ((0:Int)≤(↑(List.length m_.Next):Int)∧(↑(List.length m_.Next):Int)≤(↑(List.length m_.Next):Int)∧capOk (Int.toNat (↑(List.length m_.Next):Int)) 8) ((iter (fun (s:List Int×Int×Nat)=>zck.s2 m_ k_ s.1 s.2.1 s.2.2) fuel ((List.replicate (List.length m_.Next) 0),1,0):Option (List Int⊕(List Int×Int))).bind (Sum.elim (fun (class67:List Int)=>some (class67,(min (max k_ 0) (↑(List.length m_.Next):Int)))) some))
def zd2 (m_:zab) (k_:Int):Option (List Int×Int) :=
 (zap m_).bind fun c51=>cond (decide (c51≠0)) (some ([],c51)) ((zck m_ k_).bind fun c53=>some (c53.1,0))
def zew (m_:zab):Option (List Int×Int) :=
 (zd2 m_ 128).bind fun c51=>some (c51.1,c51.2)
def za9.s30 (c53:List Int×Int) (e717:List Int) (y744:List Int) (y745:Nat):Option ((List Int×Nat)⊕List Int) :=
 cond (decide ((↑y745:Int)<(↑(List.length e717):Int))) (idxn e717 y745 fun e752=>idx c53.1 e752 fun e753=>chk (capOk (List.length y744+1) 8) (some (.inl ((y744++[e753]),(y745+1))))) (some (.inr y744))
def za9.k31 (y529:Nat) (y713:List (List Int)) (y714:List (List Int)):Option ((List (List Int)×List (List Int)×Nat)⊕(List (List Int)×List (List Int))) :=
 some (.inl (y713,y714,(y529+1)))
def za9.s32 (c51:zab×Int) (c53:List Int×Int) (y527:List (List Int)) (y528:List (List Int)) (y529:Nat):Option ((List (List Int)×List (List Int)×Nat)⊕(List (List Int)×List (List Int))) :=
 cond (decide ((↑y529:Int)<(↑(List.length c53.1):Int))) ((idxn c53.1 y529 fun e715=>cond (decide (e715<(↑(List.length y527):Int))) (some (y527,y528)) (idxn c51.1.Next y529 fun e717=>(iter (fun (s:List Int×Nat)=>za9.s30 c53 e717 s.1 s.2) fuel ([],0):Option (List Int)).bind (fun (y740:List Int)=>chk (capOk (List.length y527+1) 24) (idxn c51.1.Out y529 fun e769=>chk (capOk (List.length ([]:List Unit)+List.length e769) 8) (chk (capOk (List.length y528+1) 24) (some ((y527++[y740]),(y528++[([]++e769)]))))))):Option (List (List Int)×List (List Int))).bind (fun (s:List (List Int)×List (List Int))=>za9.k31 y529 s.1 s.2)) (some (.inr (y527,y528)))
def za9.k33 (c51:zab×Int) (y418:List (List Int)) (y419:List (List Int)):Option (zab×Int) :=
 some ((⟨c51.1.Inputs,0,y418,y419⟩:zab),0)
def za9 (m_:zab):Option (zab×Int) :=
 (zbk m_).bind fun c51=>cond (decide (c51.2≠0)) (some ((⟨0,0,[],[]⟩:zab),c51.2)) ((zew c51.1).bind fun c53=>cond (decide (c53.2≠0)) (some ((⟨0,0,[],[]⟩:zab),c53.2)) ((iter (fun (s:List (List Int)×List (List Int)×Nat)=>za9.s32 c51 c53 s.1 s.2.1 s.2.2) fuel ([],[],0):Option (List (List Int)×List (List Int))).bind (fun (s:List (List Int)×List (List Int))=>za9.k33 c51 s.1 s.2)))
def zbi.s18 (i343:Nat) (e417:List Int) (y460:List Bool) (y461:List zay) (y462:Nat):Option ((List Bool×List zay×Nat)⊕(List Bool×List zay)) :=
 cond (decide ((↑y462:Int)<(↑(List.length e417):Int))) (idxn e417 y462 fun e473=>idx y460 e473 fun e474=>cond ((!e474)) (idx y460 e473 fun e476=>idxn y461 i343 fun e477=>(zfd [e477.word,[(↑y462:Int)]]).bind fun c478=>chk (capOk (List.length y461+1) 32) (some (.inl ((List.set y460 e473.toNat true),(y461++[(⟨e473,c478⟩:zay)]),(y462+1))))) (some (.inl (y460,y461,(y462+1))))) (some (.inr (y460,y461)))
def zbi.k19 (i343:Nat) (y450:List Bool) (y451:List zay):Option ((List Bool×List zay×Nat)⊕List zay) :=
 some (.inl (y450,y451,(i343+1)))
def zbi.s20 (m_:zab) (y341:List Bool) (y342:List zay) (i343:Nat):Option ((List Bool×List zay×Nat)⊕List zay) :=
 cond (decide ((↑i343:Int)<(↑(List.length y342):Int))) (idxn y342 i343 fun e416=>idx m_.Next e416.state fun e417=>(iter (fun (s:List Bool×List zay×Nat)=>zbi.s18 i343 e417 s.1 s.2.1 s.2.2) fuel (y341,y342,0):Option (List Bool×List zay)).bind (fun (s:List Bool×List zay)=>zbi.k19 i343 s.1 s.2)) (some (.inr y342))
def zbi (m_:zab) (from_:Int):Option (List zay) :=
 chk ((0:Int)≤(↑(List.length m_.Next):Int)∧(↑(List.length m_.Next):Int)≤(↑(List.length m_.Next):Int)∧capOk (Int.toNat (↑(List.length m_.Next):Int)) 1) (idx (List.replicate (List.length m_.Next) false) from_ fun e52=>(iter (fun (s:List Bool×List zay×Nat)=>zbi.s20 m_ s.1 s.2.1 s.2.2) fuel ((List.set (List.replicate (List.length m_.Next) false) from_.toNat true),[(⟨from_,[]⟩:zay)],0):Option (List zay)).bind (fun (y270:List zay)=>some y270))
def zca.s2 (c53:List zay) (y76:List Int) (y77:List (List Int)) (y78:Nat):Option ((List Int×List (List Int)×Nat)⊕(List Int×List (List Int))) :=
 cond (decide ((↑y78:Int)<(↑(List.length c53):Int))) (idxn c53 y78 fun e85=>chk (capOk (List.length y76+1) 8) (chk (capOk (List.length y77+1) 24) (some (.inl ((y76++[e85.state]),(y77++[e85.word]),(y78+1)))))) (some (.inr (y76,y77)))
def zca.k3 (y72:List Int) (y73:List (List Int)):Option (List Int×List (List Int)×Int) :=
 some (y72,y73,0)
def zca (m_:zab):Option (List Int×List (List Int)×Int) :=
 (zap m_).bind fun c51=>cond (decide (c51≠0)) (some ([],[],c51)) ((zbi m_ m_.Start).bind fun c53=>(iter (fun (s:List Int×List (List Int)×Nat)=>zca.s2 c53 s.1 s.2.1 s.2.2) fuel ([],[],0):Option (List Int×List (List Int))).bind (fun (s:List Int×List (List Int))=>zca.k3 s.1 s.2))
def zex (m_:zab):Option (List (List Int)×Int) :=
 (zca m_).bind fun c51=>some (c51.2.1,c51.2.2)
def zeo.s2 (inputs_:Int) (y97:List Int) (i98:Int):Option ((List Int×Int)⊕(List Int⊕(List Int×Bool))) :=
 cond (decide (0≤i98)) (idx y97 i98 fun e110=>chk (inR (e110+1)) (cond (decide ((e110+1)<inputs_)) (idx y97 i98 fun e113=>chk (inR (e113+1)) (idx y97 i98 fun e115=>some (.inr (.inr ((List.set y97 i98.toNat (e113+1)),true))))) (idx y97 i98 fun e116=>chk (inR (i98-1)) (some (.inl ((List.set y97 i98.toNat 0),(i98-1))))))) (some (.inr (.inl y97)))
def zeo (w_:List Int) (inputs_:Int):Option (List Int×Bool) :=
 (zc6 w_ inputs_).bind fun c51=>cond (decide (c51≠0)) (some ([],false)) ((zba w_).bind fun c53=>chk (inR ((↑(List.length c53):Int)-1)) ((iter (fun (s:List Int×Int)=>zeo.s2 inputs_ s.1 s.2) fuel (c53,((↑(List.length c53):Int)-1)):Option (List Int⊕(List Int×Bool))).bind (Sum.elim (fun (y87:List Int)=>cond (decide ((↑(List.length y87):Int)=1024)) (some ([],false)) (chk (capOk (List.length y87+1) 8) (some ((y87++[0]),true)))) some)))
def zc9.s2 (inputs_:Int) (n_:Int) (y101:List (List Int)) (w102:List Int) (ok103:Bool):Option ((List (List Int)×List Int×Bool)⊕(List (List Int)⊕(List (List Int)×Int))) :=
 (cond (ok103) (some (decide ((↑(List.length w102):Int)≤n_))) (some false):Option (Bool)).bind (fun (y119:Bool)=>cond (y119) (cond (decide ((↑(List.length y101):Int)=10000)) (some (.inr (.inr ([],11)))) (chk (capOk (List.length y101+1) 24) ((zeo w102 inputs_).bind fun c126=>some (.inl ((y101++[w102]),c126.1,c126.2))))) (some (.inr (.inl y101))))
def zc9 (inputs_:Int) (n_:Int):Option (List (List Int)×Int) :=
 ((zc6 [] inputs_).bind fun c57=>cond (decide (c57≠0)) (some true) (cond (decide (n_<0)) (some true) (some (decide (1024<n_)))):Option (Bool)).bind (fun (y56:Bool)=>cond (y56) (some ([],2)) ((iter (fun (s:List (List Int)×List Int×Bool)=>zc9.s2 inputs_ n_ s.1 s.2.1 s.2.2) fuel ([],[],true):Option (List (List Int)⊕(List (List Int)×Int))).bind (Sum.elim (fun (y95:List (List Int))=>some (y95,0)) some)))
def zey (m_:zab):Option (Bool) :=
 ((zap m_).bind fun c57=>cond (decide (c57≠0)) (some true) ((zbq m_).bind fun c59=>some (decide ((↑(List.length c59):Int)≠(↑(List.length m_.Next):Int)))):Option (Bool)).bind (fun (y56:Bool)=>cond (y56) (some false) ((za9 m_).bind fun c61=>(cond (decide (c61.2=0)) (some (decide ((↑(List.length c61.1.Next):Int)=(↑(List.length m_.Next):Int)))) (some false):Option (Bool)).bind (fun (y65:Bool)=>some y65)))
def zfv (m_:zab):Option (Int) :=
 (zap m_).bind fun c51=>cond (decide (c51≠0)) (some c51) ((zey m_).bind fun c53=>cond ((!c53)) (some 1) (some 0))
def zbb.s2 (a_:zab) (b_:zab) (y72:List (List Bool)) (y73:Nat):Option ((List (List Bool)×Nat)⊕List (List Bool)) :=
 cond (decide ((↑y73:Int)<(↑(List.length (List.replicate (List.length a_.Next) ([]:List Bool))):Int))) (chk ((0:Int)≤(↑(List.length b_.Next):Int)∧(↑(List.length b_.Next):Int)≤(↑(List.length b_.Next):Int)∧capOk (Int.toNat (↑(List.length b_.Next):Int)) 1) (idxn y72 y73 fun e81=>chk (inR ((↑y73:Int)+1)) (some (.inl ((List.set y72 y73 (List.replicate (List.length b_.Next) false)),(y73+1)))))) (some (.inr y72))
def zbb.s20 (a_:zab) (b_:zab) (i900:Nat) (e1104:za2) (y1234:List (List Bool)) (y1235:List za2) (y1236:Nat):Option ((List (List Bool)×List za2×Nat)⊕((List (List Bool)×List za2)⊕((List (List Bool)×List za2×Nat)⊕(Unit⊕(List Int×Bool))))) :=
 cond (decide ((↑y1236:Int)<a_.Inputs)) (idx a_.Out e1104.at_.s fun e1270=>idxn e1270 y1236 fun e1271=>idx b_.Out e1104.at_.t fun e1272=>idxn e1272 y1236 fun e1273=>cond (decide (e1271≠e1273)) (idxn y1235 i900 fun e1275=>(zfd [e1275.word,[(↑y1236:Int)]]).bind fun c1276=>some (.inr (.inr (.inr (.inr (c1276,true)))))) (idx a_.Next e1104.at_.s fun e1277=>idxn e1277 y1236 fun e1278=>idx b_.Next e1104.at_.t fun e1279=>idxn e1279 y1236 fun e1280=>(cond ((!(decide (e1278=e1104.at_.s)&&(decide (e1280=e1104.at_.t)&&true)))) (idx y1234 e1278 fun e1288=>idx e1288 e1280 fun e1289=>some (!e1289)) (some false):Option (Bool)).bind (fun (y1286:Bool)=>cond (y1286) (idx y1234 e1278 fun e1293=>idx e1293 e1280 fun e1294=>idxn y1235 i900 fun e1295=>(zfd [e1295.word,[(↑y1236:Int)]]).bind fun c1296=>chk (capOk (List.length y1235+1) 40) (chk (inR ((↑y1236:Int)+1)) (some (.inl ((List.set y1234 (Int.toNat e1278) (List.set e1293 (Int.toNat e1280) true)),(y1235++[(⟨(⟨e1278,e1280⟩:zcr),c1296⟩:za2)]),(y1236+1)))))) (chk (inR ((↑y1236:Int)+1)) (some (.inl (y1234,y1235,(y1236+1)))))))) (some (.inr (.inl (y1234,y1235))))
def zbb.k21 (i900:Nat) (y1203:List (List Bool)) (y1204:List za2):Option ((List (List Bool)×List za2×Nat)⊕(Unit⊕(List Int×Bool))) :=
 some (.inl (y1203,y1204,(i900+1)))
def zbb.s22 (a_:zab) (b_:zab) (y898:List (List Bool)) (y899:List za2) (i900:Nat):Option ((List (List Bool)×List za2×Nat)⊕(Unit⊕(List Int×Bool))) :=
 cond (decide ((↑i900:Int)<(↑(List.length y899):Int))) (idxn y899 i900 fun e1104=>(iter (fun (s:List (List Bool)×List za2×Nat)=>zbb.s20 a_ b_ i900 e1104 s.1 s.2.1 s.2.2) fuel (y898,y899,0):Option ((List (List Bool)×List za2)⊕((List (List Bool)×List za2×Nat)⊕(Unit⊕(List Int×Bool))))).bind (Sum.elim (fun (s:List (List Bool)×List za2)=>zbb.k21 i900 s.1 s.2) some)) (some (.inr (.inl ())))
def zbb (a_:zab) (b_:zab) (first_:zcr):Option (List Int×Bool) :=
 chk ((0:Int)≤(↑(List.length a_.Next):Int)∧(↑(List.length a_.Next):Int)≤(↑(List.length a_.Next):Int)∧capOk (Int.toNat (↑(List.length a_.Next):Int)) 24) ((iter (fun (s:List (List Bool)×Nat)=>zbb.s2 a_ b_ s.1 s.2) fuel ((List.replicate (List.length a_.Next) ([]:List Bool)),0):Option (List (List Bool))).bind (fun (y68:List (List Bool))=>idx y68 first_.s fun e85=>idx e85 first_.t fun e86=>(iter (fun (s:List (List Bool)×List za2×Nat)=>zbb.s22 a_ b_ s.1 s.2.1 s.2.2) fuel ((List.set y68 (Int.toNat first_.s) (List.set e85 (Int.toNat first_.t) true)),[(⟨first_,[]⟩:za2)],0):Option (Unit⊕(List Int×Bool))).bind (Sum.elim (fun (_:Unit)=>some ([],false)) some)))
def zg5 (m_:zab) (s_:Int) (t_:Int):Option (List Int×Bool×Int) :=
 (zap m_).bind fun c51=>cond (decide (c51≠0)) (some ([],false,c51)) ((cond (decide (s_<0)) (some true) (cond (decide ((↑(List.length m_.Next):Int)≤s_)) (some true) (cond (decide (t_<0)) (some true) (some (decide ((↑(List.length m_.Next):Int)≤t_))))):Option (Bool)).bind (fun (y58:Bool)=>cond (y58) (some ([],false,2)) ((zbb m_ m_ (⟨s_,t_⟩:zcr)).bind fun c63=>some (c63.1,c63.2,0))))
def zao.s13 (m_:zab) (y325:Nat) (y436:List (List (List Int))) (t437:Nat):Option ((List (List (List Int))×Nat)⊕(List (List (List Int))⊕((List (List (List Int))×Nat)⊕(List (List (List Int))⊕(List (List (List Int))×Int))))) :=
 cond (decide ((↑t437:Int)<(↑(List.length m_.Next):Int))) ((zg5 m_ (↑y325:Int) (↑t437:Int)).bind fun c449=>cond (decide (c449.2.2≠0)) (some (.inr (.inr (.inr (.inr ([],c449.2.2)))))) (idxn y436 y325 fun e451=>chk (capOk (List.length e451+1) 24) (idxn y436 y325 fun e453=>idxn (List.set y436 y325 (e451++[c449.1])) t437 fun e454=>chk (capOk (List.length e454+1) 24) (idxn (List.set y436 y325 (e451++[c449.1])) t437 fun e456=>some (.inl ((List.set (List.set y436 y325 (e451++[c449.1])) t437 (e454++[c449.1])),(t437+1))))))) (some (.inr (.inl y436)))
def zao.s14 (m_:zab) (y324:List (List (List Int))) (y325:Nat):Option ((List (List (List Int))×Nat)⊕(List (List (List Int))⊕(List (List (List Int))×Int))) :=
 cond (decide ((↑y325:Int)<(↑(List.length m_.Next):Int))) ((iter (fun (s:List (List (List Int))×Nat)=>zao.s13 m_ y325 s.1 s.2) fuel (y324,(y325+1)):Option (List (List (List Int))⊕((List (List (List Int))×Nat)⊕(List (List (List Int))⊕(List (List (List Int))×Int))))).bind (Sum.elim (fun (y426:List (List (List Int)))=>some (.inl (y426,(y325+1)))) some)) (some (.inr (.inl y324)))
def zao.s16 (y257:List (List (List Int))) (y485:List (List (List Int))) (y486:Nat):Option ((List (List (List Int))×Nat)⊕List (List (List Int))) :=
 cond (decide ((↑y486:Int)<(↑(List.length y257):Int))) (idxn y257 y486 fun e493=>(zej e493).bind fun c494=>chk (capOk (List.length y485+1) 24) (some (.inl ((y485++[c494]),(y486+1))))) (some (.inr y485))
def zao (m_:zab):Option (List (List (List Int))×Int) :=
 (zfv m_).bind fun c51=>cond (decide (c51≠0)) (some ([],c51)) (chk ((0:Int)≤(↑(List.length m_.Next):Int)∧(↑(List.length m_.Next):Int)≤(↑(List.length m_.Next):Int)∧capOk (Int.toNat (↑(List.length m_.Next):Int)) 24) ((iter (fun (s:List (List (List Int))×Nat)=>zao.s14 m_ s.1 s.2) fuel ((List.replicate (List.length m_.Next) ([]:List (List Int))),0):Option (List (List (List Int))⊕(List (List (List Int))×Int))).bind (Sum.elim (fun (y257:List (List (List Int)))=>chk ((0:Int)≤0∧0≤(↑(List.length y257):Int)∧capOk (Int.toNat (↑(List.length y257):Int)) 24) ((iter (fun (s:List (List (List Int))×Nat)=>zao.s16 y257 s.1 s.2) fuel ([],0):Option (List (List (List Int)))).bind (fun (y480:List (List (List Int)))=>some (y480,0)))) some)))
def zb4.s13 (c59:zab×Int) (c64:List (List Int)×Int) (c66:List (List (List Int))×Int) (e447:List Int) (y488:List (List Int)) (y489:Nat):Option ((List (List Int)×Nat)⊕(List (List Int)⊕((List (List Int)×Nat)⊕(List (List Int)⊕(List (List Int)×Int))))) :=
 cond (decide ((↑y489:Int)<(↑(List.length c64.1):Int))) (idxn c64.1 y489 fun e499=>(zfd [e447,e499]).bind fun c500=>(zhc c59.1 c66.1 c500).bind fun c501=>cond (decide (c501.2≠0)) (some (.inr (.inr (.inr (.inr ([],c501.2)))))) ((zcq c500 c501.1).bind fun c503=>chk (capOk (List.length y488+List.length c503) 24) (some (.inl ((y488++c503),(y489+1)))))) (some (.inr (.inl y488)))
def zb4.s14 (c59:zab×Int) (c61:List (List Int)×Int) (c64:List (List Int)×Int) (c66:List (List (List Int))×Int) (y371:List (List Int)) (y372:Nat):Option ((List (List Int)×Nat)⊕(List (List Int)⊕(List (List Int)×Int))) :=
 cond (decide ((↑y372:Int)<(↑(List.length c61.1):Int))) (idxn c61.1 y372 fun e447=>(iter (fun (s:List (List Int)×Nat)=>zb4.s13 c59 c64 c66 e447 s.1 s.2) fuel (y371,0):Option (List (List Int)⊕((List (List Int)×Nat)⊕(List (List Int)⊕(List (List Int)×Int))))).bind (Sum.elim (fun (y480:List (List Int))=>some (.inl (y480,(y372+1)))) some)) (some (.inr (.inl y371)))
def zb4 (m_:zab) (extra_:Int):Option (List (List Int)×Int) :=
 (zap m_).bind fun c51=>cond (decide (c51≠0)) (some ([],c51)) ((cond (decide (extra_<0)) (some true) (some (decide (3<extra_))):Option (Bool)).bind (fun (y56:Bool)=>cond (y56) (some ([],2)) ((za9 m_).bind fun c59=>cond (decide (c59.2≠0)) (some ([],c59.2)) ((zex c59.1).bind fun c61=>cond (decide (c61.2≠0)) (some ([],c61.2)) (chk (inR (extra_+1)) ((zc9 c59.1.Inputs (extra_+1)).bind fun c64=>cond (decide (c64.2≠0)) (some ([],c64.2)) ((zao c59.1).bind fun c66=>cond (decide (c66.2≠0)) (some ([],c66.2)) (chk (inR ((↑(List.length c61.1):Int)*(↑(List.length c64.1):Int))) ((zdn c66.1).bind fun c69=>chk (inR (((↑(List.length c61.1):Int)*(↑(List.length c64.1):Int))*c69)) (cond (decide (10000<(((↑(List.length c61.1):Int)*(↑(List.length c64.1):Int))*c69))) (some ([],11)) ((iter (fun (s:List (List Int)×Nat)=>zb4.s14 c59 c61 c64 c66 s.1 s.2) fuel ([],0):Option (List (List Int)⊕(List (List Int)×Int))).bind (Sum.elim (fun (y298:List (List Int))=>(zcj y298).bind fun c525=>some (c525,0)) some))))))))))))
def zgf (m_:zab) (extra_:Int):Option (za0×Int) :=
 (zb4 m_ extra_).bind fun c51=>cond (decide (c51.2≠0)) (some ((⟨(⟨0,0,[],[]⟩:zab),[]⟩:za0),c51.2)) ((za9 m_).bind fun c53=>cond (decide (c53.2≠0)) (some ((⟨(⟨0,0,[],[]⟩:zab),[]⟩:za0),c53.2)) (some ((⟨c53.1,c51.1⟩:za0),0)))
def zb5 (t_:zaa) (p1_:List Int):Option (Bool) :=
 (zch p1_ t_.In).bind fun c51=>some c51
def zak.s2 (s_:List zaa) (f_:zaa→Option Bool) (y71:Nat):Option (Nat⊕(Unit⊕Int)) :=
 cond (decide ((↑y71:Int)<(↑(List.length s_):Int))) (idxn s_ y71 fun e78=>(f_ e78).bind fun c79=>cond (c79) (some (.inr (.inr (↑y71:Int)))) (some (.inl (y71+1)))) (some (.inr (.inl ())))
def zak (s_:List zaa) (f_:zaa→Option Bool):Option (Int) :=
 (iter (fun (s:Nat)=>zak.s2 s_ f_ s) fuel 0:Option (Unit⊕Int)).bind (Sum.elim (fun (_:Unit)=>some (-1:Int)) some)
def za3 (s_:List zaa) (f_:zaa→Option Bool):Option (Bool) :=
 (zak s_ f_).bind fun c51=>some (decide (0≤c51))
def zb3 (r_:zau) (w_:List Int):Option (Bool×zau) :=
 (za3 r_.report.Changes (fun u0=>zb5 u0 w_)).bind fun c51=>some ((!c51),r_)
def zfe (m_:zab) (w_:List Int):Option (List Int×Int) :=
 (ze4 m_ m_.Start w_).bind fun c51=>some (c51.1,c51.2.2)
def zec (l_:List Int) (n_:Int):Option (List Int) :=
 chk ((0:Int)≤n_∧n_≤n_∧capOk (Int.toNat n_) 8) (chk (0<List.length ((List.replicate (Int.toNat n_) 0):List Int)∧0<List.length l_) (some (List.take (List.length ((List.replicate (Int.toNat n_) 0):List Int)) l_++List.drop (List.length l_) ((List.replicate (Int.toNat n_) 0):List Int))))
def zce (r_:zau) (w_:List Int) (answer_:List Int):Option (Int×zau) :=
 (zfe r_.m w_).bind fun c51=>cond (decide (c51.2≠0)) (some (c51.2,r_)) (chk (inR (r_.report.Run+1)) (((zb1 c51.1 answer_).bind fun c64=>cond (decide (c64<(↑(List.length w_):Int))) (chk (inR (c64+1)) ((zec w_ (c64+1)).bind fun c67=>chk (inR (c64+1)) ((zec answer_ (c64+1)).bind fun c69=>chk (capOk (List.length r_.report.Changes+1) 48) (some (r_.report.Changes++[(⟨c67,c69⟩:zaa)]))))) (some r_.report.Changes):Option (List zaa)).bind (fun (y63:List zaa)=>some (0,(⟨r_.m,(⟨(r_.report.Run+1),y63⟩:zai)⟩:zau)))))
def za1.k18 (y401:Int) (y402:Int) (y403:List (List Int)) (y404:List (List Int)) (y405:Int) (y406:List zaa) (e407:Int):Option ((Int×Int×List (List Int)×List (List Int)×Int×List zaa)⊕((Int×Int×List (List Int)×List (List Int)×Int×List zaa×Nat)⊕((Int×Int×List (List Int)×List (List Int)×Int×List zaa)⊕(zai×Int)))) :=
 cond (decide (e407≠0)) (some (.inr (.inr (.inr ((⟨0,[]⟩:zai),e407))))) (some (.inl (y401,y402,y403,y404,y405,y406)))
def za1.k19 (y305:Nat) (y387:Int) (y388:Int) (y389:List (List Int)) (y390:List (List Int)) (y391:Int) (y392:List zaa):Option ((Int×Int×List (List Int)×List (List Int)×Int×List zaa×Nat)⊕((Int×Int×List (List Int)×List (List Int)×Int×List zaa)⊕(zai×Int))) :=
 some (.inl (y387,y388,y389,y390,y391,y392,(y305+1)))
def za1.s20 (b_:zab) (c51:za0×Int) (y299:Int) (y300:Int) (y301:List (List Int)) (y302:List (List Int)) (y303:Int) (y304:List zaa) (y305:Nat):Option ((Int×Int×List (List Int)×List (List Int)×Int×List zaa×Nat)⊕((Int×Int×List (List Int)×List (List Int)×Int×List zaa)⊕(zai×Int))) :=
 cond (decide ((↑y305:Int)<(↑(List.length c51.1.Words):Int))) ((idxn c51.1.Words y305 fun e393=>(zb3 (⟨(⟨y299,y300,y301,y302⟩:zab),(⟨y303,y304⟩:zai)⟩:zau) e393).bind fun c394=>cond ((!c394.1)) (some (.inl (y299,y300,y301,y302,y303,c394.2.report.Changes))) ((zfe b_ e393).bind fun c396=>(cond (decide (c396.2=0)) ((zce (⟨(⟨y299,y300,y301,y302⟩:zab),(⟨y303,c394.2.report.Changes⟩:zai)⟩:zau) e393 c396.1).bind fun c409=>some (c409.2.m.Inputs,c409.2.m.Start,c409.2.m.Next,c409.2.m.Out,c409.2.report.Run,c409.2.report.Changes,c409.1)) (some (y299,y300,y301,y302,y303,c394.2.report.Changes,c396.2)):Option (Int×Int×List (List Int)×List (List Int)×Int×List zaa×Int)).bind (fun (s:Int×Int×List (List Int)×List (List Int)×Int×List zaa×Int)=>za1.k18 s.1 s.2.1 s.2.2.1 s.2.2.2.1 s.2.2.2.2.1 s.2.2.2.2.2.1 s.2.2.2.2.2.2)):Option ((Int×Int×List (List Int)×List (List Int)×Int×List zaa)⊕((Int×Int×List (List Int)×List (List Int)×Int×List zaa×Nat)⊕((Int×Int×List (List Int)×List (List Int)×Int×List zaa)⊕(zai×Int))))).bind (Sum.elim (fun (s:Int×Int×List (List Int)×List (List Int)×Int×List zaa)=>za1.k19 y305 s.1 s.2.1 s.2.2.1 s.2.2.2.1 s.2.2.2.2.1 s.2.2.2.2.2) some)) (some (.inr (.inl (y299,y300,y301,y302,y303,y304))))
def za1.k21 (y237:Int) (y238:Int) (y239:List (List Int)) (y240:List (List Int)) (y241:Int) (y242:List zaa):Option (zai×Int) :=
 some ((⟨y241,y242⟩:zai),0)
def za1 (a_:zab) (b_:zab) (extra_:Int):Option (zai×Int) :=
 (zgf a_ extra_).bind fun c51=>cond (decide (c51.2≠0)) (some ((⟨0,[]⟩:zai),c51.2)) ((zap b_).bind fun c53=>cond (decide (c53≠0)) (some ((⟨0,[]⟩:zai),c53)) (cond (decide (a_.Inputs≠b_.Inputs)) (some ((⟨0,[]⟩:zai),15)) ((iter (fun (s:Int×Int×List (List Int)×List (List Int)×Int×List zaa×Nat)=>za1.s20 b_ c51 s.1 s.2.1 s.2.2.1 s.2.2.2.1 s.2.2.2.2.1 s.2.2.2.2.2.1 s.2.2.2.2.2.2) fuel (c51.1.M.Inputs,c51.1.M.Start,c51.1.M.Next,c51.1.M.Out,0,[],0):Option ((Int×Int×List (List Int)×List (List Int)×Int×List zaa)⊕(zai×Int))).bind (Sum.elim (fun (s:Int×Int×List (List Int)×List (List Int)×Int×List zaa)=>za1.k21 s.1 s.2.1 s.2.2.1 s.2.2.2.1 s.2.2.2.2.1 s.2.2.2.2.2) some))))
def zga:Option (Bool) :=
 (L50_gate).bind fun c51=>(zgf c51 0).bind fun c52=>(L50_gate).bind fun c53=>(za1 c53 (⟨2,0,[[1,0],[1,1]],[[1,0],[1,2]]⟩:zab) 0).bind fun c54=>(L50_gate).bind fun c55=>(za1 c55 (⟨2,0,[[1,0],[1,0]],[[0,0],[1,2]]⟩:zab) 0).bind fun c56=>(cond (decide (c52.2≠0)) (some true) (cond (decide (c54.2≠0)) (some true) (cond (decide (c56.2≠0)) (some true) ((zet c52.1.Words [[1,1],[0,0,1],[0,1,1]]).bind fun c71=>cond ((!c71)) (some true) (cond (decide (c54.1.Run≠3)) (some true) (cond (decide ((↑(List.length c54.1.Changes):Int)≠1)) (some true) (cond (decide (c56.1.Run≠2)) (some true) (some (decide ((↑(List.length c56.1.Changes):Int)≠1))))))))):Option (Bool)).bind (fun (y67:Bool)=>cond (y67) (some false) ((idxn c54.1.Changes 0 fun e93=>(R06_Ints e93.In [0,1,1]).bind fun c94=>cond (c94) (idxn c54.1.Changes 0 fun e96=>(R06_Ints e96.Out [1,2,2]).bind fun c97=>cond (c97) (idxn c56.1.Changes 0 fun e99=>(R06_Ints e99.In [0]).bind fun c100=>cond (c100) (idxn c56.1.Changes 0 fun e102=>(R06_Ints e102.Out [0]).bind fun c103=>some c103) (some false)) (some false)) (some false):Option (Bool)).bind (fun (y92:Bool)=>some y92)))
def zdd (t_:zaa) (p1_:List Int):Option (Bool) :=
 (zch t_.In p1_).bind fun c51=>some c51
def zdi (o_:zam) (w_:List Int):Option (List Int×Bool) :=
 cond (decide ((↑(List.length w_):Int)=0)) (some ([],true)) ((zak o_.Traces (fun u0=>zdd u0 w_)).bind fun c52=>cond (decide (c52<0)) (some ([],false)) (idx o_.Traces c52 fun e54=>chk ((0:Int)≤(min (↑(List.length w_):Int) (↑(List.length e54.Out):Int))∧(min (↑(List.length w_):Int) (↑(List.length e54.Out):Int))≤(↑(List.length e54.Out):Int)) ((zba (List.take (Int.toNat (min (↑(List.length w_):Int) (↑(List.length e54.Out):Int))) e54.Out)).bind fun c56=>some (c56,true))))
def zbp (n_:Int) (most_:Int):Option (Bool) :=
 (cond (decide (n_<0)) (some true) (some (decide (most_<n_))):Option (Bool)).bind (fun (y54:Bool)=>some y54)
def zdg (n_:Int):Option (Bool) :=
 (zbp n_ 1048576).bind fun c51=>some c51
def zes (l_:zav):Option (Int) :=
 ((zdg l_.Reset).bind fun c57=>cond (c57) (some true) ((zbe l_.Step (fun u0=>zdg u0)).bind fun c59=>some c59):Option (Bool)).bind (fun (y56:Bool)=>cond (y56) (some 2) (some 0))
def zb0 (u_:zar):Option (Bool) :=
 ((zbp u_.Device.Steps 1125899906842624).bind fun c59=>cond ((!c59)) ((zbp u_.Device.Resets 1125899906842624).bind fun c61=>cond ((!c61)) ((zbp u_.Device.Time 1125899906842624).bind fun c63=>some (!c63)) (some false)) (some false):Option (Bool)).bind (fun (y58:Bool)=>some y58)
def zep (d_:zaf):Option (Int) :=
 (zap d_.M).bind fun c51=>cond (decide (c51≠0)) (some c51) ((zbp d_.State ((↑(List.length d_.M.Next):Int)-1)).bind fun c53=>cond (c53) (some 2) (cond (decide ((↑(List.length d_.Latency.Step):Int)≠d_.M.Inputs)) (some 1) ((zes d_.Latency).bind fun c56=>cond (decide (c56≠0)) (some c56) (((zbp d_.Faults.Lost 10000).bind fun c71=>cond (c71) (some true) ((zbp d_.Faults.Wrong 10000).bind fun c73=>cond (c73) (some true) ((zbp d_.Faults.Crash 10000).bind fun c75=>cond (c75) (some true) (chk (inR (d_.Faults.Lost+d_.Faults.Wrong)) (chk (inR ((d_.Faults.Lost+d_.Faults.Wrong)+d_.Faults.Crash)) (cond (decide (10000<((d_.Faults.Lost+d_.Faults.Wrong)+d_.Faults.Crash))) (some true) ((zb0 (⟨d_⟩:zar)).bind fun c80=>some (!c80))))))):Option (Bool)).bind (fun (y70:Bool)=>cond (y70) (some 2) (some 0))))))
def zcf.s2 (l_:List (List Int)) (y75:List (List Int)) (y76:Nat):Option ((List (List Int)×Nat)⊕List (List Int)) :=
 cond (decide ((↑y76:Int)<(↑(List.length l_):Int))) (idxn l_ y76 fun e83=>(zba e83).bind fun c84=>chk (capOk (List.length y75+1) 24) (some (.inl ((y75++[c84]),(y76+1))))) (some (.inr y75))
def zcf (l_:List (List Int)):Option (List (List Int)) :=
 chk ((0:Int)≤0∧0≤(↑(List.length l_):Int)∧capOk (Int.toNat (↑(List.length l_):Int)) 24) ((iter (fun (s:List (List Int)×Nat)=>zcf.s2 l_ s.1 s.2) fuel ([],0):Option (List (List Int))).bind (fun (y70:List (List Int))=>some y70))
def zd8 (d_:zaf):Option (zaf) :=
 (zcf d_.M.Next).bind fun c51=>(zcf d_.M.Out).bind fun c52=>(zba d_.Latency.Step).bind fun c53=>some (⟨(⟨d_.M.Inputs,d_.M.Start,c51,c52⟩:zab),d_.State,d_.Ready,(⟨c53,d_.Latency.Reset⟩:zav),d_.Faults,d_.Seed,d_.Steps,d_.Resets,d_.Time⟩:zaf)
def zc5 (u_:zar):Option (Int×zar) :=
 chk (inR (u_.Device.Resets+1)) (chk (inR (u_.Device.Time+u_.Device.Latency.Reset)) ((zb0 (⟨(⟨u_.Device.M,u_.Device.M.Start,true,u_.Device.Latency,u_.Device.Faults,u_.Device.Seed,u_.Device.Steps,(u_.Device.Resets+1),(u_.Device.Time+u_.Device.Latency.Reset)⟩:zaf)⟩:zar)).bind fun c53=>cond ((!c53)) (some (11,u_)) (some (0,(⟨(⟨u_.Device.M,u_.Device.M.Start,true,u_.Device.Latency,u_.Device.Faults,u_.Device.Seed,u_.Device.Steps,(u_.Device.Resets+1),(u_.Device.Time+u_.Device.Latency.Reset)⟩:zaf)⟩:zar)))))
def zfa (state_:Int):Option (Int×Int) :=
 chk ((0:Int)≤(mdU (state_+11400714819323198485))∧(mdU (state_+11400714819323198485))≤18446744073709551615) (chk ((0:Int)≤(mdU ((xorK .u64 (mdU (state_+11400714819323198485)) ((mdU (state_+11400714819323198485)) / 2^30))*13787848793156543929))∧(mdU ((xorK .u64 (mdU (state_+11400714819323198485)) ((mdU (state_+11400714819323198485)) / 2^30))*13787848793156543929))≤18446744073709551615) (chk ((0:Int)≤(mdU ((xorK .u64 (mdU ((xorK .u64 (mdU (state_+11400714819323198485)) ((mdU (state_+11400714819323198485)) / 2^30))*13787848793156543929)) ((mdU ((xorK .u64 (mdU (state_+11400714819323198485)) ((mdU (state_+11400714819323198485)) / 2^30))*13787848793156543929)) / 2^27))*10723151780598845931))∧(mdU ((xorK .u64 (mdU ((xorK .u64 (mdU (state_+11400714819323198485)) ((mdU (state_+11400714819323198485)) / 2^30))*13787848793156543929)) ((mdU ((xorK .u64 (mdU (state_+11400714819323198485)) ((mdU (state_+11400714819323198485)) / 2^30))*13787848793156543929)) / 2^27))*10723151780598845931))≤18446744073709551615) (some ((xorK .u64 (mdU ((xorK .u64 (mdU ((xorK .u64 (mdU (state_+11400714819323198485)) ((mdU (state_+11400714819323198485)) / 2^30))*13787848793156543929)) ((mdU ((xorK .u64 (mdU (state_+11400714819323198485)) ((mdU (state_+11400714819323198485)) / 2^30))*13787848793156543929)) / 2^27))*10723151780598845931)) ((mdU ((xorK .u64 (mdU ((xorK .u64 (mdU (state_+11400714819323198485)) ((mdU (state_+11400714819323198485)) / 2^30))*13787848793156543929)) ((mdU ((xorK .u64 (mdU (state_+11400714819323198485)) ((mdU (state_+11400714819323198485)) / 2^30))*13787848793156543929)) / 2^27))*10723151780598845931)) / 2^31)),(mdU (state_+11400714819323198485))))))
def zcb.s1 (n_:Int) (state62:Int):Option (Int⊕(Int×Int)) :=
 (zfa state62).bind fun c73=>(cond (decide (((mdU (0-n_))%n_)=0)) (some true) (some (decide (c73.1<(mdU (0-((mdU (0-n_))%n_)))))):Option (Bool)).bind (fun (y77:Bool)=>cond (y77) (chk (((0:Int)≤(c73.1%n_)∧(c73.1%n_)≤18446744073709551615)∧(0:Int)≤c73.1∧(1:Int)≤n_) (chk (inR (c73.1%n_)) (some (.inr ((c73.1%n_),c73.2))))) (some (.inl c73.2)))
def zcb (state_:Int) (n_:Int):Option (Int×Int) :=
 chk ((0:Int)≤n_∧n_≤18446744073709551615) (chk (((0:Int)≤((mdU (0-n_))%n_)∧((mdU (0-n_))%n_)≤18446744073709551615)∧(0:Int)≤(mdU (0-n_))∧(1:Int)≤n_) (iter (fun (s:Int)=>zcb.s1 n_ s) fuel state_))
def zev (state_:Int) (n_:Int):Option (Int×Int×Int) :=
 (cond (decide (n_<1)) (some true) (some (decide (2147483648<n_))):Option (Bool)).bind (fun (y54:Bool)=>cond (y54) (some (0,0,2)) ((zcb state_ n_).bind fun c57=>some (c57.1,c57.2,0)))
def zde (u_:zar) (a_:Int):Option (Int×Int×zar) :=
 cond ((!u_.Device.Ready)) (some (0,10,u_)) (chk (inR (u_.Device.M.Inputs-1)) ((zbp a_ (u_.Device.M.Inputs-1)).bind fun c53=>cond (c53) (some (0,2,u_)) (chk (inR (u_.Device.Steps+1)) (idx u_.Device.Latency.Step a_ fun e56=>chk (inR (u_.Device.Time+e56)) ((zb0 (⟨(⟨u_.Device.M,u_.Device.State,u_.Device.Ready,u_.Device.Latency,u_.Device.Faults,u_.Device.Seed,(u_.Device.Steps+1),u_.Device.Resets,(u_.Device.Time+e56)⟩:zaf)⟩:zar)).bind fun c58=>cond ((!c58)) (some (0,11,u_)) ((zev u_.Device.Seed 10000).bind fun c60=>cond (decide (c60.2.2≠0)) (some (0,c60.2.2,u_)) (idx u_.Device.M.Next u_.Device.State fun e62=>idx e62 a_ fun e63=>idx u_.Device.M.Out u_.Device.State fun e64=>idx e64 a_ fun e65=>cond (decide (c60.1<u_.Device.Faults.Lost)) (some ((-1:Int),0,(⟨(⟨u_.Device.M,e63,u_.Device.Ready,u_.Device.Latency,u_.Device.Faults,c60.2.1,(u_.Device.Steps+1),u_.Device.Resets,(u_.Device.Time+e56)⟩:zaf)⟩:zar))) ((chk (inR (u_.Device.Faults.Lost+u_.Device.Faults.Wrong)) (cond (decide (c60.1<(u_.Device.Faults.Lost+u_.Device.Faults.Wrong))) (some (decide (e65=1048576))) (some false)):Option (Bool)).bind (fun (y71:Bool)=>cond (y71) (chk (inR (e65-1)) (some ((e65-1),0,(⟨(⟨u_.Device.M,e63,u_.Device.Ready,u_.Device.Latency,u_.Device.Faults,c60.2.1,(u_.Device.Steps+1),u_.Device.Resets,(u_.Device.Time+e56)⟩:zaf)⟩:zar)))) (chk (inR (u_.Device.Faults.Lost+u_.Device.Faults.Wrong)) (cond (decide (c60.1<(u_.Device.Faults.Lost+u_.Device.Faults.Wrong))) (chk (inR (e65+1)) (some ((e65+1),0,(⟨(⟨u_.Device.M,e63,u_.Device.Ready,u_.Device.Latency,u_.Device.Faults,c60.2.1,(u_.Device.Steps+1),u_.Device.Resets,(u_.Device.Time+e56)⟩:zaf)⟩:zar)))) (chk (inR (u_.Device.Faults.Lost+u_.Device.Faults.Wrong)) (chk (inR ((u_.Device.Faults.Lost+u_.Device.Faults.Wrong)+u_.Device.Faults.Crash)) (cond (decide (c60.1<((u_.Device.Faults.Lost+u_.Device.Faults.Wrong)+u_.Device.Faults.Crash))) (some (e65,0,(⟨(⟨u_.Device.M,e63,false,u_.Device.Latency,u_.Device.Faults,c60.2.1,(u_.Device.Steps+1),u_.Device.Resets,(u_.Device.Time+e56)⟩:zaf)⟩:zar))) (some (e65,0,(⟨(⟨u_.Device.M,e63,u_.Device.Ready,u_.Device.Latency,u_.Device.Faults,c60.2.1,(u_.Device.Steps+1),u_.Device.Resets,(u_.Device.Time+e56)⟩:zaf)⟩:zar)))))))))))))))))
def zbc.s2 (w_:List Int) (y171:Int) (y172:Int) (y173:List (List Int)) (y174:List (List Int)) (y175:Int) (y176:Bool) (y177:List Int) (y178:Int) (y179:Int) (y180:Int) (y181:Int) (y182:Int) (y183:Int) (y184:Int) (y185:Int) (y186:List Int) (y187:Nat):Option ((Int×Int×List (List Int)×List (List Int)×Int×Bool×List Int×Int×Int×Int×Int×Int×Int×Int×Int×List Int×Nat)⊕((Int×Int×List (List Int)×List (List Int)×Int×Bool×List Int×Int×Int×Int×Int×Int×Int×Int×Int×List Int)⊕(zaf×List Int×Int))) :=
 cond (decide ((↑y187:Int)<(↑(List.length w_):Int))) (idxn w_ y187 fun e208=>(zde (⟨(⟨(⟨y171,y172,y173,y174⟩:zab),y175,y176,(⟨y177,y178⟩:zav),(⟨y179,y180,y181⟩:zbg),y182,y183,y184,y185⟩:zaf)⟩:zar) e208).bind fun c209=>cond (decide (c209.2.1≠0)) (some (.inr (.inr (c209.2.2.Device,[],c209.2.1)))) ((cond (decide (c209.1<0)) (some true) (cond ((!c209.2.2.Device.Ready)) (some (decide (((↑y187:Int)+1)<(↑(List.length w_):Int)))) (some false)):Option (Bool)).bind (fun (y215:Bool)=>cond (y215) (some (.inr (.inr (c209.2.2.Device,[],14)))) (chk (capOk (List.length y186+1) 8) (some (.inl (c209.2.2.Device.M.Inputs,c209.2.2.Device.M.Start,c209.2.2.Device.M.Next,c209.2.2.Device.M.Out,c209.2.2.Device.State,c209.2.2.Device.Ready,c209.2.2.Device.Latency.Step,c209.2.2.Device.Latency.Reset,c209.2.2.Device.Faults.Lost,c209.2.2.Device.Faults.Wrong,c209.2.2.Device.Faults.Crash,c209.2.2.Device.Seed,c209.2.2.Device.Steps,c209.2.2.Device.Resets,c209.2.2.Device.Time,(y186++[c209.1]),(y187+1)))))))) (some (.inr (.inl (y171,y172,y173,y174,y175,y176,y177,y178,y179,y180,y181,y182,y183,y184,y185,y186))))
def zbc.k3 (y137:Int) (y138:Int) (y139:List (List Int)) (y140:List (List Int)) (y141:Int) (y142:Bool) (y143:List Int) (y144:Int) (y145:Int) (y146:Int) (y147:Int) (y148:Int) (y149:Int) (y150:Int) (y151:Int) (y152:List Int):Option (zaf×List Int×Int) :=
 some ((⟨(⟨y137,y138,y139,y140⟩:zab),y141,y142,(⟨y143,y144⟩:zav),(⟨y145,y146,y147⟩:zbg),y148,y149,y150,y151⟩:zaf),y152,0)
def zbc (d_:zaf) (w_:List Int):Option (zaf×List Int×Int) :=
 (zep d_).bind fun c51=>cond (decide (c51≠0)) (some (d_,[],c51)) ((zc6 w_ d_.M.Inputs).bind fun c53=>cond (decide (c53≠0)) (some (d_,[],c53)) ((zd8 d_).bind fun c55=>(zc5 (⟨c55⟩:zar)).bind fun c56=>cond (decide (c56.1≠0)) (some (d_,[],c56.1)) (chk ((0:Int)≤0∧0≤(↑(List.length w_):Int)∧capOk (Int.toNat (↑(List.length w_):Int)) 8) ((iter (fun (s:Int×Int×List (List Int)×List (List Int)×Int×Bool×List Int×Int×Int×Int×Int×Int×Int×Int×Int×List Int×Nat)=>zbc.s2 w_ s.1 s.2.1 s.2.2.1 s.2.2.2.1 s.2.2.2.2.1 s.2.2.2.2.2.1 s.2.2.2.2.2.2.1 s.2.2.2.2.2.2.2.1 s.2.2.2.2.2.2.2.2.1 s.2.2.2.2.2.2.2.2.2.1 s.2.2.2.2.2.2.2.2.2.2.1 s.2.2.2.2.2.2.2.2.2.2.2.1 s.2.2.2.2.2.2.2.2.2.2.2.2.1 s.2.2.2.2.2.2.2.2.2.2.2.2.2.1 s.2.2.2.2.2.2.2.2.2.2.2.2.2.2.1 s.2.2.2.2.2.2.2.2.2.2.2.2.2.2.2.1 s.2.2.2.2.2.2.2.2.2.2.2.2.2.2.2.2) fuel (c56.2.Device.M.Inputs,c56.2.Device.M.Start,c56.2.Device.M.Next,c56.2.Device.M.Out,c56.2.Device.State,c56.2.Device.Ready,c56.2.Device.Latency.Step,c56.2.Device.Latency.Reset,c56.2.Device.Faults.Lost,c56.2.Device.Faults.Wrong,c56.2.Device.Faults.Crash,c56.2.Device.Seed,c56.2.Device.Steps,c56.2.Device.Resets,c56.2.Device.Time,[],0):Option ((Int×Int×List (List Int)×List (List Int)×Int×Bool×List Int×Int×Int×Int×Int×Int×Int×Int×Int×List Int)⊕(zaf×List Int×Int))).bind (Sum.elim (fun (s:Int×Int×List (List Int)×List (List Int)×Int×Bool×List Int×Int×Int×Int×Int×Int×Int×Int×Int×List Int)=>zbc.k3 s.1 s.2.1 s.2.2.1 s.2.2.2.1 s.2.2.2.2.1 s.2.2.2.2.2.1 s.2.2.2.2.2.2.1 s.2.2.2.2.2.2.2.1 s.2.2.2.2.2.2.2.2.1 s.2.2.2.2.2.2.2.2.2.1 s.2.2.2.2.2.2.2.2.2.2.1 s.2.2.2.2.2.2.2.2.2.2.2.1 s.2.2.2.2.2.2.2.2.2.2.2.2.1 s.2.2.2.2.2.2.2.2.2.2.2.2.2.1 s.2.2.2.2.2.2.2.2.2.2.2.2.2.2.1 s.2.2.2.2.2.2.2.2.2.2.2.2.2.2.2) some)))))
def zcd.s2 (l_:List (List Int)) (y72:List (List Int)) (y73:Nat):Option ((List (List Int)×Nat)⊕List (List Int)) :=
 cond (decide ((↑y73:Int)<(↑(List.length l_):Int))) (idxn l_ y73 fun e80=>(zba e80).bind fun c81=>chk (capOk (List.length y72+1) 24) (some (.inl ((y72++[c81]),(y73+1))))) (some (.inr y72))
def zcd (l_:List (List Int)):Option (List (List Int)) :=
 (iter (fun (s:List (List Int)×Nat)=>zcd.s2 l_ s.1 s.2) fuel ([],0):Option (List (List Int))).bind (fun (y68:List (List Int))=>some y68)
def zbx.s2 (q_:zae) (y82:List zaa) (y83:Nat):Option ((List zaa×Nat)⊕List zaa) :=
 cond (decide ((↑y83:Int)<(↑(List.length q_.Obs.Traces):Int))) (idxn q_.Obs.Traces y83 fun e91=>(zba e91.In).bind fun c92=>(zba e91.Out).bind fun c93=>chk (capOk (List.length y82+1) 48) (some (.inl ((y82++[(⟨c92,c93⟩:zaa)]),(y83+1))))) (some (.inr y82))
def zbx (q_:zae):Option (zae) :=
 (zcd q_.Device.M.Next).bind fun c51=>(zcd q_.Device.M.Out).bind fun c52=>(zba q_.Device.Latency.Step).bind fun c53=>(iter (fun (s:List zaa×Nat)=>zbx.s2 q_ s.1 s.2) fuel ([],0):Option (List zaa)).bind (fun (y77:List zaa)=>some (⟨(⟨(⟨q_.Device.M.Inputs,q_.Device.M.Start,c51,c52⟩:zab),q_.Device.State,q_.Device.Ready,(⟨c53,q_.Device.Latency.Reset⟩:zav),q_.Device.Faults,q_.Device.Seed,q_.Device.Steps,q_.Device.Resets,q_.Device.Time⟩:zaf),(⟨q_.Obs.Inputs,y77⟩:zam),q_.Votes,q_.Tries,q_.Asked,q_.Hits⟩:zae))
def zdh (t_:zaa):Option (zaa) :=
 (zba t_.In).bind fun c51=>(zba t_.Out).bind fun c52=>some (⟨c51,c52⟩:zaa)
def zbz.s2 (l_:List zaa) (y75:List zaa) (y76:Nat):Option ((List zaa×Nat)⊕List zaa) :=
 cond (decide ((↑y76:Int)<(↑(List.length l_):Int))) (idxn l_ y76 fun e83=>(zdh e83).bind fun c84=>chk (capOk (List.length y75+1) 48) (some (.inl ((y75++[c84]),(y76+1))))) (some (.inr y75))
def zbz (l_:List zaa):Option (List zaa) :=
 chk ((0:Int)≤0∧0≤((↑(List.length l_):Int)+1)∧capOk (Int.toNat ((↑(List.length l_):Int)+1)) 48) ((iter (fun (s:List zaa×Nat)=>zbz.s2 l_ s.1 s.2) fuel ([],0):Option (List zaa)).bind (fun (y70:List zaa)=>some y70))
def zah.s2 (x_:List zaa) (target_:zaa) (cmp_:zaa→zaa→Option Int) (i89:Int) (j90:Int):Option ((Int×Int)⊕Int) :=
 cond (decide (i89<j90)) (chk (inR (i89+j90)) (chk ((0:Int)≤(i89+j90)∧(i89+j90)≤18446744073709551615) (chk ((0:Int)≤(i89+j90)∧(i89+j90)≤18446744073709551615) (chk (inR ((i89+j90) / 2^1)) (idx x_ ((i89+j90) / 2^1) fun e106=>(cmp_ e106 target_).bind fun c107=>cond (decide (c107<0)) (chk (inR (((i89+j90) / 2^1)+1)) (some (.inl ((((i89+j90) / 2^1)+1),j90)))) (some (.inl (i89,((i89+j90) / 2^1))))))))) (some (.inr i89))
def zah (x_:List zaa) (target_:zaa) (cmp_:zaa→zaa→Option Int):Option (Int×Bool) :=
 (iter (fun (s:Int×Int)=>zah.s2 x_ target_ cmp_ s.1 s.2) fuel (0,(↑(List.length x_):Int)):Option (Int)).bind (fun (i81:Int)=>(cond (decide (i81<(↑(List.length x_):Int))) (idx x_ i81 fun e119=>(cmp_ e119 target_).bind fun c120=>some (decide (c120=0))) (some false):Option (Bool)).bind (fun (y117:Bool)=>some (i81,y117)))
def zds (a_:zaa) (b_:zaa):Option (Int) :=
 (zb1 a_.In b_.In).bind fun c51=>chk ((0:Int)≤(min (min c51 (↑(List.length a_.Out):Int)) (↑(List.length b_.Out):Int))∧(min (min c51 (↑(List.length a_.Out):Int)) (↑(List.length b_.Out):Int))≤(↑(List.length a_.Out):Int)) (chk ((0:Int)≤(min (min c51 (↑(List.length a_.Out):Int)) (↑(List.length b_.Out):Int))∧(min (min c51 (↑(List.length a_.Out):Int)) (↑(List.length b_.Out):Int))≤(↑(List.length b_.Out):Int)) ((zb1 (List.take (Int.toNat (min (min c51 (↑(List.length a_.Out):Int)) (↑(List.length b_.Out):Int))) a_.Out) (List.take (Int.toNat (min (min c51 (↑(List.length a_.Out):Int)) (↑(List.length b_.Out):Int))) b_.Out)).bind fun c54=>cond (decide (c54<(min (min c51 (↑(List.length a_.Out):Int)) (↑(List.length b_.Out):Int)))) (some c54) (some (-1:Int))))
def zd4 (u_:zaa) (p1_:zaa):Option (Bool) :=
 (zch p1_.In u_.In).bind fun c51=>some c51
def zag.s2 (del_:zaa→Option Bool) (y94:List zaa) (i95:Int) (j96:Int):Option ((List zaa×Int×Int)⊕(List zaa×Int)) :=
 cond (decide (j96<(↑(List.length y94):Int))) (idx y94 j96 fun e107=>(del_ e107).bind fun c108=>cond ((!c108)) (idx y94 i95 fun e110=>chk (inR (i95+1)) (chk (inR (j96+1)) (some (.inl ((List.set y94 i95.toNat e107),(i95+1),(j96+1)))))) (chk (inR (j96+1)) (some (.inl (y94,i95,(j96+1)))))) (some (.inr (y94,i95)))
def zag.k3 (y84:List zaa) (i85:Int):Option (List zaa) :=
 chk ((0:Int)≤i85∧i85≤(↑(List.length y84):Int)∧0<List.length y84) (chk ((Int.toNat i85)≤List.length y84) (chk ((0:Int)≤i85∧i85≤(↑(List.length (List.take (Int.toNat i85) y84++List.replicate (List.length y84-(Int.toNat i85)) (⟨[],[]⟩:zaa))):Int)∧0<List.length (List.take (Int.toNat i85) y84++List.replicate (List.length y84-(Int.toNat i85)) (⟨[],[]⟩:zaa))) (some (List.take (Int.toNat i85) (List.take (Int.toNat i85) y84++List.replicate (List.length y84-(Int.toNat i85)) (⟨[],[]⟩:zaa))))))
def zag (s_:List zaa) (del_:zaa→Option Bool):Option (List zaa) :=
 (zak s_ del_).bind fun c51=>cond (decide (c51=(-1:Int))) (some s_) (chk (inR (c51+1)) ((iter (fun (s:List zaa×Int×Int)=>zag.s2 del_ s.1 s.2.1 s.2.2) fuel (s_,c51,(c51+1)):Option (List zaa×Int)).bind (fun (s:List zaa×Int)=>zag.k3 s.1 s.2)))
def zcp (a_:zaa) (b_:zaa):Option (Int) :=
 (zc8 a_.In b_.In).bind fun c51=>some c51
def zcn.s2 (l_:List zaa) (t_:zaa) (inside79:Bool) (y80:Nat):Option ((Bool×Nat)⊕(Bool⊕(List zaa×Int))) :=
 cond (decide ((↑y80:Int)<(↑(List.length l_):Int))) (idxn l_ y80 fun e89=>(zds e89 t_).bind fun c90=>cond (decide (0≤c90)) (some (.inr (.inr ([],13)))) (cond (inside79) (some (.inl (true,(y80+1)))) ((zch e89.In t_.In).bind fun c93=>some (.inl (c93,(y80+1)))))) (some (.inr (.inl inside79)))
def zcn (l_:List zaa) (t_:zaa):Option (List zaa×Int) :=
 (iter (fun (s:Bool×Nat)=>zcn.s2 l_ t_ s.1 s.2) fuel (false,0):Option (Bool⊕(List zaa×Int))).bind (Sum.elim (fun (inside73:Bool)=>(cond (inside73) (some true) (some (decide ((↑(List.length t_.In):Int)=0))):Option (Bool)).bind (fun (y99:Bool)=>cond (y99) (some (l_,0)) ((zag l_ (fun u0=>zd4 u0 t_)).bind fun c103=>cond (decide ((↑(List.length c103):Int)=10000)) (some ([],11)) ((zah c103 t_ (fun u0 u1=>zcp u0 u1)).bind fun c105=>(zdh t_).bind fun c106=>(zed c103 c105.1 [c106]).bind fun c107=>some (c107,0))))) some)
def zdf (o_:Int):Option (Bool) :=
 (cond (decide (o_<0)) (some true) (some (decide (1048576<o_))):Option (Bool)).bind (fun (y54:Bool)=>some y54)
def zdu (t_:zaa) (inputs_:Int):Option (Int) :=
 (zc6 t_.In inputs_).bind fun c51=>cond (decide (c51≠0)) (some c51) (cond (decide ((↑(List.length t_.Out):Int)≠(↑(List.length t_.In):Int))) (some 1) ((zbe t_.Out (fun u0=>zdf u0)).bind fun c54=>cond (c54) (some 2) (some 0)))
def zcc.s2 (o_:zam) (l_:List zaa) (y83:List zaa) (y84:Nat):Option ((List zaa×Nat)⊕(List zaa⊕(zam×Int))) :=
 cond (decide ((↑y84:Int)<(↑(List.length l_):Int))) (idxn l_ y84 fun e93=>(zdu e93 o_.Inputs).bind fun c94=>cond (decide (c94≠0)) (some (.inr (.inr (o_,c94)))) ((zcn y83 e93).bind fun c96=>cond (decide (c96.2≠0)) (some (.inr (.inr (o_,c96.2)))) (some (.inl (c96.1,(y84+1)))))) (some (.inr (.inl y83)))
def zcc (o_:zam) (l_:List zaa):Option (zam×Int) :=
 (zbz o_.Traces).bind fun c51=>(iter (fun (s:List zaa×Nat)=>zcc.s2 o_ l_ s.1 s.2) fuel (c51,0):Option (List zaa⊕(zam×Int))).bind (Sum.elim (fun (y76:List zaa)=>some ((⟨o_.Inputs,y76⟩:zam),0)) some)
def ze8 (o_:zam) (t_:zaa):Option (zam×Int) :=
 (zcc o_ [t_]).bind fun c51=>some (c51.1,c51.2)
def zbv.s2 (l_:List (List Int)) (need_:Int) (y87:List (ByteArray×Int)) (y88:Nat):Option (((List (ByteArray×Int))×Nat)⊕(Unit⊕(List Int×Int×List (List Int)))) :=
 cond (decide ((↑y88:Int)<(↑(List.length l_):Int))) (idxn l_ y88 fun e97=>(zhp e97).bind fun c98=>chk (inR (((mget c98 y87).getD 0)+1)) (cond (decide (((mget c98 (mset c98 (((mget c98 y87).getD 0)+1) y87)).getD 0)=need_)) ((zba e97).bind fun c101=>some (.inr (.inr (c101,0,l_)))) (some (.inl ((mset c98 (((mget c98 y87).getD 0)+1) y87),(y88+1)))))) (some (.inr (.inl ())))
def zbv (l_:List (List Int)) (need_:Int):Option (List Int×Int×List (List Int)) :=
 (cond (decide (need_<1)) (some true) (some (decide (9<need_))):Option (Bool)).bind (fun (y54:Bool)=>cond (y54) (some ([],2,l_)) ((iter (fun (s:(List (ByteArray×Int))×Nat)=>zbv.s2 l_ need_ s.1 s.2) fuel (([]:List (ByteArray×Int)),0):Option (Unit⊕(List Int×Int×List (List Int)))).bind (Sum.elim (fun (_:Unit)=>some ([],13,l_)) some)))
def zbl.k9 (y377:Int) (y381:Int) (y427:Int) (y428:Int) (y429:List (List Int)) (y430:List (List Int)) (y431:Int) (y432:Bool) (y433:List Int) (y434:Int) (y435:Int) (y436:Int) (y437:Int) (y438:Int) (y439:Int) (y440:Int) (y441:Int) (y442:List (List Int)) (answer443:List Int) (code444:Int):Option ((Int×Int×List (List Int)×List (List Int)×Int×Bool×List Int×Int×Int×Int×Int×Int×Int×Int×Int×Int×List (List Int)×List Int×Int×Int)⊕(Int×Int×List (List Int)×List (List Int)×Int×Bool×List Int×Int×Int×Int×Int×Int×Int×Int×Int×Int×List Int×Int)) :=
 some (.inl (y427,y428,y429,y430,y431,y432,y433,y434,y435,y436,y437,y438,y439,y440,y441,(mdI (y377+1)),y442,answer443,code444,(mdI (y381+1))))
def zbl.s10 (w_:List Int) (c53:zae) (y362:Int) (y363:Int) (y364:List (List Int)) (y365:List (List Int)) (y366:Int) (y367:Bool) (y368:List Int) (y369:Int) (y370:Int) (y371:Int) (y372:Int) (y373:Int) (y374:Int) (y375:Int) (y376:Int) (y377:Int) (y378:List (List Int)) (answer379:List Int) (code380:Int) (y381:Int):Option ((Int×Int×List (List Int)×List (List Int)×Int×Bool×List Int×Int×Int×Int×Int×Int×Int×Int×Int×Int×List (List Int)×List Int×Int×Int)⊕(Int×Int×List (List Int)×List (List Int)×Int×Bool×List Int×Int×Int×Int×Int×Int×Int×Int×Int×Int×List Int×Int)) :=
 cond (decide (y381<c53.Tries)) (((zbc (⟨(⟨y362,y363,y364,y365⟩:zab),y366,y367,(⟨y368,y369⟩:zav),(⟨y370,y371,y372⟩:zbg),y373,y374,y375,y376⟩:zaf) w_).bind fun c445=>cond (decide (c445.2.2≠0)) (some (.inl (c445.1.M.Inputs,c445.1.M.Start,c445.1.M.Next,c445.1.M.Out,c445.1.State,c445.1.Ready,c445.1.Latency.Step,c445.1.Latency.Reset,c445.1.Faults.Lost,c445.1.Faults.Wrong,c445.1.Faults.Crash,c445.1.Seed,c445.1.Steps,c445.1.Resets,c445.1.Time,y378,answer379,code380))) (chk (capOk (List.length y378+1) 24) ((zbv (y378++[c445.2.1]) c53.Votes).bind fun c448=>cond (decide (c448.2.1=0)) (some (.inr (.inr (c445.1.M.Inputs,c445.1.M.Start,c445.1.M.Next,c445.1.M.Out,c445.1.State,c445.1.Ready,c445.1.Latency.Step,c445.1.Latency.Reset,c445.1.Faults.Lost,c445.1.Faults.Wrong,c445.1.Faults.Crash,c445.1.Seed,c445.1.Steps,c445.1.Resets,c445.1.Time,(mdI (y377+1)),c448.1,c448.2.1)))) (some (.inl (c445.1.M.Inputs,c445.1.M.Start,c445.1.M.Next,c445.1.M.Out,c445.1.State,c445.1.Ready,c445.1.Latency.Step,c445.1.Latency.Reset,c445.1.Faults.Lost,c445.1.Faults.Wrong,c445.1.Faults.Crash,c445.1.Seed,c445.1.Steps,c445.1.Resets,c445.1.Time,c448.2.2,c448.1,c448.2.1))))):Option ((Int×Int×List (List Int)×List (List Int)×Int×Bool×List Int×Int×Int×Int×Int×Int×Int×Int×Int×List (List Int)×List Int×Int)⊕((Int×Int×List (List Int)×List (List Int)×Int×Bool×List Int×Int×Int×Int×Int×Int×Int×Int×Int×Int×List (List Int)×List Int×Int×Int)⊕(Int×Int×List (List Int)×List (List Int)×Int×Bool×List Int×Int×Int×Int×Int×Int×Int×Int×Int×Int×List Int×Int)))).bind (Sum.elim (fun (s:Int×Int×List (List Int)×List (List Int)×Int×Bool×List Int×Int×Int×Int×Int×Int×Int×Int×Int×List (List Int)×List Int×Int)=>zbl.k9 y377 y381 s.1 s.2.1 s.2.2.1 s.2.2.2.1 s.2.2.2.2.1 s.2.2.2.2.2.1 s.2.2.2.2.2.2.1 s.2.2.2.2.2.2.2.1 s.2.2.2.2.2.2.2.2.1 s.2.2.2.2.2.2.2.2.2.1 s.2.2.2.2.2.2.2.2.2.2.1 s.2.2.2.2.2.2.2.2.2.2.2.1 s.2.2.2.2.2.2.2.2.2.2.2.2.1 s.2.2.2.2.2.2.2.2.2.2.2.2.2.1 s.2.2.2.2.2.2.2.2.2.2.2.2.2.2.1 s.2.2.2.2.2.2.2.2.2.2.2.2.2.2.2.1 s.2.2.2.2.2.2.2.2.2.2.2.2.2.2.2.2.1 s.2.2.2.2.2.2.2.2.2.2.2.2.2.2.2.2.2) some)) (some (.inr (y362,y363,y364,y365,y366,y367,y368,y369,y370,y371,y372,y373,y374,y375,y376,y377,answer379,code380)))
def zbl.k11 (w_:List Int) (c53:zae) (y252:Int) (y253:Int) (y254:List (List Int)) (y255:List (List Int)) (y256:Int) (y257:Bool) (y258:List Int) (y259:Int) (y260:Int) (y261:Int) (y262:Int) (y263:Int) (y264:Int) (y265:Int) (y266:Int) (y267:Int) (answer268:List Int) (code269:Int):Option (zae×List Int×Int) :=
 cond (decide (code269≠0)) (some ((⟨(⟨(⟨y252,y253,y254,y255⟩:zab),y256,y257,(⟨y258,y259⟩:zav),(⟨y260,y261,y262⟩:zbg),y263,y264,y265,y266⟩:zaf),c53.Obs,c53.Votes,c53.Tries,y267,c53.Hits⟩:zae),[],code269)) ((zba w_).bind fun c471=>(zba answer268).bind fun c472=>(ze8 c53.Obs (⟨c471,c472⟩:zaa)).bind fun c473=>cond (decide (c473.2≠0)) (some ((⟨(⟨(⟨y252,y253,y254,y255⟩:zab),y256,y257,(⟨y258,y259⟩:zav),(⟨y260,y261,y262⟩:zbg),y263,y264,y265,y266⟩:zaf),c53.Obs,c53.Votes,c53.Tries,y267,c53.Hits⟩:zae),[],c473.2)) ((zba answer268).bind fun c475=>some ((⟨(⟨(⟨y252,y253,y254,y255⟩:zab),y256,y257,(⟨y258,y259⟩:zav),(⟨y260,y261,y262⟩:zbg),y263,y264,y265,y266⟩:zaf),c473.1,c53.Votes,c53.Tries,y267,c53.Hits⟩:zae),c475,0)))
def zbl (q_:zae) (w_:List Int):Option (zae×List Int×Int) :=
 (zc6 w_ q_.Device.M.Inputs).bind fun c51=>cond (decide (c51≠0)) (some (q_,[],c51)) ((zbx q_).bind fun c53=>(zdi c53.Obs w_).bind fun c54=>cond (c54.2) ((zba c54.1).bind fun c56=>some ((⟨c53.Device,c53.Obs,c53.Votes,c53.Tries,c53.Asked,(mdI (c53.Hits+1))⟩:zae),c56,0)) ((iter (fun (s:Int×Int×List (List Int)×List (List Int)×Int×Bool×List Int×Int×Int×Int×Int×Int×Int×Int×Int×Int×List (List Int)×List Int×Int×Int)=>zbl.s10 w_ c53 s.1 s.2.1 s.2.2.1 s.2.2.2.1 s.2.2.2.2.1 s.2.2.2.2.2.1 s.2.2.2.2.2.2.1 s.2.2.2.2.2.2.2.1 s.2.2.2.2.2.2.2.2.1 s.2.2.2.2.2.2.2.2.2.1 s.2.2.2.2.2.2.2.2.2.2.1 s.2.2.2.2.2.2.2.2.2.2.2.1 s.2.2.2.2.2.2.2.2.2.2.2.2.1 s.2.2.2.2.2.2.2.2.2.2.2.2.2.1 s.2.2.2.2.2.2.2.2.2.2.2.2.2.2.1 s.2.2.2.2.2.2.2.2.2.2.2.2.2.2.2.1 s.2.2.2.2.2.2.2.2.2.2.2.2.2.2.2.2.1 s.2.2.2.2.2.2.2.2.2.2.2.2.2.2.2.2.2.1 s.2.2.2.2.2.2.2.2.2.2.2.2.2.2.2.2.2.2.1 s.2.2.2.2.2.2.2.2.2.2.2.2.2.2.2.2.2.2.2) fuel (c53.Device.M.Inputs,c53.Device.M.Start,c53.Device.M.Next,c53.Device.M.Out,c53.Device.State,c53.Device.Ready,c53.Device.Latency.Step,c53.Device.Latency.Reset,c53.Device.Faults.Lost,c53.Device.Faults.Wrong,c53.Device.Faults.Crash,c53.Device.Seed,c53.Device.Steps,c53.Device.Resets,c53.Device.Time,c53.Asked,[],[],14,0):Option (Int×Int×List (List Int)×List (List Int)×Int×Bool×List Int×Int×Int×Int×Int×Int×Int×Int×Int×Int×List Int×Int)).bind (fun (s:Int×Int×List (List Int)×List (List Int)×Int×Bool×List Int×Int×Int×Int×Int×Int×Int×Int×Int×Int×List Int×Int)=>zbl.k11 w_ c53 s.1 s.2.1 s.2.2.1 s.2.2.2.1 s.2.2.2.2.1 s.2.2.2.2.2.1 s.2.2.2.2.2.2.1 s.2.2.2.2.2.2.2.1 s.2.2.2.2.2.2.2.2.1 s.2.2.2.2.2.2.2.2.2.1 s.2.2.2.2.2.2.2.2.2.2.1 s.2.2.2.2.2.2.2.2.2.2.2.1 s.2.2.2.2.2.2.2.2.2.2.2.2.1 s.2.2.2.2.2.2.2.2.2.2.2.2.2.1 s.2.2.2.2.2.2.2.2.2.2.2.2.2.2.1 s.2.2.2.2.2.2.2.2.2.2.2.2.2.2.2.1 s.2.2.2.2.2.2.2.2.2.2.2.2.2.2.2.2.1 s.2.2.2.2.2.2.2.2.2.2.2.2.2.2.2.2.2)))
def zas.s2 (q_:zae) (b_:za0) (y78:Nat):Option (Nat⊕(Unit⊕(zae×zai×Int))) :=
 cond (decide ((↑y78:Int)<(↑(List.length b_.Words):Int))) (idxn b_.Words y78 fun e85=>(zc6 e85 b_.M.Inputs).bind fun c86=>cond (decide (c86≠0)) (some (.inr (.inr (q_,(⟨0,[]⟩:zai),c86)))) (some (.inl (y78+1)))) (some (.inr (.inl ())))
def zas.k20 (c695:zae×List Int×Int) (y700:Int) (y701:Int) (y702:List (List Int)) (y703:List (List Int)) (y704:Int) (y705:List zaa) (e706:Int):Option ((Int×Int×List (List Int)×List (List Int)×Int×Bool×List Int×Int×Int×Int×Int×Int×Int×Int×Int×Int×List zaa×Int×Int×Int×Int×Int×Int×List (List Int)×List (List Int)×Int×List zaa)⊕((Int×Int×List (List Int)×List (List Int)×Int×Bool×List Int×Int×Int×Int×Int×Int×Int×Int×Int×Int×List zaa×Int×Int×Int×Int×Int×Int×List (List Int)×List (List Int)×Int×List zaa×Nat)⊕((Int×Int×List (List Int)×List (List Int)×Int×Bool×List Int×Int×Int×Int×Int×Int×Int×Int×Int×Int×List zaa×Int×Int×Int×Int×Int×Int×List (List Int)×List (List Int)×Int×List zaa)⊕(zae×zai×Int)))) :=
 cond (decide (e706≠0)) (some (.inr (.inr (.inr (c695.1,(⟨0,[]⟩:zai),e706))))) (some (.inl (c695.1.Device.M.Inputs,c695.1.Device.M.Start,c695.1.Device.M.Next,c695.1.Device.M.Out,c695.1.Device.State,c695.1.Device.Ready,c695.1.Device.Latency.Step,c695.1.Device.Latency.Reset,c695.1.Device.Faults.Lost,c695.1.Device.Faults.Wrong,c695.1.Device.Faults.Crash,c695.1.Device.Seed,c695.1.Device.Steps,c695.1.Device.Resets,c695.1.Device.Time,c695.1.Obs.Inputs,c695.1.Obs.Traces,c695.1.Votes,c695.1.Tries,c695.1.Asked,c695.1.Hits,y700,y701,y702,y703,y704,y705)))
def zas.k21 (y546:Nat) (y665:Int) (y666:Int) (y667:List (List Int)) (y668:List (List Int)) (y669:Int) (y670:Bool) (y671:List Int) (y672:Int) (y673:Int) (y674:Int) (y675:Int) (y676:Int) (y677:Int) (y678:Int) (y679:Int) (y680:Int) (y681:List zaa) (y682:Int) (y683:Int) (y684:Int) (y685:Int) (y686:Int) (y687:Int) (y688:List (List Int)) (y689:List (List Int)) (y690:Int) (y691:List zaa):Option ((Int×Int×List (List Int)×List (List Int)×Int×Bool×List Int×Int×Int×Int×Int×Int×Int×Int×Int×Int×List zaa×Int×Int×Int×Int×Int×Int×List (List Int)×List (List Int)×Int×List zaa×Nat)⊕((Int×Int×List (List Int)×List (List Int)×Int×Bool×List Int×Int×Int×Int×Int×Int×Int×Int×Int×Int×List zaa×Int×Int×Int×Int×Int×Int×List (List Int)×List (List Int)×Int×List zaa)⊕(zae×zai×Int))) :=
 some (.inl (y665,y666,y667,y668,y669,y670,y671,y672,y673,y674,y675,y676,y677,y678,y679,y680,y681,y682,y683,y684,y685,y686,y687,y688,y689,y690,y691,(y546+1)))
def zas.s22 (b_:za0) (y519:Int) (y520:Int) (y521:List (List Int)) (y522:List (List Int)) (y523:Int) (y524:Bool) (y525:List Int) (y526:Int) (y527:Int) (y528:Int) (y529:Int) (y530:Int) (y531:Int) (y532:Int) (y533:Int) (y534:Int) (y535:List zaa) (y536:Int) (y537:Int) (y538:Int) (y539:Int) (y540:Int) (y541:Int) (y542:List (List Int)) (y543:List (List Int)) (y544:Int) (y545:List zaa) (y546:Nat):Option ((Int×Int×List (List Int)×List (List Int)×Int×Bool×List Int×Int×Int×Int×Int×Int×Int×Int×Int×Int×List zaa×Int×Int×Int×Int×Int×Int×List (List Int)×List (List Int)×Int×List zaa×Nat)⊕((Int×Int×List (List Int)×List (List Int)×Int×Bool×List Int×Int×Int×Int×Int×Int×Int×Int×Int×Int×List zaa×Int×Int×Int×Int×Int×Int×List (List Int)×List (List Int)×Int×List zaa)⊕(zae×zai×Int))) :=
 cond (decide ((↑y546:Int)<(↑(List.length b_.Words):Int))) ((idxn b_.Words y546 fun e692=>(zb3 (⟨(⟨y540,y541,y542,y543⟩:zab),(⟨y544,y545⟩:zai)⟩:zau) e692).bind fun c693=>cond ((!c693.1)) (some (.inl (y519,y520,y521,y522,y523,y524,y525,y526,y527,y528,y529,y530,y531,y532,y533,y534,y535,y536,y537,y538,y539,y540,y541,y542,y543,y544,c693.2.report.Changes))) ((zbl (⟨(⟨(⟨y519,y520,y521,y522⟩:zab),y523,y524,(⟨y525,y526⟩:zav),(⟨y527,y528,y529⟩:zbg),y530,y531,y532,y533⟩:zaf),(⟨y534,y535⟩:zam),y536,y537,y538,y539⟩:zae) e692).bind fun c695=>(cond (decide (c695.2.2=0)) ((zce (⟨(⟨y540,y541,y542,y543⟩:zab),(⟨y544,c693.2.report.Changes⟩:zai)⟩:zau) e692 c695.2.1).bind fun c708=>some (c708.2.m.Inputs,c708.2.m.Start,c708.2.m.Next,c708.2.m.Out,c708.2.report.Run,c708.2.report.Changes,c708.1)) (some (y540,y541,y542,y543,y544,c693.2.report.Changes,c695.2.2)):Option (Int×Int×List (List Int)×List (List Int)×Int×List zaa×Int)).bind (fun (s:Int×Int×List (List Int)×List (List Int)×Int×List zaa×Int)=>zas.k20 c695 s.1 s.2.1 s.2.2.1 s.2.2.2.1 s.2.2.2.2.1 s.2.2.2.2.2.1 s.2.2.2.2.2.2)):Option ((Int×Int×List (List Int)×List (List Int)×Int×Bool×List Int×Int×Int×Int×Int×Int×Int×Int×Int×Int×List zaa×Int×Int×Int×Int×Int×Int×List (List Int)×List (List Int)×Int×List zaa)⊕((Int×Int×List (List Int)×List (List Int)×Int×Bool×List Int×Int×Int×Int×Int×Int×Int×Int×Int×Int×List zaa×Int×Int×Int×Int×Int×Int×List (List Int)×List (List Int)×Int×List zaa×Nat)⊕((Int×Int×List (List Int)×List (List Int)×Int×Bool×List Int×Int×Int×Int×Int×Int×Int×Int×Int×Int×List zaa×Int×Int×Int×Int×Int×Int×List (List Int)×List (List Int)×Int×List zaa)⊕(zae×zai×Int))))).bind (Sum.elim (fun (s:Int×Int×List (List Int)×List (List Int)×Int×Bool×List Int×Int×Int×Int×Int×Int×Int×Int×Int×Int×List zaa×Int×Int×Int×Int×Int×Int×List (List Int)×List (List Int)×Int×List zaa)=>zas.k21 y546 s.1 s.2.1 s.2.2.1 s.2.2.2.1 s.2.2.2.2.1 s.2.2.2.2.2.1 s.2.2.2.2.2.2.1 s.2.2.2.2.2.2.2.1 s.2.2.2.2.2.2.2.2.1 s.2.2.2.2.2.2.2.2.2.1 s.2.2.2.2.2.2.2.2.2.2.1 s.2.2.2.2.2.2.2.2.2.2.2.1 s.2.2.2.2.2.2.2.2.2.2.2.2.1 s.2.2.2.2.2.2.2.2.2.2.2.2.2.1 s.2.2.2.2.2.2.2.2.2.2.2.2.2.2.1 s.2.2.2.2.2.2.2.2.2.2.2.2.2.2.2.1 s.2.2.2.2.2.2.2.2.2.2.2.2.2.2.2.2.1 s.2.2.2.2.2.2.2.2.2.2.2.2.2.2.2.2.2.1 s.2.2.2.2.2.2.2.2.2.2.2.2.2.2.2.2.2.2.1 s.2.2.2.2.2.2.2.2.2.2.2.2.2.2.2.2.2.2.2.1 s.2.2.2.2.2.2.2.2.2.2.2.2.2.2.2.2.2.2.2.2.1 s.2.2.2.2.2.2.2.2.2.2.2.2.2.2.2.2.2.2.2.2.2.1 s.2.2.2.2.2.2.2.2.2.2.2.2.2.2.2.2.2.2.2.2.2.2.1 s.2.2.2.2.2.2.2.2.2.2.2.2.2.2.2.2.2.2.2.2.2.2.2.1 s.2.2.2.2.2.2.2.2.2.2.2.2.2.2.2.2.2.2.2.2.2.2.2.2.1 s.2.2.2.2.2.2.2.2.2.2.2.2.2.2.2.2.2.2.2.2.2.2.2.2.2.1 s.2.2.2.2.2.2.2.2.2.2.2.2.2.2.2.2.2.2.2.2.2.2.2.2.2.2) some)) (some (.inr (.inl (y519,y520,y521,y522,y523,y524,y525,y526,y527,y528,y529,y530,y531,y532,y533,y534,y535,y536,y537,y538,y539,y540,y541,y542,y543,y544,y545))))
def zas.k23 (y403:Int) (y404:Int) (y405:List (List Int)) (y406:List (List Int)) (y407:Int) (y408:Bool) (y409:List Int) (y410:Int) (y411:Int) (y412:Int) (y413:Int) (y414:Int) (y415:Int) (y416:Int) (y417:Int) (y418:Int) (y419:List zaa) (y420:Int) (y421:Int) (y422:Int) (y423:Int) (y424:Int) (y425:Int) (y426:List (List Int)) (y427:List (List Int)) (y428:Int) (y429:List zaa):Option (zae×zai×Int) :=
 some ((⟨(⟨(⟨y403,y404,y405,y406⟩:zab),y407,y408,(⟨y409,y410⟩:zav),(⟨y411,y412,y413⟩:zbg),y414,y415,y416,y417⟩:zaf),(⟨y418,y419⟩:zam),y420,y421,y422,y423⟩:zae),(⟨y428,y429⟩:zai),0)
def zas (q_:zae) (b_:za0):Option (zae×zai×Int) :=
 (zap b_.M).bind fun c51=>cond (decide (c51≠0)) (some (q_,(⟨0,[]⟩:zai),c51)) (cond (decide (10000<(↑(List.length b_.Words):Int))) (some (q_,(⟨0,[]⟩:zai),11)) ((iter (fun (s:Nat)=>zas.s2 q_ b_ s) fuel 0:Option (Unit⊕(zae×zai×Int))).bind (Sum.elim (fun (_:Unit)=>cond (decide (q_.Obs.Inputs≠b_.M.Inputs)) (some (q_,(⟨0,[]⟩:zai),15)) ((iter (fun (s:Int×Int×List (List Int)×List (List Int)×Int×Bool×List Int×Int×Int×Int×Int×Int×Int×Int×Int×Int×List zaa×Int×Int×Int×Int×Int×Int×List (List Int)×List (List Int)×Int×List zaa×Nat)=>zas.s22 b_ s.1 s.2.1 s.2.2.1 s.2.2.2.1 s.2.2.2.2.1 s.2.2.2.2.2.1 s.2.2.2.2.2.2.1 s.2.2.2.2.2.2.2.1 s.2.2.2.2.2.2.2.2.1 s.2.2.2.2.2.2.2.2.2.1 s.2.2.2.2.2.2.2.2.2.2.1 s.2.2.2.2.2.2.2.2.2.2.2.1 s.2.2.2.2.2.2.2.2.2.2.2.2.1 s.2.2.2.2.2.2.2.2.2.2.2.2.2.1 s.2.2.2.2.2.2.2.2.2.2.2.2.2.2.1 s.2.2.2.2.2.2.2.2.2.2.2.2.2.2.2.1 s.2.2.2.2.2.2.2.2.2.2.2.2.2.2.2.2.1 s.2.2.2.2.2.2.2.2.2.2.2.2.2.2.2.2.2.1 s.2.2.2.2.2.2.2.2.2.2.2.2.2.2.2.2.2.2.1 s.2.2.2.2.2.2.2.2.2.2.2.2.2.2.2.2.2.2.2.1 s.2.2.2.2.2.2.2.2.2.2.2.2.2.2.2.2.2.2.2.2.1 s.2.2.2.2.2.2.2.2.2.2.2.2.2.2.2.2.2.2.2.2.2.1 s.2.2.2.2.2.2.2.2.2.2.2.2.2.2.2.2.2.2.2.2.2.2.1 s.2.2.2.2.2.2.2.2.2.2.2.2.2.2.2.2.2.2.2.2.2.2.2.1 s.2.2.2.2.2.2.2.2.2.2.2.2.2.2.2.2.2.2.2.2.2.2.2.2.1 s.2.2.2.2.2.2.2.2.2.2.2.2.2.2.2.2.2.2.2.2.2.2.2.2.2.1 s.2.2.2.2.2.2.2.2.2.2.2.2.2.2.2.2.2.2.2.2.2.2.2.2.2.2.1 s.2.2.2.2.2.2.2.2.2.2.2.2.2.2.2.2.2.2.2.2.2.2.2.2.2.2.2) fuel (q_.Device.M.Inputs,q_.Device.M.Start,q_.Device.M.Next,q_.Device.M.Out,q_.Device.State,q_.Device.Ready,q_.Device.Latency.Step,q_.Device.Latency.Reset,q_.Device.Faults.Lost,q_.Device.Faults.Wrong,q_.Device.Faults.Crash,q_.Device.Seed,q_.Device.Steps,q_.Device.Resets,q_.Device.Time,q_.Obs.Inputs,q_.Obs.Traces,q_.Votes,q_.Tries,q_.Asked,q_.Hits,b_.M.Inputs,b_.M.Start,b_.M.Next,b_.M.Out,0,[],0):Option ((Int×Int×List (List Int)×List (List Int)×Int×Bool×List Int×Int×Int×Int×Int×Int×Int×Int×Int×Int×List zaa×Int×Int×Int×Int×Int×Int×List (List Int)×List (List Int)×Int×List zaa)⊕(zae×zai×Int))).bind (Sum.elim (fun (s:Int×Int×List (List Int)×List (List Int)×Int×Bool×List Int×Int×Int×Int×Int×Int×Int×Int×Int×Int×List zaa×Int×Int×Int×Int×Int×Int×List (List Int)×List (List Int)×Int×List zaa)=>zas.k23 s.1 s.2.1 s.2.2.1 s.2.2.2.1 s.2.2.2.2.1 s.2.2.2.2.2.1 s.2.2.2.2.2.2.1 s.2.2.2.2.2.2.2.1 s.2.2.2.2.2.2.2.2.1 s.2.2.2.2.2.2.2.2.2.1 s.2.2.2.2.2.2.2.2.2.2.1 s.2.2.2.2.2.2.2.2.2.2.2.1 s.2.2.2.2.2.2.2.2.2.2.2.2.1 s.2.2.2.2.2.2.2.2.2.2.2.2.2.1 s.2.2.2.2.2.2.2.2.2.2.2.2.2.2.1 s.2.2.2.2.2.2.2.2.2.2.2.2.2.2.2.1 s.2.2.2.2.2.2.2.2.2.2.2.2.2.2.2.2.1 s.2.2.2.2.2.2.2.2.2.2.2.2.2.2.2.2.2.1 s.2.2.2.2.2.2.2.2.2.2.2.2.2.2.2.2.2.2.1 s.2.2.2.2.2.2.2.2.2.2.2.2.2.2.2.2.2.2.2.1 s.2.2.2.2.2.2.2.2.2.2.2.2.2.2.2.2.2.2.2.2.1 s.2.2.2.2.2.2.2.2.2.2.2.2.2.2.2.2.2.2.2.2.2.1 s.2.2.2.2.2.2.2.2.2.2.2.2.2.2.2.2.2.2.2.2.2.2.1 s.2.2.2.2.2.2.2.2.2.2.2.2.2.2.2.2.2.2.2.2.2.2.2.1 s.2.2.2.2.2.2.2.2.2.2.2.2.2.2.2.2.2.2.2.2.2.2.2.2.1 s.2.2.2.2.2.2.2.2.2.2.2.2.2.2.2.2.2.2.2.2.2.2.2.2.2.1 s.2.2.2.2.2.2.2.2.2.2.2.2.2.2.2.2.2.2.2.2.2.2.2.2.2.2) some))) some)))
def zaq.s13 (c70:zae×zai×Int) (i899:Nat) (e1105:zaa) (k1249:Nat):Option (Nat⊕(Unit⊕(Nat⊕(Unit⊕Bool)))) :=
 cond (decide ((↑k1249:Int)<(↑i899:Int))) ((idxn c70.2.1.Changes k1249 fun e1282=>(zcw e1105.In e1282.In).bind fun c1283=>cond (c1283) (some true) (idxn c70.2.1.Changes k1249 fun e1285=>(zcw e1285.In e1105.In).bind fun c1286=>some c1286):Option (Bool)).bind (fun (y1281:Bool)=>cond (y1281) (some (.inr (.inr (.inr (.inr false))))) (some (.inl (k1249+1))))) (some (.inr (.inl ())))
def zaq.s14 (b_:za0) (c70:zae×zai×Int) (i899:Nat):Option (Nat⊕(Unit⊕Bool)) :=
 cond (decide ((↑i899:Int)<(↑(List.length c70.2.1.Changes):Int))) (idxn c70.2.1.Changes i899 fun e1105=>(zdi c70.1.Obs e1105.In).bind fun c1106=>(zfe b_.M e1105.In).bind fun c1107=>(cond ((!c1106.2)) (some true) (cond (decide (c1107.2≠0)) (some true) (cond (decide ((↑(List.length e1105.In):Int)=0)) (some true) ((R06_Ints c1106.1 e1105.Out).bind fun c1130=>cond ((!c1130)) (some true) (cond (decide ((↑(List.length c1107.1):Int)≠(↑(List.length e1105.In):Int))) (some true) (chk (inR ((↑(List.length e1105.In):Int)-1)) (chk ((0:Int)≤((↑(List.length e1105.In):Int)-1)∧((↑(List.length e1105.In):Int)-1)≤(↑(List.length c1106.1):Int)) (chk (inR ((↑(List.length e1105.In):Int)-1)) (chk ((0:Int)≤((↑(List.length e1105.In):Int)-1)∧((↑(List.length e1105.In):Int)-1)≤(↑(List.length c1107.1):Int)) ((R06_Ints (List.take (Int.toNat ((↑(List.length e1105.In):Int)-1)) c1106.1) (List.take (Int.toNat ((↑(List.length e1105.In):Int)-1)) c1107.1)).bind fun c1137=>cond ((!c1137)) (some true) (chk (inR ((↑(List.length e1105.In):Int)-1)) (idx c1106.1 ((↑(List.length e1105.In):Int)-1) fun e1140=>chk (inR ((↑(List.length e1105.In):Int)-1)) (idx c1107.1 ((↑(List.length e1105.In):Int)-1) fun e1142=>some (decide (e1140=e1142)))))))))))))):Option (Bool)).bind (fun (y1126:Bool)=>cond (y1126) (some (.inr (.inr false))) ((iter (fun (s:Nat)=>zaq.s13 c70 i899 e1105 s) fuel 0:Option (Unit⊕(Nat⊕(Unit⊕Bool)))).bind (Sum.elim (fun (_:Unit)=>some (.inl (i899+1))) some)))) (some (.inr (.inl ())))
def zaq (q_:zae) (b_:za0):Option (Bool) :=
 ((zgx q_).bind fun c61=>cond (c61) (some true) ((zhh b_.M).bind fun c63=>cond (c63) (some true) ((L06_Long b_.Words).bind fun c65=>cond (c65) (some true) ((zg7 q_).bind fun c67=>some (!c67)))):Option (Bool)).bind (fun (y60:Bool)=>cond (y60) ((zga).bind fun c69=>some c69) ((zas q_ b_).bind fun c70=>cond (decide (c70.2.2≠0)) ((cond (decide ((↑(List.length c70.2.1.Changes):Int)=0)) ((zga).bind fun c78=>some c78) (some false):Option (Bool)).bind (fun (y76:Bool)=>some y76)) ((iter (fun (s:Nat)=>zaq.s14 b_ c70 s) fuel 0:Option (Unit⊕Bool)).bind (Sum.elim (fun (_:Unit)=>(cond (decide ((↑(List.length c70.2.1.Changes):Int)≤c70.2.1.Run)) (cond (decide (c70.2.1.Run≤(↑(List.length b_.Words):Int))) ((zga).bind fun c1321=>some c1321) (some false)) (some false):Option (Bool)).bind (fun (y1318:Bool)=>some y1318)) some))))
end Go.Proofs.YtcneaiejdidooaaGreatDoor.Sym

/-
 Laws of rounds: what a loop comes to, in plain words. No program in sight.
-/
namespace Go.Proofs.YtcneaiejdidooaaGreatDoor.Sym
section
variable {S R A B α β:Type}
theorem zci {step:S→Option (S⊕R)} (I:S→Prop) (m:S→Nat) (Q:R→Prop) (h:∀ s,I s→(∃ s',step s=some (.inl s')∧I s'∧m s'<m s)∨∃ r,step s=some (.inr r)∧Q r) :
  ∀ (n:Nat) (s:S),I s→m s<n→∃ r,iter step n s=some r∧Q r
 | 0,_,_,hm=>absurd hm (Nat.not_lt_zero _)
 | n+1,s,hi,hm=>by
  unfold iter
  rcases h s hi with ⟨s',e,hi',hm'⟩ | ⟨r,e,hq⟩
  ·rw [e]
   exact zci I m Q h n s' hi' (by omega)
  ·rw [e]
   exact ⟨r,rfl,hq⟩
theorem iter_eq {step:S→Option (S⊕R)} {r:R} (I:S→Prop) (m:S→Nat) (h:∀ s,I s→(∃ s',step s=some (.inl s')∧I s'∧m s'<m s)∨step s=some (.inr r)) {n:Nat} {s:S} (hi:I s) (hm:m s<n):iter step n s=some r:=by
 obtain ⟨r',e,rfl⟩:=zci I m (fun r'=>r'=r) (fun s hs=>(h s hs).imp id fun e=>⟨r,e,rfl⟩) n s hi hm
 exact e
def walk (g:A→Nat→α→Option (A⊕R)) (fin:A→Option R):A→Nat→List α→Option R
 | a,_,[]=>fin a
 | a,i,x::l=>(g a i x).bind (Sum.elim (fun a'=>walk g fin a' (i+1) l) some)
theorem idxn_at {l:List α} {i:Nat} {x:α} {k:α→Option β} (h:l[i]?=some x):idxn l i k=k x:=by unfold idxn;rw [h]
theorem idx_at {l:List α} {n:Int} {i:Nat} {x:α} {k:α→Option β} (hn:n=(i:Int)) (h:l[i]?=some x):idx l n k=k x:=by
 subst hn
 unfold idx
 rw [if_pos (by omega),Int.toNat_natCast,h]
theorem chk_pos {c:Prop} [Decidable c] {k:Option α} (h:c):chk c k=k:=by unfold chk;rw [if_pos h]
theorem obind {a:α} {f:α→Option β}:(some a).bind f=f a:=(Option.bind_some a f).trans (Eq.trans rfl rfl)
theorem fuel_big:100000000000000<fuel:=by unfold fuel;omega
theorem dec_lt {l:List α} {i:Nat} {x:α} (h:l[i]?=some x):decide ((↑i:Int)<(↑l.length:Int))=true:=by
 have:=(List.getElem?_eq_some_iff.1 h).1
 simpa using this
theorem dec_end (l:List α):decide ((↑l.length:Int)<(↑l.length:Int))=false:=by simp
def scan (g:Nat→α→Option R):Nat→List α→Option R
 | _,[]=>none
 | i,x::l=>match g i x with | some r=>some r | none=>scan g (i+1) l
theorem ze7 {g:Nat→α→Option R}:∀ {l:List α} {j:Nat},scan g j l=none↔∀ i x,l[i]?=some x→g (j+i) x=none
 | [],j=>by simp [scan]
 | y::l,j=>by
  constructor
  ·intro h i x hx
   unfold scan at h
   cases e:g j y with
   | some r=>rw [e] at h;cases h
   | none =>
    rw [e] at h
    match i,hx with
    | 0,hx =>
     simp at hx
     subst hx
     exact e
    | i+1,hx =>
     have:=(ze7 (g:=g) (l:=l) (j:=j+1)).1 h i x (by simpa using hx)
     rwa [show j+1+i=j+(i+1) by omega] at this
  ·intro h
   unfold scan
   have h0:=h 0 y rfl
   rw [Nat.add_zero] at h0
   rw [h0]
   exact (ze7 (g:=g) (l:=l) (j:=j+1)).2 fun i x hx=>by
    have:=h (i+1) x (by simpa using hx)
    rwa [show j+(i+1)=j+1+i by omega] at this
theorem zcx {step:Nat→Option (Nat⊕(Unit⊕R))} {l:List α} (g:Nat→α→Option R) (h1:∀ i x,l[i]?=some x→step i=some (match g i x with | some r=>.inr (.inr r) | none=>.inl (i+1))) (h2:step l.length=some (.inr (.inl ()))) (hl:l.length≤100000000000000) :
  iter step fuel 0=some (match scan g 0 l with | some r=>.inr r | none=>.inl ()):=by
 have key:∀ (n i:Nat),i≤l.length→l.length-i<n→iter step n i=some (match scan g i (l.drop i) with | some r=>.inr r | none=>.inl ()):=by
  intro n
  induction n with
  | zero=>intro i _ h;omega
  | succ n ih =>
   intro i hi hn
   rcases Nat.lt_or_ge i l.length with h | h
   ·rw [List.drop_eq_getElem_cons h]
    unfold iter scan
    rw [h1 i _ (List.getElem?_eq_getElem h)]
    cases g i l[i] with
    | some r=>rfl
    | none=>exact ih (i+1) h (by omega)
   ·have e:i=l.length:=by omega
    subst e
    rw [List.drop_length]
    unfold iter scan
    rw [h2]
 exact key fuel 0 (Nat.zero_le _) (by have:=fuel_big;omega)
end
end Go.Proofs.YtcneaiejdidooaaGreatDoor.Sym

/-
 The comparisons of words are what they say; they may be handed to a sort.
-/
namespace Go.Proofs.YtcneaiejdidooaaGreatDoor.Sym
open Go.RowKit
set_option maxRecDepth 100000
theorem zfq (x y:Int):cmp_Compare_int x y=some (cmpI x y):=by
 unfold cmp_Compare_int cmp_isNaN_int cmpI
 by_cases h1:x<y
 ·simp [h1]
 ·by_cases h2:y<x<;>simp [h1,h2]
theorem zf3 (s t:List Int) (hs:s.length≤100000000000000):zax s t=some (lexI s t):=by
 have key:=zci (step:=fun k=>zax.s2 s t k) (fun k=>k≤s.length∧k≤t.length∧lexI s t=lexI (s.drop k) (t.drop k)) (fun k=>s.length-k)
  (fun r=>Sum.elim (fun (_:Unit)=>cond (decide ((↑(List.length s):Int)<(↑(List.length t):Int))) (some (-1:Int)) (some 0)) some r=some (lexI s t)) (fun k ⟨h1,h2,h3⟩=>by
   unfold zax.s2
   rcases Nat.lt_or_ge k s.length with h | h
   ·have hx:=List.getElem?_eq_getElem h
    rw [dec_lt hx,cond_true,idxn_at hx]
    by_cases h4:t.length≤k
    ·right
     refine ⟨.inr 1,by simp [h4],?_⟩
     rw [h3,lexI_long h h4]
     rfl
    ·have hy:=List.getElem?_eq_getElem (show k<t.length by omega)
     have hst:=lexI_step hx hy
     have d4:decide ((↑(List.length t):Int)≤(↑k:Int))=false:=by simp;omega
     rw [d4,cond_false,idxn_at hy,zfq]
     by_cases h5:cmpI s[k] t[k]=0
     ·left
      rw [if_pos h5] at hst
      exact ⟨k+1,by simp [h5],⟨by omega,by omega,by rw [h3,hst]⟩,by omega⟩
     ·right
      rw [if_neg h5] at hst
      exact ⟨.inr (cmpI s[k] t[k]),by simp [h5],by rw [h3,hst];rfl⟩
   ·right
    have e:k=s.length:=by omega
    subst e
    rw [dec_end,cond_false]
    refine ⟨.inl (),rfl,?_⟩
    rw [h3,lexI_end (Nat.le_refl _)]
    by_cases h4:s.length<t.length<;>simp [h4]) fuel 0 ⟨Nat.zero_le _,Nat.zero_le _,rfl⟩ (by have:=fuel_big;simp only [Nat.sub_zero];omega)
 obtain ⟨r,e,hq⟩:=key
 unfold zax
 rw [e]
 exact hq
theorem cmp_Or_two (x y:Int):zcm [x,y]=some (if x≠0 then x else y):=by
 unfold zcm
 have e:fuel=(fuel-3)+1+1+1:=by unfold fuel;omega
 rw [e]
 by_cases h1:x=0
 ·by_cases h2:y=0
  ·simp [iter,zcm.s2,idxn,h1,h2]
  ·simp [iter,zcm.s2,idxn,h1,h2]
 ·simp [iter,zcm.s2,idxn,h1]
theorem word_Lex_eq (s t:List Int) (hs:s.length≤100000000000000):word_Lex s t=some (lexI s t):=by
 unfold word_Lex
 rw [zf3 s t hs]
 rfl
theorem zhj (s t:List Int) (hs:s.length≤100000000000000):zc8 s t=some (cmpW s t):=by
 unfold zc8
 rw [zf3 s t hs,zfq]
 show (zcm [cmpI s.length t.length,lexI s t]).bind some=_
 rw [cmp_Or_two]
 show some _=some _
 congr 1
 unfold cmpI cmpW
 by_cases h1:s.length<t.length
 ·simp [h1]
 ·by_cases h2:t.length<s.length
  ·simp [h1,h2]
  ·simp [h1,h2]
theorem cmpE_word_Lex:CmpE Tryz.prog 122 (fun x=>nL cI x) (fun x y=>word_Lex x y) :=
 ⟨fun args w=>zd6 rfl rfl rfl args w,cmpG_lex fun x y r hx h=>by rw [word_Lex_eq x y (by omega)] at h;injection h with h;exact h.symm⟩
theorem zi9:CmpE Tryz.prog 135 (fun x=>nL cI x) (fun x y=>zc8 x y) :=
 ⟨fun args w=>zd6 rfl rfl rfl args w,cmpG_compare fun x y r hx h=>by rw [zhj x y (by omega)] at h;injection h with h;exact h.symm⟩
end Go.Proofs.YtcneaiejdidooaaGreatDoor.Sym

/-
 What the basic functions on words come to: plain laws.
-/
namespace Go.Proofs.YtcneaiejdidooaaGreatDoor.Sym
set_option maxRecDepth 100000
section
variable {α β R:Type}
theorem get_at {l:List α} {i:Nat} (h:i<l.length):l[i]?=some l[i]:=List.getElem?_eq_getElem h
theorem iter_all2 [DecidableEq α] {a b:List α} {step:Nat→Option (Nat⊕(Unit⊕Bool))} (hlen:a.length=b.length) (h1:∀ i x y,a[i]?=some x→b[i]?=some y→step i=some (if x=y then .inl (i+1) else .inr (.inr false)))
  (h2:step a.length=some (.inr (.inl ()))) (hl:a.length≤100000000000000):(iter step fuel 0).bind (Sum.elim (fun _=>some true) some)=some (decide (a=b)):=by
 rw [zcx (l:=a) (fun i x=>if b[i]?=some x then none else some false) (fun i x hx=>?_) h2 hl]
 ·cases e:scan (fun i x=>if b[i]?=some x then none else some false) 0 a with
  | none =>
   have:=ze7.1 e
   have hab:a=b:=by
    apply List.ext_getElem?
    intro i
    rcases Nat.lt_or_ge i a.length with h | h
    ·have h3:=this i _ (get_at h)
     rw [Nat.zero_add] at h3
     split at h3
     ·rename_i h4
      rw [get_at h,h4]
     ·cases h3
    ·rw [List.getElem?_eq_none h,List.getElem?_eq_none (by omega)]
   simp [hab]
  | some r =>
   have hne:a≠b:=fun hab=>by
    subst hab
    have:scan (fun i x=>if a[i]?=some x then none else some false) 0 a=none:=ze7.2 fun i x hx=>by rw [Nat.zero_add,if_pos hx]
    rw [this] at e
    cases e
   have hr:r=false:=by
    have key:∀ (l:List α) (j:Nat),scan (fun i x=>if b[i]?=some x then none else some false) j l=some r→r=false:=by
     intro l
     induction l with
     | nil=>intro j h;cases h
     | cons x l ih =>
      intro j h
      unfold scan at h
      split at h
      ·rename_i r' h3
       injection h with h
       subst h
       split at h3
       ·cases h3
       ·injection h3 with h3
        exact h3.symm
      ·exact ih _ h
    exact key a 0 e
   subst hr
   simp [hne]
 ·have hi:=(List.getElem?_eq_some_iff.1 hx).1
  have hy:=get_at (l:=b) (i:=i) (by omega)
  rw [h1 i x _ hx hy]
  by_cases h:x=b[i]'(by omega)
  ·rw [if_pos h,hy,if_pos (by rw [h])]
  ·rw [if_neg h,hy,if_neg (fun h3=>h (by injection h3 with h3;exact h3.symm))]
end
theorem zl1 (a b:List Int) (hl:a.length≤100000000000000):R06_Ints a b=some (decide (a=b)):=by
 unfold R06_Ints
 by_cases hlen:a.length=b.length
 ·rw [show decide ((↑(List.length a):Int)≠(↑(List.length b):Int))=false by simp [hlen],cond_false]
  refine iter_all2 hlen (fun i x y hx hy=>?_) ?_ hl
  ·simp only [R06_Ints.s2]
   rw [dec_lt hx,cond_true,idxn_at hx,idxn_at hy]
   by_cases h:x=y<;>simp [h]
  ·simp only [R06_Ints.s2]
   rw [dec_end]
   rfl
 ·rw [show decide ((↑(List.length a):Int)≠(↑(List.length b):Int))=true by simp;omega,cond_true]
  have:a≠b:=fun h=>hlen (by rw [h])
  simp [this]
def SmW (x:List Int):Prop:=x.length≤2000000
def SmL (l:List (List Int)):Prop:=l.length≤2000000∧∀ x∈l,SmW x
theorem R01_Size_eq (n:Int):R01_Size n=some (decide (1≤n∧n≤1024)):=by
 unfold R01_Size
 by_cases h1:1≤n<;>by_cases h2:n≤1024<;>simp [h1,h2]
theorem zjn (n:Int):zdt n=some (decide (1≤n∧n≤1024)):=by
 unfold zdt
 by_cases h1:1≤n<;>by_cases h2:n≤1024<;>simp [h1,h2]
theorem scan_all {α R:Type} {p:α→Bool} {r:R}:∀ (l:List α) (j:Nat),scan (fun _ x=>if p x=true then none else some r) j l=if l.all p=true then none else some r
 | [],_=>rfl
 | x::l,j=>by
  unfold scan
  by_cases h:p x=true
  ·simp only [h,if_true,List.all_cons,Bool.true_and]
   exact scan_all l (j+1)
  ·simp [h]
theorem zjv (w:List Int) (n:Int) (hl:SmW w):zcy w n=some (checkI w n):=by
 unfold zcy checkI
 rw [R01_Size_eq]
 by_cases h1:1≤n∧n≤1024
 ·rw [if_pos h1]
  simp only [Option.bind_some,h1,and_self,decide_true,Bool.not_true,cond_false]
  by_cases h2:1024<w.length
  ·rw [if_pos h2,show decide ((1024:Int)<(↑(List.length w):Int))=true from decide_eq_true (by omega),cond_true]
  ·rw [if_neg h2,show decide ((1024:Int)<(↑(List.length w):Int))=false from decide_eq_false (by omega),cond_false]
   have key:=zcx (step:=fun s=>zcy.s2 w n s) (l:=w) (fun _ x=>if decide (0≤x∧x<n)=true then none else some (1:Int)) (fun i x hx=>by
    simp only [zcy.s2]
    rw [dec_lt hx,cond_true,idxn_at hx,idxn_at hx]
    by_cases a1:x<0
    ·simp [a1,show ¬ (0≤x) by omega]
    ·by_cases a2:n≤x
     ·simp [a1,a2,show ¬ (x<n) by omega]
     ·simp [a1,a2,show 0≤x by omega,show x<n by omega]) (by
    simp only [zcy.s2]
    rw [dec_end]
    rfl) (by unfold SmW at hl;omega)
   rw [key,scan_all (p:=fun x=>decide (0≤x∧x<n))]
   by_cases h:(w.all fun x=>decide (0≤x∧x<n))=true
   ·rw [if_pos h,if_pos h];rfl
   ·rw [if_neg h,if_neg h];rfl
 ·rw [if_neg h1]
  simp [h1]
theorem zd7 (w:List Int) (n:Int) (hl:SmW w):zc6 w n=some (checkI w n):=by
 unfold zc6 checkI zbu zan
 rw [zjn]
 by_cases h1:1≤n∧n≤1024
 ·rw [if_pos h1]
  simp only [Option.bind_some,h1,and_self,decide_true,Bool.not_true,cond_false]
  by_cases h2:1024<w.length
  ·rw [if_pos h2,show decide ((1024:Int)<(↑(List.length w):Int))=true from decide_eq_true (by omega),cond_true]
  ·rw [if_neg h2,show decide ((1024:Int)<(↑(List.length w):Int))=false from decide_eq_false (by omega),cond_false]
   have key:=zcx (step:=fun s=>zan.s2 w (fun u0=>zdz u0 n) s) (l:=w) (fun i x=>if decide (0≤x∧x<n)=true then none else some (i:Int)) (fun i x hx=>by
    simp only [zan.s2,zdz]
    rw [dec_lt hx,cond_true,idxn_at hx]
    by_cases a1:x<0
    ·simp [a1,show ¬ (0≤x) by omega]
    ·by_cases a2:n≤x
     ·simp [a1,a2,show ¬ (x<n) by omega]
     ·simp [a1,a2,show 0≤x by omega,show x<n by omega]) (by
    simp only [zan.s2]
    rw [dec_end]
    rfl) (by unfold SmW at hl;omega)
   rw [key]
   cases e:scan (fun i x=>if decide (0≤x∧x<n)=true then none else some (i:Int)) 0 w with
   | none =>
    have h3:=ze7.1 e
    have h:(w.all fun x=>decide (0≤x∧x<n))=true:=List.all_eq_true.2 fun x hx=>by
     obtain ⟨i,hi,rfl⟩:=List.mem_iff_getElem.1 hx
     have:=h3 i _ (get_at hi)
     split at this
     ·assumption
     ·cases this
    rw [if_pos h]
    simp
   | some r =>
    have h:¬ (w.all fun x=>decide (0≤x∧x<n))=true:=fun h=>by
     have:scan (fun i x=>if decide (0≤x∧x<n)=true then none else some (i:Int)) 0 w=none:=ze7.2 fun i x hx=>if_pos (List.all_eq_true.1 h x (List.mem_of_getElem? hx))
     rw [this] at e
     cases e
    have hr:0≤r:=by
     have key:∀ (l:List Int) (j:Nat),scan (fun i x=>if decide (0≤x∧x<n)=true then none else some (i:Int)) j l=some r→0≤r:=by
      intro l
      induction l with
      | nil=>intro j h;cases h
      | cons x l ih =>
       intro j h
       unfold scan at h
       split at h
       ·rename_i r' h3
        injection h with h
        subst h
        split at h3
        ·cases h3
        ·injection h3 with h3
         omega
       ·exact ih _ h
     exact key w 0 e
    rw [if_neg h]
    simp [hr]
 ·rw [if_neg h1]
  simp [h1]
theorem zgi (a b:List Int) (ha:SmW a):zcu a b=some (common a b:Int):=by
 unfold zcu
 rw [iter_eq (r:=common a b) (fun k=>k≤a.length∧common a b=common (a.drop k) (b.drop k)+k) (fun k=>a.length-k) (fun k ⟨h1,h2⟩=>?_) ⟨Nat.zero_le _,by simp⟩ (by have:=fuel_big;unfold SmW at ha;omega)]
 ·rfl
 ·simp only [zcu.s2]
  rcases Nat.lt_or_ge k a.length with h | h
  ·have hx:=get_at h
   rcases Nat.lt_or_ge k b.length with h' | h'
   ·have hy:=get_at h'
    rw [dec_lt hx,dec_lt hy,cond_true,cond_true,idxn_at hx,idxn_at hy]
    rw [List.drop_eq_getElem_cons h,List.drop_eq_getElem_cons h'] at h2
    by_cases e:a[k]=b[k]
    ·left
     unfold SmW at ha
     refine ⟨k+1,?_,⟨h,?_⟩,by omega⟩
     ·rw [chk_pos (by unfold inR;omega)]
      simp [e]
     ·rw [h2,e]
      simp [common]
      omega
    ·right
     simp only [common,e,if_false,Nat.zero_add] at h2
     simp [e,h2]
   ·right
    rw [dec_lt hx,cond_true,show decide ((↑k:Int)<(↑(List.length b):Int))=false by simp;omega]
    rw [zjk (Or.inr h'),Nat.zero_add] at h2
    simp [h2]
  ·right
   rw [show decide ((↑k:Int)<(↑(List.length a):Int))=false by simp;omega]
   rw [zjk (Or.inl h),Nat.zero_add] at h2
   simp [h2]
theorem R01_Lex_eq (a b:List Int) (ha:SmW a):R01_Lex a b=some (lexI a b):=by
 unfold R01_Lex
 rw [zgi a b ha]
 have hle:=zfg a b
 have hlc:=zlc a b
 rw [hlc]
 simp only [Option.bind_some]
 by_cases h1:common a b=a.length
 ·rw [show decide ((↑(common a b):Int)=↑a.length)=true from decide_eq_true (by omega),cond_true,cond_true]
  by_cases h2:common a b=b.length
  ·rw [show decide ((↑(common a b):Int)=↑b.length)=true from decide_eq_true (by omega),if_pos ⟨h1,h2⟩]
   rfl
  ·rw [show decide ((↑(common a b):Int)=↑b.length)=false from decide_eq_false (by omega),if_neg (fun h=>h2 h.2),if_pos (Or.inl h1)]
   rfl
 ·rw [show decide ((↑(common a b):Int)=↑a.length)=false from decide_eq_false (by omega),cond_false,cond_false,if_neg (fun h=>h1 h.1)]
  by_cases h2:common a b=b.length
  ·rw [show decide ((↑(common a b):Int)<(↑(List.length b):Int))=false from decide_eq_false (by omega),if_neg (fun h=>by omega)]
   rfl
  ·have hx:=get_at (l:=a) (i:=common a b) (by omega)
   have hy:=get_at (l:=b) (i:=common a b) (by omega)
   rw [show decide ((↑(common a b):Int)<(↑(List.length b):Int))=true from decide_eq_true (by omega),cond_true,idx_at rfl hx,idx_at rfl hy]
   rw [List.getD_eq_getElem?_getD,List.getD_eq_getElem?_getD,hx,hy]
   by_cases h3:a[common a b]'(by omega)<b[common a b]'(by omega)
   ·rw [if_pos (Or.inr ⟨by omega,h3⟩)]
    simp [h3]
   ·rw [if_neg (fun h=>by
     rcases h with h | ⟨_,h⟩
     ·omega
     ·exact h3 h)]
    simp [h3]
theorem zml (a b:List Int) (ha:SmW a):zfc a b=some (cmpW a b):=by
 unfold zfc cmpW
 rw [R01_Lex_eq a b ha]
 by_cases h1:a.length<b.length
 ·rw [show decide ((↑(List.length a):Int)<(↑(List.length b):Int))=true from decide_eq_true (by omega),if_pos h1]
  rfl
 ·rw [show decide ((↑(List.length a):Int)<(↑(List.length b):Int))=false from decide_eq_false (by omega),if_neg h1,cond_false]
  by_cases h2:b.length<a.length
  ·rw [show decide ((↑(List.length b):Int)<(↑(List.length a):Int))=true from decide_eq_true (by omega),if_pos h2]
   rfl
  ·rw [show decide ((↑(List.length b):Int)<(↑(List.length a):Int))=false from decide_eq_false (by omega),if_neg h2]
   rfl
end Go.Proofs.YtcneaiejdidooaaGreatDoor.Sym

/-
 Plain laws on the random numbers: the mixing is one to one, so that a draw below 10000 ends after at most 1617 numbers. No program in sight.
-/
namespace Go.Proofs.YtcneaiejdidooaaGreatDoor
def M64:Nat:=18446744073709551616
def gold:Nat:=11400714819323198485
def mulA:Nat:=13787848793156543929
def mulB:Nat:=10723151780598845931
theorem xs_lt {a k:Nat} (h:a<M64):a ^^^ (a >>> k)<M64:=by
 have h2:a >>> k<2^64:=Nat.lt_of_le_of_lt (by rw [Nat.shiftRight_eq_div_pow];exact Nat.div_le_self _ _) h
 exact Nat.xor_lt_two_pow (n:=64) h h2
theorem xs_inj {a b k:Nat} (hk:0<k) (h:a ^^^ (a >>> k)=b ^^^ (b >>> k)):a=b:=by
 have hd:(a ^^^ b) ^^^ ((a ^^^ b) >>> k)=0:=by
  rw [Nat.shiftRight_xor_distrib]
  have e:(a ^^^ b) ^^^ (a >>> k ^^^ b >>> k)=(a ^^^ (a >>> k)) ^^^ (b ^^^ (b >>> k)):=by
   rw [Nat.xor_assoc,← Nat.xor_assoc b,Nat.xor_comm b,Nat.xor_assoc (a >>> k) b,← Nat.xor_assoc]
  rw [e,h,Nat.xor_self]
 generalize hdd:a ^^^ b=d at hd
 have hz:d=d >>> k:=by
  have h1:d ^^^ (d ^^^ (d >>> k))=d:=by rw [hd,Nat.xor_zero]
  rw [← Nat.xor_assoc,Nat.xor_self,Nat.zero_xor] at h1
  exact h1.symm
 have h0:d=0:=by
  rw [Nat.shiftRight_eq_div_pow] at hz
  rcases Nat.eq_zero_or_pos d with h0 | h0
  ·exact h0
  ·have h2:1<2^k:=Nat.one_lt_two_pow (by omega)
   have:=Nat.div_lt_self h0 h2
   omega
 rw [h0] at hdd
 have h3:a ^^^ (a ^^^ b)=a:=by rw [hdd,Nat.xor_zero]
 rw [← Nat.xor_assoc,Nat.xor_self,Nat.zero_xor] at h3
 exact h3.symm
theorem mul_inj {a b c d:Nat} (hc:c*d%M64=1) (ha:a<M64) (hb:b<M64) (h:a*c%M64=b*c%M64):a=b:=by
 have key:∀ x,x<M64→x*c%M64*d%M64=x:=fun x hx=>by
  rw [Nat.mod_mul_mod,Nat.mul_assoc,Nat.mul_mod,hc,Nat.mul_one,Nat.mod_mod,Nat.mod_eq_of_lt hx]
 rw [← key a ha,h,key b hb]
def mix (y:Nat):Nat :=
 let z:=(y ^^^ (y >>> 30))*mulA%M64
 let u:=(z ^^^ (z >>> 27))*mulB%M64
 u ^^^ (u >>> 31)
theorem mix_lt (y:Nat):mix y<M64:=xs_lt (Nat.mod_lt _ (by decide))
theorem mix_inj {a b:Nat} (ha:a<M64) (hb:b<M64) (h:mix a=mix b):a=b:=by
 have h1:=xs_inj (by decide) h
 have h2:=mul_inj (d:=3573116690164977347) (by decide) (xs_lt (Nat.mod_lt _ (by decide))) (xs_lt (Nat.mod_lt _ (by decide))) h1
 have h3:=xs_inj (by decide) h2
 have h4:=mul_inj (d:=10871156337175269513) (by decide) (xs_lt ha) (xs_lt hb) h3
 exact xs_inj (by decide) h4
def stateAt (s j:Nat):Nat:=(s+j*gold)%M64
theorem stateAt_inj {s i j:Nat} (hi:i<M64) (hj:j<M64) (h:stateAt s i=stateAt s j):i=j:=by
 refine mul_inj (c:=gold) (d:=17428512612931826493) (by decide) hi hj ?_
 unfold stateAt at h
 have h1:=congrArg (fun x=>(x+(M64-s%M64))%M64) h
 simp only [Nat.mod_add_mod] at h1
 have key:∀ k:Nat,(s+k+(M64-s%M64))%M64=k%M64:=fun k=>by
  have h2:s%M64<M64:=Nat.mod_lt _ (by decide)
  have h3:=Nat.div_add_mod s M64
  have h4:s+k+(M64-s%M64)=k+M64*(s / M64+1):=by
   rw [Nat.mul_add,Nat.mul_one];omega
  rw [h4,Nat.add_mul_mod_self_left]
 rw [key,key] at h1
 exact h1
theorem few:∀ (k a:Nat) (l:List Nat),l.Nodup→(∀ x∈l,a≤x∧x<a+k)→l.length≤k
 | 0,a,l,_,h=>by
  cases l with
  | nil=>simp
  | cons x l=>have:=h x (by simp);omega
 | k+1,a,l,hn,h=>by
  have h1:=few k a (l.erase (a+k)) (hn.erase _) fun x hx=>by
   have h2:=(hn.mem_erase_iff).1 hx
   have h3:=h x h2.2
   have h4:=h2.1
   omega
  by_cases hm:a+k∈l
  ·have:=List.length_erase_of_mem hm
   omega
  ·rw [List.erase_of_not_mem hm] at h1
   omega
theorem refused_few (s n:Nat) (h:∀ j,j<n→M64-1616≤mix (stateAt s (j+1))) (hn:n<100000):n≤1616:=by
 have h1:=few 1616 (M64-1616) ((List.range n).map fun j=>mix (stateAt s (j+1))) ?_ ?_
 ·simpa using h1
 ·rw [List.nodup_iff_pairwise_ne,List.pairwise_map]
  refine List.Pairwise.imp_of_mem ?_ (List.nodup_iff_pairwise_ne.1 List.nodup_range)
  intro i j hi hj hne e
  rw [List.mem_range] at hi hj
  have h2:=mix_inj (Nat.mod_lt _ (by decide)) (Nat.mod_lt _ (by decide)) e
  have h3:=stateAt_inj (by unfold M64;omega) (by unfold M64;omega) h2
  omega
 ·intro x hx
  obtain ⟨j,hj,rfl⟩:=List.mem_map.1 hx
  rw [List.mem_range] at hj
  have h2:=h j hj
  have h3:=mix_lt (stateAt s (j+1))
  unfold M64 at h2 h3 ⊢
  omega
def drawF:Nat→Nat→Nat×Nat
 | 0,s=>(0,s)
 | f+1,s=>if mix ((s+gold)%M64)<M64-1616 then (mix ((s+gold)%M64)%10000,(s+gold)%M64) else drawF f ((s+gold)%M64)
def draw (s:Nat):Nat×Nat:=drawF 1617 s
end Go.Proofs.YtcneaiejdidooaaGreatDoor

/-
 Random numbers: the draws below 10000 end, and are the document's.
-/
namespace Go.Proofs.YtcneaiejdidooaaGreatDoor.Sym
set_option maxRecDepth 100000
theorem xorK_nat {a b:Nat} (ha:a<M64) (hb:b<M64):xorK .u64 (↑a) (↑b)=↑(a ^^^ b):=by
 have h:a ^^^ b<2^64:=Nat.xor_lt_two_pow (n:=64) ha hb
 have e:(BitVec.ofInt 64 (↑a:Int) ^^^ BitVec.ofInt 64 (↑b:Int)).toNat=a ^^^ b:=by
  rw [BitVec.toNat_xor,BitVec.ofInt_natCast,BitVec.ofInt_natCast,BitVec.toNat_ofNat,BitVec.toNat_ofNat,Nat.mod_eq_of_lt (show a<2^64 from ha),Nat.mod_eq_of_lt (show b<2^64 from hb)]
 show IntKind.u64.wrap ((BitVec.ofInt 64 (↑a:Int) ^^^ BitVec.ofInt 64 (↑b:Int)).toNat:Int)=_
 rw [e,mdU_eq]
 unfold mdU
 omega
theorem shr_nat (y k:Nat):(↑y / 2^k:Int)=↑(y >>> k):=by
 rw [Nat.shiftRight_eq_div_pow]
 push_cast
 rfl
theorem xs_nat {y:Nat} (k:Nat) (hy:y<M64):xorK .u64 ↑y (↑y / 2^k)=↑(y ^^^ (y >>> k)):=by
 rw [shr_nat]
 exact xorK_nat hy (Nat.lt_of_le_of_lt (by rw [Nat.shiftRight_eq_div_pow];exact Nat.div_le_self _ _) hy)
theorem mulA_nat (a:Nat):mdU (↑a*13787848793156543929)=↑(a*mulA%M64):=by
 unfold mdU mulA M64
 omega
theorem mulB_nat (a:Nat):mdU (↑a*10723151780598845931)=↑(a*mulB%M64):=by
 unfold mdU mulB M64
 omega
theorem gold_nat (s:Nat):mdU (↑s+11400714819323198485)=↑((s+gold)%M64):=by
 unfold mdU gold M64
 omega
theorem u64_nat {a:Nat} (h:a<M64):(0:Int)≤↑a∧(↑a:Int)≤18446744073709551615:=by
 unfold M64 at h
 omega
theorem mod_lt' (a:Nat):a%M64<M64:=Nat.mod_lt _ (by decide)
theorem zms (s:Nat):zfa ↑s=some (↑(mix ((s+gold)%M64)),↑((s+gold)%M64)):=by
 unfold zfa
 rw [gold_nat]
 have hy:=mod_lt' (s+gold)
 generalize (s+gold)%M64=y at hy
 rw [xs_nat 30 hy,mulA_nat,xs_nat 27 (mod_lt' _),mulB_nat,xs_nat 31 (mod_lt' _),chk_pos (u64_nat hy),chk_pos (u64_nat (mod_lt' _)),chk_pos (u64_nat (mod_lt' _))]
 rfl
theorem stateAt_next (s j:Nat):stateAt ((s+gold)%M64) j=stateAt s (j+1):=by
 unfold stateAt
 rw [Nat.mod_add_mod]
 congr 1
 rw [Nat.add_mul]
 omega
theorem hit_within (s:Nat):∃ j,j<1617∧mix (stateAt s (j+1))<M64-1616:=by
 refine Classical.byContradiction fun h=>?_
 have:=refused_few s 1617 (fun j hj=>Nat.le_of_not_lt fun h2=>h ⟨j,hj,h2⟩) (by decide)
 omega
def goOn (good:Nat→Bool) (nx:Nat→Nat):Nat→Nat→Nat
 | 0,s=>s
 | f+1,s=>cond (good s) s (goOn good nx f (nx s))
def steps (nx:Nat→Nat):Nat→Nat→Nat
 | 0,s=>s
 | j+1,s=>steps nx j (nx s)
theorem iter_goOn {S R:Type} {step:S→Option (S⊕R)} {good:Nat→Bool} {nx:Nat→Nat} {st:Nat→S} {res:Nat→R} (h:∀ s,step (st s)=some (cond (good s) (.inr (res s)) (.inl (st (nx s))))) :
  ∀ (f k s:Nat),(∃ j,j<f∧good (steps nx j s)=true)→iter step (f+k) (st s)=some (res (goOn good nx f s))
 | 0,_,_,⟨_,hj,_⟩=>absurd hj (Nat.not_lt_zero _)
 | f+1,k,s,⟨j,hj,hg⟩=>by
  rw [show f+1+k=(f+k)+1 by omega]
  unfold iter goOn
  rw [h]
  cases hs:good s with
  | true=>rfl
  | false =>
   simp only [cond_false]
   cases j with
   | zero=>exact absurd (show good s=true from hg) (by rw [hs];exact Bool.false_ne_true)
   | succ j=>exact iter_goOn h f k (nx s) ⟨j,by omega,hg⟩
def nxt (s:Nat):Nat:=(s+gold)%M64
def hitN (s:Nat):Bool:=decide (mix s<M64-1616)
def drawS (s:Nat):Nat:=goOn (fun s=>hitN (nxt s)) nxt 1617 s
def drawN (s:Nat):Nat×Nat:=(mix (nxt (drawS s))%10000,nxt (drawS s))
theorem nxt_def (s:Nat):nxt s=(s+gold)%M64:=by unfold nxt;with_reducible rfl
theorem steps_one {nx:Nat→Nat} (j s:Nat):steps nx (j+1) s=steps nx j (nx s):=rfl
theorem steps_zero {nx:Nat→Nat} (s:Nat):steps nx 0 s=s:=rfl
theorem stateAt_one (s:Nat):stateAt s (0+1)=(s+gold)%M64:=by
 unfold stateAt
 rw [Nat.zero_add,Nat.one_mul]
theorem steps_at (j:Nat):∀ (s:Nat),nxt (steps nxt j s)=stateAt s (j+1):=by
 induction j with
 | zero =>
  intro s
  rw [steps_zero,nxt_def,stateAt_one]
 | succ j ih =>
  intro s
  rw [steps_one,ih,nxt_def,stateAt_next]
theorem hit_some (s:Nat):∃ j,j<1617∧hitN (nxt (steps nxt j s))=true:=by
 obtain ⟨j,hj,hm⟩:=hit_within s
 exact ⟨j,hj,by rw [steps_at];exact decide_eq_true hm⟩
theorem fuel_split:fuel=1617+999999999999999998383:=by decide
theorem hit_yes {y:Nat} (h:mix y<M64-1616):hitN y=true:=by
 unfold hitN
 exact decide_eq_true h
theorem hit_no {y:Nat} (h:¬ mix y<M64-1616):hitN y=false:=by
 unfold hitN
 exact decide_eq_false h
theorem below_body {x y:Nat} (hm:x<M64):(cond (decide ((mdU (0-10000))%10000=0)) (some true) (some (decide ((↑x:Int)<(mdU (0-((mdU (0-10000))%10000)))))):Option Bool).bind (fun (y77:Bool)=>cond y77 (chk (((0:Int)≤((↑x:Int)%10000)∧((↑x:Int)%10000)≤18446744073709551615)∧(0:Int)≤(↑x:Int)∧(1:Int)≤10000) (chk (inR ((↑x:Int)%10000)) (some (.inr (((↑x:Int)%10000),(↑y:Int)):Int⊕(Int×Int))))) (some (.inl (↑y:Int))))=some (if x<M64-1616 then .inr ((↑(x%10000):Int),(↑y:Int)) else .inl (↑y:Int)):=by
 have c1:(mdU (0-10000))%10000=1616:=by decide
 have c2:mdU (0-1616)=18446744073709550000:=by decide
 rw [c1,c2,decide_eq_false (by decide),cond_false,obind]
 by_cases h:x<M64-1616
 ·rw [if_pos h,decide_eq_true (by unfold M64 at h;omega),cond_true]
  unfold M64 at hm
  rw [chk_pos (by omega),chk_pos (by unfold inR;omega)]
  simp
 ·rw [if_neg h,decide_eq_false (by unfold M64 at h hm;omega),cond_false]
theorem below_step (s:Nat):zcb.s1 10000 ↑s=some (cond (hitN (nxt s)) (.inr (↑(mix (nxt s)%10000),↑(nxt s))) (.inl ↑(nxt s))):=by
 unfold zcb.s1
 rw [zms,obind,← nxt_def]
 refine (below_body (mix_lt (nxt s))).trans ?_
 by_cases h:mix (nxt s)<M64-1616
 ·rw [if_pos h,hit_yes h,cond_true]
 ·rw [if_neg h,hit_no h,cond_false]
theorem zls (s:Nat):zcb ↑s 10000=some (↑(drawN s).1,↑(drawN s).2):=by
 unfold zcb
 have c1:(mdU (0-10000))%10000=1616:=by decide
 rw [c1,chk_pos (by decide),chk_pos (by decide),fuel_split]
 exact iter_goOn (st:=fun s=>(↑s:Int)) (res:=fun s=>((↑(mix (nxt s)%10000):Int),(↑(nxt s):Int))) below_step 1617 _ s (hit_some s)
theorem zma (s:Nat):zev ↑s 10000=some (↑(drawN s).1,↑(drawN s).2,0):=by
 unfold zev
 rw [decide_eq_false (by decide),cond_false,decide_eq_false (by decide),obind,cond_false,zls,obind]
theorem nxt_lt (s:Nat):nxt s<18446744073709551616:=Nat.mod_lt _ (by decide)
theorem draw_lt (s:Nat):(drawN s).1<10000∧(drawN s).2<18446744073709551616:=⟨Nat.mod_lt _ (by decide),nxt_lt _⟩
end Go.Proofs.YtcneaiejdidooaaGreatDoor.Sym

/-
 Tables: the first one, and what makes a table valid: the program's answer and the document's are one plain number.
-/
namespace Go.Proofs.YtcneaiejdidooaaGreatDoor.Sym
set_option maxRecDepth 100000
section
variable {κ ν:Type} [BEq κ]
theorem zft {k:κ} {v:ν} (hb:∀ a b:κ,(a==b)=true↔a=b):∀ m:List (κ×ν),mget k (mset k v m)=some v
 | []=>by
  unfold mset mget
  rw [(hb k k).2 rfl]
 | p::m=>by
  unfold mset
  cases h:k==p.1 with
  | true =>
   show mget k ((k,v)::m)=_
   unfold mget
   rw [(hb k k).2 rfl]
  | false =>
   show mget k (p::mset k v m)=_
   unfold mget
   rw [h]
   exact zft hb m
theorem zjz {k k':κ} {v:ν} (hb:∀ a b:κ,(a==b)=true↔a=b) (hne:¬ k'=k):∀ m:List (κ×ν),mget k' (mset k v m)=mget k' m
 | []=>by
  have e:(k'==k)=false:=by
   cases e:k'==k with
   | true=>exact absurd ((hb _ _).1 e) hne
   | false=>rfl
  unfold mset mget
  simp only [e]
  rfl
 | p::m=>by
  unfold mset
  cases h:k==p.1 with
  | true =>
   have e1:k=p.1:=(hb _ _).1 h
   show mget k' ((k,v)::m)=mget k' (p::m)
   have e:(k'==k)=false:=by
    cases e:k'==k with
    | true=>exact absurd ((hb _ _).1 e) hne
    | false=>rfl
   unfold mget
   rw [← e1]
   simp only [e]
  | false =>
   show mget k' (p::mset k v m)=mget k' (p::m)
   unfold mget
   rw [zjz hb hne m]
end
theorem ba_beq (a b:ByteArray):(a==b)=true↔a=b:=by
 cases a
 cases b
 show ByteArray.beq _ _=true↔_
 unfold ByteArray.beq
 simp
end Go.Proofs.YtcneaiejdidooaaGreatDoor.Sym

/-
 The examples of the chapter, reckoned.
-/
namespace Go.Proofs.YtcneaiejdidooaaGreatDoor.Sym
set_option maxRecDepth 100000
end Go.Proofs.YtcneaiejdidooaaGreatDoor.Sym

/-
 Tables: the program's own checks, the first table, and the law of both.
-/
namespace Go.Proofs.YtcneaiejdidooaaGreatDoor.Sym
set_option maxRecDepth 100000
theorem check_mem {w:List Int} {n:Int} (h:checkI w n=0):∀ a∈w,0≤a∧a<n:=by
 unfold checkI at h
 split at h
 ·split at h
  ·cases h
  ·split at h
   ·rename_i h3
    intro a ha
    exact of_decide_eq_true (List.all_eq_true.1 h3 a ha)
   ·cases h
 ·cases h
end Go.Proofs.YtcneaiejdidooaaGreatDoor.Sym

/-
 Sorted lists of words, duplicates struck: plain laws.
-/
namespace Go.Proofs.YtcneaiejdidooaaGreatDoor
structure TotalCmp (cf:List Int→List Int→Int):Prop where
 range:∀ a b,cf a b=-1∨cf a b=0∨cf a b=1
 zero:∀ a b,cf a b=0↔a=b
 swap:∀ a b,cf b a=- cf a b
 trans:∀ a b c,cf a b=-1→cf b c=-1→cf a c=-1
end Go.Proofs.YtcneaiejdidooaaGreatDoor

/-
 Prefixes, suffixes and maximal words: plain laws.
-/
namespace Go.Proofs.YtcneaiejdidooaaGreatDoor
def prefixes (x:List Int):List (List Int):=(List.range (x.length+1)).map x.take
def suffixes (x:List Int):List (List Int):=(List.range (x.length+1)).map x.drop
end Go.Proofs.YtcneaiejdidooaaGreatDoor

/-
 What the functions on lists of words come to: plain laws.
-/
namespace Go.Proofs.YtcneaiejdidooaaGreatDoor.Sym
set_option maxRecDepth 100000
theorem zbw {w:List Int} (h:SmW w):zba w=some w:=by
 unfold zba libClone
 exact chk_pos (by unfold SmW at h;unfold capOk;omega)
end Go.Proofs.YtcneaiejdidooaaGreatDoor.Sym

/-
 Tables that grow: the program's Prefix and Suffix are the document's. Plain laws.
-/
namespace Go.Proofs.YtcneaiejdidooaaGreatDoor.Sym
set_option maxRecDepth 100000
end Go.Proofs.YtcneaiejdidooaaGreatDoor.Sym

/-
  Parts of the proof, behind each other.
-/
import Derived.Test.YtcneaiejdidooaaGreatDoorM2
import Derived.Deep.Slices
import Derived.WalkKit
import Derived.Deep.AppendLies
import Derived.Deep.Draws
import Derived.Maps.AppendAt
import Derived.Deep.QuietTactic
import Derived.BigQuiet
import Derived.WalkSpells
import Derived.Outline
import Derived.Lib.Hide
import Derived.Test.YtcneaiejdidooaaGreatDoorProg
import Derived.Lib.AppendZeros
import Derived.Shelf.SlSortCmp.NoneTotal
import Derived.Lib.OwnBridge
import Derived.Laws.OwnMore
import Derived.Lib.BufferRead
import Derived.WalkSmall
import Derived.Shelf.SlSortCmp.Whole1
import Derived.Shelf.SlGeneric
import Derived.Ground.SlsfProg
import Derived.Lib.AppendZerosOnto
import Derived.Lib.Overlaps
import Derived.Lib.Walk
import Derived.Shelf.RegionOpenPlain
import Derived.Laws.NewBlocks
import Derived.Deep.WholeRow
set_option linter.all false
namespace Go.Proofs.YtcneaiejdidooaaGreatDoor.Sym
section
open Go.ChangeShapes Go.WideShapes Go.ChangeAt Go.RowKit Go.Deep
set_option maxRecDepth 100000
section
variable {H:Type} {enc:TypeId×Value→H} {W:World} {α β:Type}
theorem bulk_pos (d:DataW H):1≤Rows.uptoBulk d:=by
 cases d with
 | lit l=>cases l<;>simp [Rows.uptoBulk]
 | nil=>simp [Rows.uptoBulk]
 | ptr d=>simp [Rows.uptoBulk]
 | slice elems spare=>simp [Rows.uptoBulk]
 | agg parts=>simp [Rows.uptoBulk]
 | iface t d=>simp [Rows.uptoBulk]
 | map entries=>simp [Rows.uptoBulk]
 | held h=>simp [Rows.uptoBulk]
theorem bulk_mem {d:DataW H} {l:List (DataW H)} (h:d∈l):Rows.uptoBulk d≤Rows.uptoBulkAll l:=by
 induction l with
 | nil=>cases h
 | cons x r ih =>
  simp only [Rows.uptoBulkAll];rcases List.mem_cons.1 h with e | e
  ·subst e;omega
  ·have:=ih e;omega
theorem zsn (l r:List (DataW H)):Rows.uptoBulkAll (l++r)=Rows.uptoBulkAll l+Rows.uptoBulkAll r:=by
 induction l with
 | nil=>simp [Rows.uptoBulkAll]
 | cons x l ih=>simp only [List.cons_append,Rows.uptoBulkAll,ih];omega
theorem bulk_length (l:List (DataW H)):l.length≤Rows.uptoBulkAll l:=by
 induction l with
 | nil=>simp [Rows.uptoBulkAll]
 | cons x r ih=>have:=bulk_pos x;simp only [Rows.uptoBulkAll,zkL];omega
theorem bulk_small {l:List (DataW H)} (hk:Rows.uptoSmall H l=true):Rows.uptoBulkAll l≤1048576:=by
 simpa [Rows.uptoSmall] using hk
def lowS (W:World):Nat→Prop:=fun b=>b<W.heap.size
def Opn (W:World) (enc:TypeId×Value→H) (t:TypeId) (c:α→List IV) (sz:α→Nat) (ok:α→Prop):Prop :=
 ∀ (fuel:Nat) (cs:List Value) (d:DataW H) (ps:List MemPlace),DataW.trod enc Tryz.prog W 0 (fun _=>true) true fuel t cs=some (d,ps)→Rows.uptoBulk d≤1048576 →
  ∃ x,zjm W (lowS W) cs (c x)∧(∀ u∈cs,u.oneCell'=true)∧sz x≤Rows.uptoBulk d∧ok x
def sz1 {α:Type} (_:α):Nat:=1
def szL (sz:α→Nat) (l:List α):Nat:=(l.map sz).sum+1
def okL (ok:α→Prop) (l:List α):Prop:=∀ x∈l,ok x
def okT {α:Type} (_:α):Prop:=True
theorem zgd:Opn W enc 3 cI sz1 inR:=by
 intro fuel cs d ps h hd;cases fuel with
 | zero=>simp [DataW.trod] at h
 | succ f =>
  unfold DataW.trod at h;rw [Tryz.underlying3] at h;split at h<;>try (cases h;done)
  all_goals (try (rename_i e;cases e;done))
  rename_i k k' n e;injection e with e
  injection e with e
  subst e;split at h
  ·rename_i hw;injection h with h
   injection h with h1 h2
   subst h1;obtain ⟨rfl,hw⟩:=hw;refine ⟨n,⟨rfl,fun i u x hu hx=>?_⟩,fun u hu=>?_,by simp [sz1,Rows.uptoBulk],?_⟩
   ·match i,hu,hx with
    | 0,hu,hx =>
     simp at hu hx;subst hu hx;exact .val _
   ·rcases List.mem_singleton.1 hu with rfl;rfl
   ·simp [Lit.wf,IntKind.min,IntKind.max,IntKind.wrap,IntKind.bits,IntKind.signed] at hw;unfold inR;omega
  ·cases h
def okU (n:Int):Prop:=0≤n∧n<18446744073709551616
theorem opn_u64 {t:TypeId} (ht:Tryz.prog.underlying t=some (.int .u64)):Opn W enc t cU sz1 okU:=by
 intro fuel cs d ps h hd;cases fuel with
 | zero=>simp [DataW.trod] at h
 | succ f =>
  unfold DataW.trod at h;rw [ht] at h;split at h<;>try (cases h;done)
  all_goals (try (rename_i e;cases e;done))
  rename_i k k' n e;injection e with e
  injection e with e
  subst e;split at h
  ·rename_i hw;injection h with h
   injection h with h1 h2
   subst h1;obtain ⟨rfl,hw⟩:=hw;refine ⟨n,⟨rfl,fun i u x hu hx=>?_⟩,fun u hu=>?_,by simp [sz1,Rows.uptoBulk],?_⟩
   ·match i,hu,hx with
    | 0,hu,hx =>
     simp at hu hx;subst hu hx;exact .val _
   ·rcases List.mem_singleton.1 hu with rfl;rfl
   ·simp [Lit.wf,IntKind.min,IntKind.max,IntKind.wrap,IntKind.bits,IntKind.signed] at hw;unfold okU;omega
  ·cases h
theorem opn_bool {t:TypeId} (ht:Tryz.prog.underlying t=some .bool):Opn W enc t cB sz1 okT:=by
 intro fuel cs d ps h hd;cases fuel with
 | zero=>simp [DataW.trod] at h
 | succ f =>
  unfold DataW.trod at h;rw [ht] at h;split at h<;>try (cases h;done)
  all_goals (try (rename_i e;cases e;done))
  rename_i b e;injection h with h
  injection h with h1 h2
  subst h1;refine ⟨b,⟨rfl,fun i u x hu hx=>?_⟩,fun u hu=>?_,by simp [sz1,Rows.uptoBulk],trivial⟩
  ·match i,hu,hx with
   | 0,hu,hx =>
    simp at hu hx;subst hu hx;exact .val _
  ·rcases List.mem_singleton.1 hu with rfl;rfl
theorem opn_elems {t:TypeId} {c:α→List IV} {sz:α→Nat} {ok:α→Prop} {k b o:Nat} (hc:∀ x,(c x).length=k) (D:Nat→DataW H):∀ (n:Nat),
  (∀ i,i<n→∃ (x:α) (cs:List Value),(∀ j,j<k→W.cell? ⟨b,o+(i*k+j),none⟩=cs[j]?)∧zjm W (lowS W) cs (c x)∧(∀ u∈cs,u.oneCell'=true)∧sz x≤Rows.uptoBulk (D i)∧ok x) →
  ∃ (xs:List α) (us:List Value),xs.length=n∧us.length=n*k∧(∀ (i:Nat) u,us[i]?=some u→W.cell? ⟨b,o+i,none⟩=some u)∧zjm W (lowS W) us (xs.map c).flatten∧(∀ u∈us,u.oneCell'=true) ∧
   (xs.map sz).sum≤Rows.uptoBulkAll ((List.range n).map D)∧∀ x∈xs,ok x
 | 0,_=>⟨[],[],rfl,by simp,by simp,⟨rfl,by simp⟩,by simp,by simp,by simp⟩
 | n+1,h=>by
  obtain ⟨xs,us,h1,h2,h3,h4,h5,h6,h7⟩:=opn_elems (t:=t) hc D n fun i hi=>h i (by omega);obtain ⟨x,cs,g1,g2,g3,g4,g5⟩:=h n (by omega);have hcl:cs.length=k:=by rw [g2.1,hc]
  have hfl:(xs.map c).flatten.length=n*k:=by rw [← h4.1,h2]
  refine ⟨xs++[x],us++cs,by simp [h1],by rw [zkJ,h2,hcl,Nat.add_mul];omega,fun i u hu=>?_,⟨?_,fun i u y hu hy=>?_⟩,fun u hu=>?_,?_,fun y hy=>?_⟩
  ·rw [List.getElem?_append] at hu;split at hu
   ·exact h3 i u hu
   ·rename_i hlt;have hj:=(zkI.1 hu).1;have:=g1 (i-us.length) (by omega);rw [hu,show o+(n*k+(i-us.length))=o+i by omega] at this;exact this
  ·rw [List.map_append,List.flatten_append,zkJ,zkJ,h4.1];simp [g2.1]
  ·rw [List.map_append,List.flatten_append,List.getElem?_append] at hy;rw [List.getElem?_append] at hu;by_cases hlt:i<us.length
   ·rw [if_pos hlt] at hu;rw [if_pos (by rw [hfl,← h2];exact hlt)] at hy;exact h4.2 i u y hu hy
   ·rw [if_neg hlt] at hu;rw [if_neg (by rw [hfl,← h2];exact hlt),hfl,← h2] at hy;simp only [List.map_cons,List.map_nil,List.flatten_cons,List.flatten_nil,List.append_nil] at hy;exact g2.2 _ u y hu hy
  ·rcases List.mem_append.1 hu with hu | hu
   ·exact h5 u hu
   ·exact g3 u hu
  ·rw [List.range_succ,List.map_append,List.map_append,List.sum_append,zsn];simp only [List.map_cons,List.map_nil,List.sum_cons,List.sum_nil,Rows.uptoBulkAll];omega
  ·rcases List.mem_append.1 hy with hy | hy
   ·exact h7 y hy
   ·rcases List.mem_singleton.1 hy with rfl;exact g5
theorem zsy {t e:TypeId} {c:α→List IV} {sz:α→Nat} {ok:α→Prop} {k:Nat} (ht:Tryz.prog.underlying t=some (.slice e)) (hk:Tryz.prog.cellsOf e=k) (hk0:0<k) (hc:∀ x,(c x).length=k) (O:Opn W enc e c sz ok) :
  Opn W enc t (cL c) (szL sz) (okL ok):=by
 intro fuel cs d ps h hd;rcases open_slice ht h with ⟨rfl,hx⟩ | ⟨a,len,cap,m,n,D,Pl,rfl,_,hl,_,hm,hx,hel⟩
 ·injection hx with hx1 hx2
  subst hx1;refine ⟨[],⟨rfl,fun i u x hu hx=>?_⟩,fun u hu=>?_,by simp [szL,Rows.uptoBulk],fun x hx=>by cases hx⟩
  ·match i,hu,hx with
   | 0,hu,hx =>
    simp at hu hx;subst hu hx;exact .emp _ _
  ·rcases List.mem_singleton.1 hu with rfl;rfl
 ·injection hx with hx1 hx2
  subst hx1;simp only [if_true] at hm;subst hm
  have hbulk:Rows.uptoBulkAll ((List.range len).map D)+1≤Rows.uptoBulk (.slice ((List.range len).map D) ((List.range (m-len)).map fun j=>D (len+j))):=by
   simp only [Rows.uptoBulk];omega
  have hlen:len≤1048576:=by
   have:=bulk_length ((List.range len).map D);simp at this;omega
  by_cases h0:len=0
  ·subst h0;refine ⟨[],⟨rfl,fun i u x hu hx=>?_⟩,fun u hu=>?_,by simp [szL,Rows.uptoBulk],fun x hx=>by cases hx⟩
   ·match i,hu,hx with
    | 0,hu,hx =>
     simp at hu hx;subst hu hx;exact .emp _ _
   ·rcases List.mem_singleton.1 hu with rfl;rfl
  ·obtain ⟨ab,ao,asp⟩:=a;rw [hk] at hel
   have hsp:asp=none:=by
    obtain ⟨cs',h1,_⟩:=hel 0 (by omega);obtain ⟨_,hl',hcell⟩:=World.cells?_some h1;have h2:=hcell 0 hk0;rw [zkM (by omega)] at h2;unfold World.cell? Addr.add at h2;simp only [Nat.zero_mul,if_true] at h2;cases asp with
    | none=>rfl
    | some q =>
     simp at h2;split at h2<;>simp at h2
   subst hsp
   obtain ⟨xs,us,h1,h2,h3,h4,h5,h6,h7⟩:=opn_elems (W:=W) (t:=e) (sz:=sz) (ok:=ok) (b:=ab) (o:=ao) hc D len fun i hi=>by
    obtain ⟨cs',e1,e2⟩:=hel i (by omega);obtain ⟨_,hl',hcell⟩:=World.cells?_some e1;obtain ⟨x,r1,r2,r3,r4⟩:=O _ _ _ _ e2 (Nat.le_trans (bulk_mem (List.mem_map.2 ⟨i,List.mem_range.2 hi,rfl⟩)) (by omega));refine ⟨x,cs',fun j hj=>?_,r1,r2,r3,r4⟩;have:=hcell j hj;rw [addr_add,addr_add,Nat.add_assoc] at this;exact this
   have hblk:ab<W.heap.size:=by
    have hu0:0<us.length:=by rw [h2];exact Nat.mul_pos (by omega) hk0
    exact World.block_lt_of_cell? W _ (h3 0 _ (zkM hu0))
   refine ⟨xs,⟨rfl,fun i u x hu hx=>?_⟩,fun u hu=>?_,?_,h7⟩
   ·match i,hu,hx with
    | 0,hu,hx =>
     simp at hu hx;subst hu hx;refine .sl ab ao m k len (xs.map c) us (by simp [h1]) (fun e he=>by obtain ⟨y,_,rfl⟩:=List.mem_map.1 he;exact hc y) hl (by omega) hblk h4.1 h5 h3 h4.2
   ·rcases List.mem_singleton.1 hu with rfl;rfl
   ·show (xs.map sz).sum+1≤_;omega
def OpnFs (W:World) (enc:TypeId×Value→H) (fs:List Field) (off len:Nat) (c:α→List IV) (sz:α→Nat) (ok:α→Prop):Prop :=
 ∀ (n:Nat) (cs:List Value) (xs:List (DataW H×List MemPlace)),xs.length=fs.length →
  (∀ (i:Nat) f,fs[i]?=some f→DataW.trod enc Tryz.prog W 0 (fun _=>true) true n f.type ((cs.drop f.offset).take (Tryz.prog.cellsOf f.type))=xs[i]?)→Rows.uptoBulkAll (xs.map (·.1))≤1048576 →
  ∃ x,zjm W (lowS W) ((cs.drop off).take len) (c x)∧(∀ u∈(cs.drop off).take len,u.oneCell'=true)∧sz x≤Rows.uptoBulkAll (xs.map (·.1))∧ok x
theorem zhw {off:Nat}:OpnFs W enc [] off 0 (fun _:Unit=>[]) (fun _=>0) okT:=by
 intro n cs xs hx h hb;exact ⟨(),⟨by simp,by simp⟩,by simp,Nat.zero_le _,trivial⟩
theorem zby {f:Field} {fs:List Field} {off k len:Nat} {c1:α→List IV} {c2:β→List IV} {s1:α→Nat} {s2:β→Nat} {ok1:α→Prop} {ok2:β→Prop} (ho:f.offset=off) (hk:Tryz.prog.cellsOf f.type=k)
  (O:Opn W enc f.type c1 s1 ok1) (hc:∀ x,(c1 x).length=k) (R:OpnFs W enc fs (off+k) len c2 s2 ok2) :
  OpnFs W enc (f::fs) off (k+len) (fun p:α×β=>c1 p.1++c2 p.2) (fun p=>s1 p.1+s2 p.2) (fun p=>ok1 p.1∧ok2 p.2):=by
 intro n cs xs hx h hb
 match xs,hx with
 | x::xs,hx =>
  have e0:=h 0 f rfl;rw [ho,hk] at e0;simp only [List.map_cons,Rows.uptoBulkAll] at hb;obtain ⟨a,r1,r2,r3,r4⟩:=O n _ x.1 x.2 e0 (by omega)
  obtain ⟨b,q1,q2,q3,q4⟩:=R n cs xs (by simpa using hx) (fun i g hg=>by
   have:=h (i+1) g (by simpa using hg)
   simpa using this) (by omega)
  have hsplit:(cs.drop off).take (k+len)=(cs.drop off).take k++(cs.drop (off+k)).take len:=by
   rw [List.take_add,List.drop_drop]
  have hl1:((cs.drop off).take k).length=(c1 a).length:=r1.1;refine ⟨(a,b),?_,fun u hu=>?_,by simp only [List.map_cons,Rows.uptoBulkAll];omega,r4,q4⟩
  ·rw [hsplit];refine ⟨by rw [zkJ,zkJ,r1.1,q1.1],fun i u y hu hy=>?_⟩;rw [List.getElem?_append,hl1] at hu;rw [List.getElem?_append] at hy;split at hu
   ·rename_i hlt;rw [if_pos hlt] at hy;exact r1.2 i u y hu hy
   ·rename_i hlt;rw [if_neg hlt] at hy;exact q1.2 _ u y hu hy
  ·rw [hsplit] at hu;rcases List.mem_append.1 hu with hu | hu
   ·exact r2 u hu
   ·exact q2 u hu
theorem zgu {t:TypeId} {fs:Array Field} {len:Nat} {c:α→List IV} {sz:α→Nat} {ok:α→Prop} {c':β→List IV} {sz':β→Nat} {ok':β→Prop} (ht:Tryz.prog.underlying t=some (.struct fs)) (hl:Tryz.prog.cellsOf t=len)
  (R:OpnFs W enc fs.toList 0 len c sz ok) (conv:α→β) (hc:∀ p,c' (conv p)=c p) (hs:∀ p,sz' (conv p)=sz p+1) (ho:∀ p,ok p→ok' (conv p)):Opn W enc t c' sz' ok':=by
 intro fuel cs d ps h hd;obtain ⟨xs,n,rfl,hx,hcl,hxl,hf⟩:=DataW.trod_struct ht h;injection hx with hx1 hx2
 subst hx1;simp only [Rows.uptoBulk] at hd;obtain ⟨x,r1,r2,r3,r4⟩:=R n cs xs (by rw [hxl];simp) (fun i f hi=>hf i f (by simpa using hi)) (by omega);rw [hl] at hcl;have e:(cs.drop 0).take len=cs:=by rw [List.drop_zero,← hcl,List.take_length]
 rw [e] at r1 r2;refine ⟨conv x,by rw [hc];exact r1,r2,?_,ho x r4⟩;rw [hs];simp only [Rows.uptoBulk];omega
theorem zup {t:TypeId} {fs:Array Field} {v:Value} {d:DataW H} {p:List MemPlace} {base:Nat} {c:α→List IV} {sz:α→Nat} {ok:α→Prop} (ht:Tryz.prog.underlying t=some (.struct fs)) (hv:Value.okWide Tryz.prog W .any base t v)
  (h:DataW.Trod enc Tryz.prog W 0 (fun _=>true) true t v d p) (O:Opn W enc t c sz ok) (hb:Rows.uptoBulk d≤1048576):∃ x,RepI W (lowS W) v (.agg (c x))∧sz x≤Rows.uptoBulk d∧ok x:=by
 obtain ⟨cs,rfl,_⟩:=okWide_struct ht hv;obtain ⟨fuel,hf⟩:=h;obtain ⟨x,r1,r2,r3,r4⟩:=O fuel cs.toList d p (by simpa [Value.cells] using hf) hb;refine ⟨x,?_,r3,r4⟩;have:=RepI.agg (w:=W) (S:=lowS W) cs.toList (c x) r1.1 r2 r1.2;simpa using this
theorem sp_law {f:FuncId} {W:World} {vs:List Value} {xs:List Arg} (h:Sp Tryz.prog f xs (.im (nB true))) (ha:zec W (lowS W) vs xs []) :
  Calls Tryz.prog f vs.toArray W fun e W'=>e=.returned (.bool true)∧Below W.heap.size W W':=by
 refine (h.2 W (lowS W) vs [] (fun b hb=>hb) ha List.nodup_nil (fun b hb=>by cases hb)).mono ?_;rintro e W' ⟨v,F',rfl,hb,⟨us,F1,F2,e1,ho,_,_⟩,_,_⟩;have e1:us=[v]:=e1;subst e1;refine ⟨?_,hb.below fun b hb=>by cases hb⟩;obtain ⟨F3,F4,⟨hr,_⟩,_⟩:=ho;cases hr;rfl
end
end
section
open Go.RowKit
set_option maxRecDepth 100000
section
variable {H:Type} {enc:TypeId×Value→H} {W:World}
theorem opn_0:Opn W enc 25 (cL cI) (szL sz1) (okL inR):=zsy (k:=1) Tryz.underlying25 (by kernel_rfl) (by decide) (fun _=>rfl) zgd
theorem opn_1:Opn W enc 22 (cL (cL cI)) (szL (szL sz1)) (okL (okL inR)):=zsy (k:=1) Tryz.underlying22 (by kernel_rfl) (by decide) (fun _=>rfl) opn_0
def zh0 (x:zab):Nat:=(sz1 x.Inputs+(sz1 x.Start+((szL (szL sz1)) x.Next+((szL (szL sz1)) x.Out+0))))+1
def zlw (x:zab):Prop:=inR x.Inputs∧inR x.Start∧(okL (okL inR)) x.Next∧(okL (okL inR)) x.Out
theorem zon:Opn W enc 24 zaf zh0 zlw :=
 zgu (len:=4) Tryz.underlying24 (by kernel_rfl) (zby (k:=1) rfl (by kernel_rfl) zgd (fun _=>rfl) (zby (k:=1) rfl (by kernel_rfl) zgd (fun _=>rfl) (zby (k:=1) rfl (by kernel_rfl) opn_1 (fun _=>rfl) (zby (k:=1) rfl (by kernel_rfl) opn_1 (fun _=>rfl) zhw)))) (fun p=>⟨p.1,p.2.1,p.2.2.1,p.2.2.2.1⟩) (fun _=>rfl) (fun _=>rfl) (fun p h=>⟨h.1,h.2.1,h.2.2.1,h.2.2.2.1⟩)
def zhq (x:zay):Nat:=((szL sz1) x.Step+(sz1 x.Reset+0))+1
def zmz (x:zay):Prop:=(okL inR) x.Step∧inR x.Reset
theorem zsp:Opn W enc 27 zdz zhq zmz :=
 zgu (len:=2) Tryz.underlying27 (by kernel_rfl) (zby (k:=1) rfl (by kernel_rfl) opn_0 (fun _=>rfl) (zby (k:=1) rfl (by kernel_rfl) zgd (fun _=>rfl) zhw)) (fun p=>⟨p.1,p.2.1⟩) (fun _=>rfl) (fun _=>rfl) (fun p h=>⟨h.1,h.2.1⟩)
def zow (x:zbl):Nat:=(sz1 x.Lost+(sz1 x.Wrong+(sz1 x.Crash+0)))+1
def zo1 (x:zbl):Prop:=inR x.Lost∧inR x.Wrong∧inR x.Crash
theorem zt1:Opn W enc 29 c_api_Faults zow zo1 :=
 zgu (len:=3) Tryz.underlying29 (by kernel_rfl) (zby (k:=1) rfl (by kernel_rfl) zgd (fun _=>rfl) (zby (k:=1) rfl (by kernel_rfl) zgd (fun _=>rfl) (zby (k:=1) rfl (by kernel_rfl) zgd (fun _=>rfl) zhw))) (fun p=>⟨p.1,p.2.1,p.2.2.1⟩) (fun _=>rfl) (fun _=>rfl) (fun p h=>⟨h.1,h.2.1,h.2.2.1⟩)
def zib (x:zad):Nat:=(zh0 x.M+(sz1 x.State+(sz1 x.Ready+(zhq x.Latency+(zow x.Faults+(sz1 x.Seed+(sz1 x.Steps+(sz1 x.Resets+(sz1 x.Time+0)))))))))+1
def zn2 (x:zad):Prop:=zlw x.M∧inR x.State∧okT x.Ready∧zmz x.Latency∧zo1 x.Faults∧okU x.Seed∧inR x.Steps∧inR x.Resets∧inR x.Time
theorem ztn:Opn W enc 32 zbn zib zn2 :=
 zgu (len:=15) Tryz.underlying32 (by kernel_rfl) (zby (k:=4) rfl (by kernel_rfl) zon (fun _=>rfl) (zby (k:=1) rfl (by kernel_rfl) zgd (fun _=>rfl) (zby (k:=1) rfl (by kernel_rfl) (opn_bool Tryz.underlying4) (fun _=>rfl) (zby (k:=2) rfl (by kernel_rfl) zsp (fun _=>rfl) (zby (k:=3) rfl (by kernel_rfl) zt1 (fun _=>rfl) (zby (k:=1) rfl (by kernel_rfl) (opn_u64 Tryz.underlying30) (fun _=>rfl) (zby (k:=1) rfl (by kernel_rfl) zgd (fun _=>rfl) (zby (k:=1) rfl (by kernel_rfl) zgd (fun _=>rfl) (zby (k:=1) rfl (by kernel_rfl) zgd (fun _=>rfl) zhw))))))))) (fun p=>⟨p.1,p.2.1,p.2.2.1,p.2.2.2.1,p.2.2.2.2.1,p.2.2.2.2.2.1,p.2.2.2.2.2.2.1,p.2.2.2.2.2.2.2.1,p.2.2.2.2.2.2.2.2.1⟩) (fun _=>rfl) (fun _=>rfl) (fun p h=>⟨h.1,h.2.1,h.2.2.1,h.2.2.2.1,h.2.2.2.2.1,h.2.2.2.2.2.1,h.2.2.2.2.2.2.1,h.2.2.2.2.2.2.2.1,h.2.2.2.2.2.2.2.2.1⟩)
def zel (x:zaa):Nat:=((szL sz1) x.In+((szL sz1) x.Out+0))+1
def zld (x:zaa):Prop:=(okL inR) x.In∧(okL inR) x.Out
theorem opn_api_Trace:Opn W enc 55 zac zel zld :=
 zgu (len:=2) Tryz.underlying55 (by kernel_rfl) (zby (k:=1) rfl (by kernel_rfl) opn_0 (fun _=>rfl) (zby (k:=1) rfl (by kernel_rfl) opn_0 (fun _=>rfl) zhw)) (fun p=>⟨p.1,p.2.1⟩) (fun _=>rfl) (fun _=>rfl) (fun p h=>⟨h.1,h.2.1⟩)
theorem opn_7:Opn W enc 33 (cL zac) (szL zel) (okL zld):=zsy (k:=2) Tryz.underlying33 (by kernel_rfl) (by decide) (fun _=>rfl) opn_api_Trace
def zj0 (x:zan):Nat:=(sz1 x.Inputs+((szL zel) x.Traces+0))+1
def zuz (x:zan):Prop:=inR x.Inputs∧(okL zld) x.Traces
theorem opn_api_Obs:Opn W enc 35 zbd zj0 zuz :=
 zgu (len:=2) Tryz.underlying35 (by kernel_rfl) (zby (k:=1) rfl (by kernel_rfl) zgd (fun _=>rfl) (zby (k:=1) rfl (by kernel_rfl) opn_7 (fun _=>rfl) zhw)) (fun p=>⟨p.1,p.2.1⟩) (fun _=>rfl) (fun _=>rfl) (fun p h=>⟨h.1,h.2.1⟩)
def zif (x:zae):Nat:=(zib x.Device+(zj0 x.Obs+(sz1 x.Votes+(sz1 x.Tries+(sz1 x.Asked+(sz1 x.Hits+0))))))+1
def zkl (x:zae):Prop:=zn2 x.Device∧zuz x.Obs∧inR x.Votes∧inR x.Tries∧inR x.Asked∧inR x.Hits
theorem zt0:Opn W enc 37 zbm zif zkl :=
 zgu (len:=21) Tryz.underlying37 (by kernel_rfl) (zby (k:=15) rfl (by kernel_rfl) ztn (fun _=>rfl) (zby (k:=2) rfl (by kernel_rfl) opn_api_Obs (fun _=>rfl) (zby (k:=1) rfl (by kernel_rfl) zgd (fun _=>rfl) (zby (k:=1) rfl (by kernel_rfl) zgd (fun _=>rfl) (zby (k:=1) rfl (by kernel_rfl) zgd (fun _=>rfl) (zby (k:=1) rfl (by kernel_rfl) zgd (fun _=>rfl) zhw)))))) (fun p=>⟨p.1,p.2.1,p.2.2.1,p.2.2.2.1,p.2.2.2.2.1,p.2.2.2.2.2.1⟩) (fun _=>rfl) (fun _=>rfl) (fun p h=>⟨h.1,h.2.1,h.2.2.1,h.2.2.2.1,h.2.2.2.2.1,h.2.2.2.2.2.1⟩)
def ziv (x:za2):Nat:=(zh0 x.M+((szL (szL sz1)) x.Words+0))+1
def zlr (x:za2):Prop:=zlw x.M∧(okL (okL inR)) x.Words
theorem zqo:Opn W enc 39 zb7 ziv zlr :=
 zgu (len:=5) Tryz.underlying39 (by kernel_rfl) (zby (k:=4) rfl (by kernel_rfl) zon (fun _=>rfl) (zby (k:=1) rfl (by kernel_rfl) opn_1 (fun _=>rfl) zhw)) (fun p=>⟨p.1,p.2.1⟩) (fun _=>rfl) (fun _=>rfl) (fun p h=>⟨h.1,h.2.1⟩)
end
end
end Go.Proofs.YtcneaiejdidooaaGreatDoor.Sym
namespace Go.Proofs.YtcneaiejdidooaaGreatDoor
section
def zaw:List Int→List Int→Nat
 | x::xs,y::ys=>if x=y then zaw xs ys+1 else 0
 | _,_=>0
theorem zg6:∀ xs ys:List Int,zaw xs ys≤xs.length∧zaw xs ys≤ys.length
 | [],_=>by simp [zaw]
 | _::_,[]=>by simp [zaw]
 | x::xs,y::ys=>by
  have h:=zg6 xs ys;simp only [zaw];split<;>simp<;>omega
theorem zps {xs ys:List Int} {k:Nat} (h:xs.length≤k∨ys.length≤k):zaw (xs.drop k) (ys.drop k)=0:=by
 rcases h with h | h
 ·rw [List.drop_eq_nil_of_le h];simp [zaw]
 ·rw [List.drop_eq_nil_of_le h];cases xs.drop k<;>simp [zaw]
theorem zkp:∀ xs:List Int,zaw xs xs=xs.length
 | []=>rfl
 | x::xs=>by simp [zaw,zkp xs]
theorem zsu:∀ xs ys:List Int,zaw xs ys=xs.length→zaw xs ys=ys.length→xs=ys
 | [],[],_,_=>rfl
 | [],y::ys,_,h=>by simp [zaw] at h
 | x::xs,[],h,_=>by simp [zaw] at h
 | x::xs,y::ys,h1,h2=>by
  simp only [zaw] at h1 h2;split at h1
  ·rename_i he;subst he;simp at h1 h2;rw [zsu xs ys h1 h2]
  ·simp at h1
theorem same_iff (xs ys:List Int):(xs.length=ys.length∧zaw xs ys=xs.length)↔xs=ys:=by
 constructor
 ·rintro ⟨h1,h2⟩;exact zsu xs ys h2 (by omega)
 ·rintro rfl;exact ⟨rfl,zkp xs⟩
theorem zj4:∀ w p:List Int,zaw w p=p.length↔p <+: w
 | [],[]=>by simp [zaw]
 | [],y::ys=>by simp [zaw]
 | x::xs,[]=>by simp [zaw]
 | x::xs,y::ys=>by
  simp only [zaw,List.length_cons,List.cons_prefix_cons];by_cases h:x=y
  ·subst h;simp [zj4 xs ys]
  ·rw [if_neg h];constructor
   ·intro h';omega
   ·rintro ⟨rfl,_⟩;exact absurd rfl h
def lexI:List Int→List Int→Int
 | [],[]=>0
 | [],_::_=>-1
 | _::_,[]=>1
 | x::xs,y::ys=>if x<y then -1 else if y<x then 1 else lexI xs ys
def cmpW (a b:List Int):Int:=if a.length<b.length then -1 else if b.length<a.length then 1 else lexI a b
theorem zuy:∀ a b:List Int,lexI a b=-1∨lexI a b=0∨lexI a b=1
 | [],[]=>by simp [lexI]
 | [],_::_=>by simp [lexI]
 | _::_,[]=>by simp [lexI]
 | x::xs,y::ys=>by
  simp only [lexI];split
  ·simp
  ·split
   ·simp
   ·exact zuy xs ys
theorem lexI_zero:∀ a b:List Int,lexI a b=0↔a=b
 | [],[]=>by simp [lexI]
 | [],_::_=>by simp [lexI]
 | _::_,[]=>by simp [lexI]
 | x::xs,y::ys=>by
  simp only [lexI,List.cons.injEq];by_cases h1:x<y
  ·rw [if_pos h1];constructor
   ·intro h;omega
   ·rintro ⟨rfl,_⟩;omega
  ·rw [if_neg h1];by_cases h2:y<x
   ·rw [if_pos h2];constructor
    ·intro h;omega
    ·rintro ⟨rfl,_⟩;omega
   ·rw [if_neg h2,lexI_zero xs ys];constructor
    ·intro h;exact ⟨by omega,h⟩
    ·rintro ⟨_,h⟩;exact h
theorem lexI_swap:∀ a b:List Int,lexI b a=- lexI a b
 | [],[]=>by simp [lexI]
 | [],_::_=>by simp [lexI]
 | _::_,[]=>by simp [lexI]
 | x::xs,y::ys=>by
  simp only [lexI];by_cases h1:x<y
  ·rw [if_neg (show ¬ y<x by omega),if_pos h1,if_pos h1];simp
  ·by_cases h2:y<x
   ·rw [if_pos h2,if_neg h1,if_pos h2]
   ·rw [if_neg h2,if_neg h1,if_neg h1,if_neg h2];exact lexI_swap xs ys
theorem zuj:∀ a b c:List Int,lexI a b=-1→lexI b c=-1→lexI a c=-1
 | [],[],_,h,_=>by simp [lexI] at h
 | [],_::_,[],_,h=>by simp [lexI] at h
 | [],_::_,_::_,_,_=>by simp [lexI]
 | _::_,[],_,h,_=>by simp [lexI] at h
 | _::_,_::_,[],_,h=>by simp [lexI] at h
 | x::xs,y::ys,z::zs,h1,h2=>by
  simp only [lexI] at h1 h2 ⊢;by_cases p:x<y
  ·by_cases q:y<z
   ·rw [if_pos (by omega)]
   ·rw [if_neg q] at h2;by_cases r:z<y
    ·rw [if_pos r] at h2;omega
    ·rw [if_pos (by omega)]
  ·rw [if_neg p] at h1;by_cases p':y<x
   ·rw [if_pos p'] at h1;omega
   ·rw [if_neg p'] at h1;by_cases q:y<z
    ·rw [if_pos (by omega)]
    ·rw [if_neg q] at h2;by_cases r:z<y
     ·rw [if_pos r] at h2;omega
     ·rw [if_neg r] at h2;rw [if_neg (by omega),if_neg (by omega)];exact zuj xs ys zs h1 h2
theorem zsd:∀ a b:List Int,lexI a b =
  if zaw a b=a.length∧zaw a b=b.length then 0 else
  if zaw a b=a.length∨(zaw a b<b.length∧a.getD (zaw a b) 0<b.getD (zaw a b) 0) then -1 else 1
 | [],[]=>by simp [lexI,zaw]
 | [],_::_=>by simp [lexI,zaw]
 | _::_,[]=>by simp [lexI,zaw]
 | x::xs,y::ys=>by
  have ih:=zsd xs ys;simp only [lexI,zaw];by_cases h:x=y
  ·subst h;rw [if_neg (by omega),if_neg (by omega),ih];simp
  ·by_cases h1:x<y
   ·simp [h,h1]
   ·have h2:y<x:=by omega
    simp [h,h1,h2]
theorem zik (a b:List Int):cmpW a b=-1∨cmpW a b=0∨cmpW a b=1:=by
 unfold cmpW;split
 ·simp
 ·split
  ·simp
  ·exact zuy a b
theorem ztb (a b:List Int):cmpW a b=0↔a=b:=by
 unfold cmpW;by_cases h1:a.length<b.length
 ·rw [if_pos h1];constructor
  ·intro h;omega
  ·rintro rfl;omega
 ·rw [if_neg h1];by_cases h2:b.length<a.length
  ·rw [if_pos h2];constructor
   ·intro h;omega
   ·rintro rfl;omega
  ·rw [if_neg h2,lexI_zero]
theorem zob (a b:List Int):cmpW b a=- cmpW a b:=by
 unfold cmpW;by_cases h1:a.length<b.length
 ·rw [if_neg (by omega),if_pos h1,if_pos h1];simp
 ·by_cases h2:b.length<a.length
  ·rw [if_pos h2,if_neg h1,if_pos h2]
  ·rw [if_neg h2,if_neg h1,if_neg h1,if_neg h2];exact lexI_swap a b
theorem zij (a b c:List Int) (h1:cmpW a b=-1) (h2:cmpW b c=-1):cmpW a c=-1:=by
 unfold cmpW at *;by_cases p:a.length<b.length
 ·by_cases q:b.length<c.length
  ·rw [if_pos (by omega)]
  ·rw [if_neg q] at h2;by_cases r:c.length<b.length
   ·rw [if_pos r] at h2;omega
   ·rw [if_pos (by omega)]
 ·rw [if_neg p] at h1;by_cases p':b.length<a.length
  ·rw [if_pos p'] at h1;omega
  ·rw [if_neg p'] at h1;by_cases q:b.length<c.length
   ·rw [if_pos (by omega)]
   ·rw [if_neg q] at h2;by_cases r:c.length<b.length
    ·rw [if_pos r] at h2;omega
    ·rw [if_neg r] at h2;rw [if_neg (by omega),if_neg (by omega)];exact zuj a b c h1 h2
def Asc (l:List (List Int)):Prop:=l.Pairwise fun a b=>cmpW a b=-1
def zha (l:List (List Int)) (w:List Int):Nat:=(l.takeWhile fun x=>cmpW x w==-1).length
def zbs (xs:List Int) (inputs:Int):Int :=
 if 1≤inputs∧inputs≤1024 then if 1024<xs.length then 3 else if xs.all fun a=>decide (0≤a∧a<inputs) then 0 else 1 else 2
theorem Asc.get {l:List (List Int)} (h:Asc l) {i j:Nat} {x y:List Int} (hij:i<j) (hx:l[i]?=some x) (hy:l[j]?=some y):cmpW x y=-1:=by
 have hj:j<l.length:=(List.getElem?_eq_some_iff.1 hy).1;have h1:=List.pairwise_iff_getElem.1 h i j (by omega) hj hij;rw [List.getElem?_eq_getElem (by omega)] at hx;rw [List.getElem?_eq_getElem hj] at hy;injection hx with hx
 injection hy with hy
 rw [← hx,← hy];exact h1
def insW (l:List (List Int)) (x:List Int):List (List Int):=if x∈l then l else l.take (zha l x)++x::l.drop (zha l x)
theorem zta:∀ (l:List (List Int)) (w:List Int),(∀ i x,i<zha l w→l[i]?=some x→cmpW x w=-1)∧(∀ x,l[zha l w]?=some x→cmpW x w≠-1)
 | [],w=>by simp [zha]
 | y::l,w=>by
  have ih:=zta l w;by_cases hy:cmpW y w=-1
  ·have e:zha (y::l) w=zha l w+1:=by simp [zha,hy]
   rw [e];refine ⟨fun i x hi hx=>?_,fun x hx=>ih.2 x (by simpa using hx)⟩;cases i with
   | zero=>simp at hx;rw [← hx];exact hy
   | succ i=>exact ih.1 i x (by omega) (by simpa using hx)
  ·have e:zha (y::l) w=0:=by simp [zha,hy]
   rw [e];refine ⟨fun i x hi=>absurd hi (by omega),fun x hx=>?_⟩;simp at hx;rw [← hx];exact hy
theorem Asc.insW {l:List (List Int)} (h:Asc l) (x:List Int):Asc (insW l x):=by
 unfold Go.Proofs.YtcneaiejdidooaaGreatDoor.insW;split
 ·exact h
 ·rename_i hm;have hs:=zta l x
  have hlo:∀ a∈l.take (zha l x),cmpW a x=-1:=fun a ha=>by
   obtain ⟨i,hi⟩:=List.getElem?_of_mem ha;rw [List.getElem?_take] at hi;split at hi
   ·rename_i hlt;exact hs.1 i a hlt hi
   ·cases hi
  have hhi:∀ b∈l.drop (zha l x),cmpW x b=-1:=fun b hb=>by
   obtain ⟨i,hi⟩:=List.getElem?_of_mem hb;rw [List.getElem?_drop] at hi;have hlen:zha l x+i<l.length:=(List.getElem?_eq_some_iff.1 hi).1;have hg:l[zha l x]?=some l[zha l x]:=List.getElem?_eq_getElem (by omega);have h0:=hs.2 _ hg;have hne:cmpW l[zha l x] x≠0:=fun e=>hm (by rw [← (ztb _ _).1 e];exact List.getElem_mem _);have hr:=zik l[zha l x] x;have h1:cmpW x l[zha l x]=-1:=by rw [zob];omega
   by_cases hi0:i=0
   ·subst hi0;rw [Nat.add_zero,hg] at hi;injection hi with hi
    rw [← hi];exact h1
   ·exact zij _ _ _ h1 (h.get (by omega) hg hi)
  unfold Asc;rw [List.pairwise_append,List.pairwise_cons];refine ⟨List.Pairwise.sublist (List.take_sublist _ _) h,⟨hhi,List.Pairwise.sublist (List.drop_sublist _ _) h⟩,fun a ha b hb=>?_⟩;rcases List.mem_cons.1 hb with rfl | hb
  ·exact hlo a ha
  ·exact zij _ _ _ (hlo a ha) (hhi b hb)
def sortW (l:List (List Int)):List (List Int):=l.foldl insW []
end
section
open Go.RowKit
def zjc (w w':World):Prop:=∀ p u,w.cell? p=some u→w'.cell? p=some u
theorem zjc.refl (w:World):zjc w w:=fun _ _ h=>h
theorem zjc.trans {a b c:World} (h:zjc a b) (k:zjc b c):zjc a c:=fun p u hu=>k p u (h p u hu)
theorem zjc.of_below {w w':World} (h:Below w.heap.size w w'):zjc w w':=fun p _ hu =>
 (h.cell (p:=p) (World.block_lt_of_cell? w p hu)).trans hu
theorem zjc.drewN (w:World) (q:Nat):zjc w (w.drewN q):=fun _ _ h=>h
def zew {α:Type} (w:World) (R:Value→α→Prop) (A:Option Addr) (n c:Nat) (l:List α):Prop :=
 l.length=n∧n≤c∧n≤17592186044416 ∧
  (0<n→∃ b o,A=some ⟨b,o,none⟩∧∀ i x,l[i]?=some x→∃ u,w.cell? ⟨b,o+i,none⟩=some u∧R u x)
def zph (u:Value) (x:Int):Prop:=u=.int .i64 x
def IsI (w:World) (v:Value) (xs:List Int):Prop:=∃ A n c,v=.slice A n c∧zew w zph A n c xs
def IsW (w:World) (v:Value) (l:List (List Int)):Prop:=∃ A n c,v=.slice A n c∧zew w (IsI w) A n c l
def IsL (w:World) (v:Value) (l:List (List (List Int))):Prop:=∃ A n c,v=.slice A n c∧zew w (IsW w) A n c l
section
variable {α:Type} {w w':World} {R R':Value→α→Prop} {A:Option Addr} {n c k:Nat} {l:List α}
theorem zew.len (h:zew w R A n c l):l.length=n:=h.1
theorem zew.cap (h:zew w R A n c l):n≤c:=h.2.1
theorem zew.small (h:zew w R A n c l):n≤17592186044416:=h.2.2.1
theorem zew.keep (h:zew w R A n c l) (hk:zjc w w') (hR:∀ u x,R u x→R' u x):zew w' R' A n c l :=
 ⟨h.1,h.2.1,h.2.2.1,fun hn=>by
  obtain ⟨b,o,e,hc⟩:=h.2.2.2 hn
  refine ⟨b,o,e,fun i x hx=>?_⟩
  obtain ⟨u,hu,hr⟩:=hc i x hx
  exact ⟨u,hk _ _ hu,hR _ _ hr⟩⟩
theorem zew.at_ (h:zew w R A n c l) (hk:k<n):∃ b o u x,A=some ⟨b,o,none⟩∧l[k]?=some x∧w.cell? ⟨b,o+k,none⟩=some u∧R u x:=by
 obtain ⟨b,o,e,hc⟩:=h.2.2.2 (by omega);have hl:k<l.length:=by rw [h.1];exact hk
 obtain ⟨u,hu,hr⟩:=hc k l[k] (List.getElem?_eq_getElem hl);exact ⟨b,o,u,l[k],e,List.getElem?_eq_getElem hl,hu,hr⟩
theorem zew.nil_:zew w R none 0 0 ([]:List α):=⟨rfl,Nat.le_refl _,by omega,fun h=>absurd h (by omega)⟩
theorem zew.take (h:zew w R A n c l) (hk:k≤n):zew w R A k c (l.take k):=by
 refine ⟨by rw [List.length_take,h.1];omega,Nat.le_trans hk h.2.1,Nat.le_trans hk h.2.2.1,fun h0=>?_⟩;obtain ⟨b,o,e,hc⟩:=h.2.2.2 (by omega);refine ⟨b,o,e,fun i x hx=>hc i x ?_⟩;rw [List.getElem?_take] at hx;split at hx
 ·exact hx
 ·cases hx
end
theorem IsI.keep {w w':World} {v:Value} {xs:List Int} (h:IsI w v xs) (hk:zjc w w'):IsI w' v xs:=by
 obtain ⟨A,n,c,e,hr⟩:=h;exact ⟨A,n,c,e,hr.keep hk fun _ _ h=>h⟩
theorem IsW.keep {w w':World} {v:Value} {l:List (List Int)} (h:IsW w v l) (hk:zjc w w'):IsW w' v l:=by
 obtain ⟨A,n,c,e,hr⟩:=h;exact ⟨A,n,c,e,hr.keep hk fun _ _ h=>h.keep hk⟩
theorem IsL.keep {w w':World} {v:Value} {l:List (List (List Int))} (h:IsL w v l) (hk:zjc w w'):IsL w' v l:=by
 obtain ⟨A,n,c,e,hr⟩:=h;exact ⟨A,n,c,e,hr.keep hk fun _ _ h=>h.keep hk⟩
theorem IsI.below {w w':World} {v:Value} {xs:List Int} (h:IsI w v xs) (hb:Below w.heap.size w w'):IsI w' v xs:=h.keep (.of_below hb)
theorem IsW.below {w w':World} {v:Value} {l:List (List Int)} (h:IsW w v l) (hb:Below w.heap.size w w'):IsW w' v l:=h.keep (.of_below hb)
theorem IsL.below {w w':World} {v:Value} {l:List (List (List Int))} (h:IsL w v l) (hb:Below w.heap.size w w'):IsL w' v l:=h.keep (.of_below hb)
theorem IsI.nil_ (w:World):IsI w (.slice none 0 0) []:=⟨_,_,_,rfl,zew.nil_⟩
theorem IsW.nil_ (w:World):IsW w (.slice none 0 0) []:=⟨_,_,_,rfl,zew.nil_⟩
theorem zew.int_at {w:World} {A:Option Addr} {n c k:Nat} {xs:List Int} (h:zew w zph A n c xs) (hk:k<n) :
  ∃ b o x,A=some ⟨b,o,none⟩∧xs[k]?=some x∧w.cell? ⟨b,o+k,none⟩=some (.int .i64 x):=by
 obtain ⟨b,o,u,x,e,hx,hu,rfl⟩:=h.at_ hk;exact ⟨b,o,x,e,hx,hu⟩
theorem drewN_two (w:World) (a b:Nat):∃ r,(w.drewN a).drewN b=w.drewN r:=⟨a+b,by rw [World.drewN_drewN]⟩
theorem zjf {k:IntKind} {a b:Int} (h:a=b):Ending.returned (.int k a)=.returned (.int k b):=by rw [h]
def Qt (w w':World):Prop:=∃ q,w'=w.drewN q
theorem Qt.refl (w:World):Qt w w:=⟨0,rfl⟩
theorem Qt.drewN {w w':World} (h:Qt w w') (n:Nat):Qt w (w'.drewN n):=by
 obtain ⟨q,rfl⟩:=h;exact drewN_two w q n
theorem Qt.keeps {w w':World} (h:Qt w w'):zjc w w':=by
 obtain ⟨q,rfl⟩:=h;exact zjc.drewN w q
theorem Qt.trans {a b c:World} (h:Qt a b) (k:Qt b c):Qt a c:=by
 obtain ⟨q,rfl⟩:=k;exact h.drewN q
theorem zew.kept {α:Type} {w w':World} {R:Value→α→Prop} {A:Option Addr} {n c:Nat} {l:List α} (h:zew w R A n c l) (hk:zjc w w'):zew w' R A n c l:=h.keep hk fun _ _ h=>h
theorem zew.words {w w':World} {A:Option Addr} {n c:Nat} {l:List (List Int)} (h:zew w (IsI w) A n c l) (hk:zjc w w'):zew w' (IsI w') A n c l:=h.keep hk fun _ _ h=>h.keep hk
theorem zew.lists {w w':World} {A:Option Addr} {n c:Nat} {l:List (List (List Int))} (h:zew w (IsW w) A n c l) (hk:zjc w w'):zew w' (IsW w') A n c l:=h.keep hk fun _ _ h=>h.keep hk
theorem zcj {α:Type} {l:List α} {k:Nat} {x:α} (hl:l[k]?=some x):l.take (k+1)=l.take k++[x]:=by
 rw [List.take_add_one,hl];rfl
theorem ziz {α:Type} {l:List α} {k:Nat} {x d:α} (h:l[k]?=some x):l.getD k d=x:=by simp [List.getD_eq_getElem?_getD,h]
end
section
open Go.RowKit
theorem Tryz.infoInt:(Tryz.prog.info? 3).map (fun i=>(i.zero,i.size,i.bytes))=some (some (.int .i64 0),1,8):=by kernel_rfl
theorem addr_add (b o j:Nat):(⟨b,o,none⟩:Addr).add j=⟨b,o+j,none⟩:=by
 unfold Addr.add;split
 ·rename_i h;subst h;rfl
 ·rfl
def Src (w:World) (A:Option Addr) (m:Nat) (news:List Value):Prop :=
 news.length=m∧(0<m→∃ b o,A=some ⟨b,o,none⟩∧∀ j u,news[j]?=some u→w.cell? ⟨b,o+j,none⟩=some u)
section
variable {P:Program} {w:World}
theorem ztu (base:Nat) (t ty e:TypeId) (i:TypeInfo) (z:Value) (bytes:Nat) (ht:P.underlying t=some (.slice e)) (hi:P.info? e=some i) (hz:i.zero=some z)
  (hsize:i.size=1) (hby:i.bytes=bytes) (hzs:z.cells.size=1) (v:Value) (n:Nat) (xs:List Value) (hown:w.ownsRow base e 1 v n xs)
  (A:Option Addr) (m c:Nat) (news:List Value) (hs:Src w A m news) (h1:∀ u∈news,u.oneCell'=true)
  (h63:n+m≤maxLen) (hbytes:(n+m)*bytes≤140737488355328) (hbase:base≤w.heap.size) :
  ∃ v' w',(Builtin.append_ #[t,t] ty #[v,.slice A m c]).run P w=.ok v' w'∧w'.ownsRow base e 1 v' (n+m) (xs++news)∧w.grownBy w' v.ownBlock ∧
   (v'.ownBlock=v.ownBlock∨v'.ownBlock=some w.heap.size):=by
 obtain ⟨hl,hc⟩:=hs;cases A with
 | none =>
  have hm:m=0:=by
   rcases Nat.eq_zero_or_pos m with h0 | h0
   ·exact h0
   ·obtain ⟨b,o,h,_⟩:=hc h0;cases h
  subst hm;have hn:news=[]:=List.eq_nil_of_length_eq_zero hl;subst hn;refine ⟨v,w,?_,by simpa using hown,World.grownBy.refl w _,.inl rfl⟩;rcases hown.2 with ⟨rfl,rfl⟩ | ⟨g,cap,cur,rfl,_,_,hnc,_⟩
  ·simp [Builtin.append_,run_underlying ht,sizeOf,typeInfo,hi,Builtin.lenOf,Builtin.firstCells]
  ·simp [Builtin.append_,run_underlying ht,sizeOf,typeInfo,hi,Builtin.lenOf,Builtin.firstCells,hnc,storeCells]
 | some ad =>
  have hcells:∀ j u,news[j]?=some u→w.cell? (ad.add j)=some u:=by
   intro j u hu;rcases Nat.eq_zero_or_pos m with h0 | h0
   ·subst h0;have hn:news=[]:=List.eq_nil_of_length_eq_zero hl;subst hn;simp at hu
   ·obtain ⟨b,o,h,hcc⟩:=hc h0;injection h with h
    subst h;rw [addr_add];exact hcc j u hu
  obtain ⟨v',w',hrun,h2,h3,_,h5⟩:=run_append_own_at (P:=P) w base t ty e i z 1 bytes ht hi hz hsize hby hzs (by omega) v n xs hown ad m c news (by omega) hcells h1 h63 hbytes hbase;exact ⟨v',w',hrun,h2,h3,h5⟩
theorem wp_append_row {o:Oper} {a:Act} {K:Act→World→Prop} {Q:Exit→Act→World→Prop} (s x:Operand) (t:TypeId)
  (ho:o.op=.call { callee:=.builtin .append,args:=#[s,x],argTypes:=#[t,t] })
  (base:Nat) (e:TypeId) (i:TypeInfo) (z:Value) (bytes:Nat) (ht:P.underlying t=some (.slice e)) (hi:P.info? e=some i) (hz:i.zero=some z)
  (hsize:i.size=1) (hby:i.bytes=bytes) (hzs:z.cells.size=1) (v:Value) (n:Nat) (xs:List Value) (hs:a.eval s=v) (hown:w.ownsRow base e 1 v n xs)
  (A:Option Addr) (m c:Nat) (news:List Value) (hx:a.eval x=.slice A m c) (hsrc:Src w A m news) (h1:∀ u∈news,u.oneCell'=true)
  (h63:n+m≤maxLen) (hbytes:(n+m)*bytes≤140737488355328) (hbase:base≤w.heap.size)
  (h:∀ v' w',w'.ownsRow base e 1 v' (n+m) (xs++news)→w.grownBy w' v.ownBlock→(v'.ownBlock=v.ownBlock∨v'.ownBlock=some w.heap.size)→K (a.put o.dst v') w'):o.wp P a w K Q:=by
 obtain ⟨v',w',hrun,h2,h3,h4⟩:=ztu (P:=P) base t o.type e i z bytes ht hi hz hsize hby hzs v n xs hown A m c news hsrc h1 h63 hbytes hbase;unfold Oper.wp execOp;simp only [ho,resolve,invoke,builtin,Sem.run_bind,Sem.run_pure,Result.andThen_ok,List.map_toArray,List.map_cons,List.map_nil,hs,hx,hrun];exact h v' w' h2 h3 h4
theorem zhn {ops:Array Oper} {rest:List Oper} {o:Oper} {a:Act} {Q:Exit→Act→World→Prop} (hgd:o.guard=none) (s x:Operand) (t:TypeId)
  (ho:o.op=.call { callee:=.builtin .append,args:=#[s,x],argTypes:=#[t,t] })
  (base:Nat) (e:TypeId) (i:TypeInfo) (z:Value) (bytes:Nat) (ht:P.underlying t=some (.slice e)) (hi:P.info? e=some i) (hz:i.zero=some z)
  (hsize:i.size=1) (hby:i.bytes=bytes) (hzs:z.cells.size=1) (v:Value) (n:Nat) (xs:List Value) (hs:a.eval s=v) (hown:w.ownsRow base e 1 v n xs)
  (A:Option Addr) (m c:Nat) (news:List Value) (hx:a.eval x=.slice A m c) (hsrc:Src w A m news) (h1:∀ u∈news,u.oneCell'=true)
  (h63:n+m≤maxLen) (hbytes:(n+m)*bytes≤140737488355328) (hbase:base≤w.heap.size)
  (h:∀ v' w',w'.ownsRow base e 1 v' (n+m) (xs++news)→w.grownBy w' v.ownBlock→(v'.ownBlock=v.ownBlock∨v'.ownBlock=some w.heap.size)→wpList P ops Q rest (a.put o.dst v') w') :
  wpList P ops Q (o::rest) a w :=
 wpList_plain hgd fun _ hK=>wp_append_row s x t ho base e i z bytes ht hi hz hsize hby hzs v n xs hs hown A m c news hx hsrc h1 h63 hbytes hbase fun v' w' h2 h3 h4=>hK _ _ (h v' w' h2 h3 h4)
end
def Off (u:Value) (row:Option Nat):Prop:=∀ a n c,u=.slice (some a) n c→0<n→row≠some a.block
def OwnI (w:World) (base:Nat) (v:Value) (xs:List Int):Prop:=w.ownsRow base 3 1 v xs.length (xs.map (Value.int .i64))
def OwnW (w:World) (base:Nat) (v:Value) (l:List (List Int)):Prop :=
 ∃ us:List Value,us.length=l.length∧w.ownsRow base 25 1 v us.length us ∧
  ∀ (i:Nat) x,l[i]?=some x→∃ u,us[i]?=some u∧IsI w u x∧Off u v.ownBlock
theorem IsI.lt {w:World} {v:Value} {x:List Int} (h:IsI w v x):∀ a n c,v=.slice (some a) n c→0<n→a.block<w.heap.size:=by
 obtain ⟨A,n,c,rfl,hr⟩:=h;rintro a n' c' e h0;injection e with e1 e2 e3
 subst e1 e2;obtain ⟨b,o,u,y,e,_,hu,_⟩:=hr.at_ h0;injection e with e
 subst e;exact World.block_lt_of_cell? w _ hu
theorem IsI.off_new {w:World} {v:Value} {x:List Int} (h:IsI w v x) {g:Nat} (hg:w.heap.size≤g):Off v (some g):=fun a n c e h0 hh=>by
 have:=h.lt a n c e h0;injection hh with hh
 omega
theorem IsI.grown {w w':World} {v:Value} {x:List Int} {row:Option Nat} (h:IsI w v x) (hg:w.grownBy w' row) (ho:Off v row):IsI w' v x:=by
 obtain ⟨A,n,c,rfl,hr⟩:=h;refine ⟨A,n,c,rfl,hr.1,hr.2.1,hr.2.2.1,fun hn=>?_⟩;obtain ⟨b,o,rfl,hc⟩:=hr.2.2.2 hn;refine ⟨b,o,rfl,fun i y hy=>?_⟩;obtain ⟨u,hu,hr'⟩:=hc i y hy;exact ⟨u,hg.cell hu (fun e=>ho _ _ _ rfl hn e.symm),hr'⟩
theorem zki {w w':World} (hg:w.grownBy w' none):zjc w w':=fun _ _ hu=>hg.cell hu (by simp)
theorem zua {w w':World} (h:Below w.heap.size w w'):w.grownBy w' none:=⟨h.os,h.tape,h.output,h.size,fun k hk _=>h.block k hk⟩
theorem zrm {w w':World} {row:Option Nat} (hg:w.grownBy w' row) {B:Nat} (hB:B≤w.heap.size) (hr:∀ g,row=some g→B≤g):Below B w w':=(Below.refl B w).grown hg hB hr
theorem OwnI.nil_ (w:World) (base:Nat):OwnI w base (.slice none 0 0) []:=World.ownsRow_nil _ _ _ _
theorem OwnW.nil_ (w:World) (base:Nat):OwnW w base (.slice none 0 0) []:=⟨[],rfl,World.ownsRow_nil _ _ _ _,fun i x h=>by simp at h⟩
theorem OwnI.lt {w:World} {base:Nat} {v:Value} {xs:List Int} (h:OwnI w base v xs):∀ k,v.ownBlock=some k→base≤k∧k<w.heap.size:=World.ownsRow.lt h
theorem OwnW.lt {w:World} {base:Nat} {v:Value} {l:List (List Int)} (h:OwnW w base v l):∀ k,v.ownBlock=some k→base≤k∧k<w.heap.size:=by
 obtain ⟨us,_,hown,_⟩:=h;exact hown.lt
theorem OwnI.kept {w w':World} {base:Nat} {v:Value} {xs:List Int} {row:Option Nat} (h:OwnI w base v xs) (hg:w.grownBy w' row) (hne:v.ownBlock=none∨v.ownBlock≠row):OwnI w' base v xs :=
 World.ownsRow.kept h hg hne
theorem OwnW.kept {w w':World} {base:Nat} {v:Value} {l:List (List Int)} (h:OwnW w base v l) (hg:w.grownBy w' none):OwnW w' base v l:=by
 obtain ⟨us,hl,hown,hel⟩:=h;refine ⟨us,hl,hown.kept hg (by cases v.ownBlock<;>simp),fun i x hx=>?_⟩;obtain ⟨u,hu,hi,ho⟩:=hel i x hx;exact ⟨u,hu,hi.keep (zki hg),ho⟩
theorem OwnW.alloc {w:World} {base:Nat} {v:Value} {l:List (List Int)} (h:OwnW w base v l) (o:Obj):OwnW (w.alloc o) base v l:=h.kept (World.grownBy_alloc w o none)
theorem OwnI.alloc {w:World} {base:Nat} {v:Value} {xs:List Int} (h:OwnI w base v xs) (o:Obj):OwnI (w.alloc o) base v xs:=World.ownsRow.alloc h o
theorem OwnW.push {w w1 w2:World} {base:Nat} {v v' u:Value} {l:List (List Int)} {x:List Int} {us:List Value} (hl:us.length=l.length)
  (hel:∀ (i:Nat) x,l[i]?=some x→∃ u,us[i]?=some u∧IsI w u x∧Off u v.ownBlock) (hx:IsI w u x) (hoff:Off u v.ownBlock) (h1:w.grownBy w1 none)
  (hown:w2.ownsRow base 25 1 v' (us.length+1) (us++[u])) (hg:w1.grownBy w2 v.ownBlock) (hb:v'.ownBlock=v.ownBlock∨v'.ownBlock=some w1.heap.size):OwnW w2 base v' (l++[x]):=by
 have key:∀ u x,IsI w u x→Off u v.ownBlock→IsI w2 u x∧Off u v'.ownBlock:=fun u x hi ho=>by
  refine ⟨(hi.keep (zki h1)).grown hg ho,?_⟩;rcases hb with e | e
  ·rw [e];exact ho
  ·rw [e];exact hi.off_new h1.size
 refine ⟨us++[u],by simp [hl],by simpa using hown,fun i y hy=>?_⟩;rw [List.getElem?_append] at hy;split at hy
 ·rename_i hi;obtain ⟨u',hu',h3,h4⟩:=hel i y hy;exact ⟨u',by rw [List.getElem?_append,if_pos (by omega)];exact hu',key u' y h3 h4⟩
 ·rename_i hi
  have hi0:i-l.length=0:=by
   rcases Nat.eq_zero_or_pos (i-l.length) with h0 | h0
   ·exact h0
   ·rw [List.getElem?_eq_none (by simp;omega)] at hy;cases hy
  rw [hi0] at hy;simp at hy;subst hy;exact ⟨u,by rw [List.getElem?_append,if_neg (by omega)];simp [hl,hi0],key u x hx hoff⟩
theorem zew.src {w:World} {A:Option Addr} {n c:Nat} {xs:List Int} (h:zew w zph A n c xs):Src w A n (xs.map (Value.int .i64)):=by
 refine ⟨by simp [h.len],fun h0=>?_⟩;obtain ⟨b,o,e,hc⟩:=h.2.2.2 h0;refine ⟨b,o,e,fun j u hu=>?_⟩;rw [List.getElem?_map] at hu;cases hx:xs[j]? with
 | none=>rw [hx] at hu;cases hu
 | some x =>
  rw [hx] at hu;simp at hu;obtain ⟨u',hu',rfl⟩:=hc j x hx;rw [← hu];exact hu'
theorem src_one (w:World) (x:Value) (t:TypeId):Src (w.alloc (.cells #[x] t)) (some ⟨w.heap.size,0,none⟩) 1 [x] :=
 ⟨rfl,fun _=>⟨_,_,rfl,fun j u hu=>by
  have:=cell_one_new w x t j u hu
  rwa [addr_add] at this⟩⟩
end
end Go.Proofs.YtcneaiejdidooaaGreatDoor
namespace Go.Proofs.YtcneaiejdidooaaGreatDoor.Sym
section
open Go.RowKit
section
variable {P:Program} {w:World}
theorem zg1 {ops:Array Oper} {rest:List Oper} {o:Oper} {a:Act} {Q:Exit→Act→World→Prop} (hgd:o.guard=none) (s x:Operand) (t:TypeId)
  (ho:o.op=.call { callee:=.builtin .append,args:=#[s,x],argTypes:=#[t,t] })
  (base:Nat) (e:TypeId) (i:TypeInfo) (z:Value) (size bytes:Nat) (ht:P.underlying t=some (.slice e)) (hi:P.info? e=some i) (hz:i.zero=some z)
  (hsize:i.size=size) (hby:i.bytes=bytes) (hzs:z.cells.size=size) (hsz:0<size) (v:Value) (n:Nat) (xs:List Value) (hs:a.eval s=v) (hown:w.ownsRow base e size v n xs)
  (A:Option Addr) (m c:Nat) (news:List Value) (hx:a.eval x=.slice A m c) (hl:news.length=m*size) (hsrc:0<m→∃ b q,A=some ⟨b,q,none⟩∧∀ (j:Nat) u,news[j]?=some u→w.cell? ⟨b,q+j,none⟩=some u) (h1:∀ u∈news,u.oneCell'=true)
  (h63:n+m≤maxLen) (hbytes:(n+m)*bytes≤140737488355328) (hbase:base≤w.heap.size)
  (h:∀ v' w',w'.ownsRow base e size v' (n+m) (xs++news)→w.grownBy w' v.ownBlock→(v'.ownBlock=v.ownBlock∨v'.ownBlock=some w.heap.size)→wpList P ops Q rest (a.put o.dst v') w') :
  wpList P ops Q (o::rest) a w:=by
 refine wpList_plain hgd fun _ hK=>?_;obtain ⟨v',w',hrun,h2,h3,h4⟩:=zi0 (P:=P) base t o.type e i z size bytes ht hi hz hsize hby hzs hsz v n xs hown A m c news hl hsrc h1 h63 hbytes hbase;unfold Oper.wp execOp;simp only [ho,resolve,invoke,builtin,Sem.run_bind,Sem.run_pure,Result.andThen_ok,List.map_toArray,List.map_cons,List.map_nil,hs,hx,hrun];exact hK _ _ (h v' w' h2 h3 h4)
end
theorem zt9 {a b c:World} {row row':Option Nat} (h:a.grownBy b row) (k:b.grownBy c row') (hr:row'=row∨∀ g,row'=some g→a.heap.size≤g):a.grownBy c row :=
 ⟨k.os.trans h.os,k.tape.trans h.tape,k.output.trans h.output,Nat.le_trans h.size k.size,fun i hi hne =>
  (k.block i (Nat.lt_of_lt_of_le hi h.size) (by
   rcases hr with e | e
   ·rw [e];exact hne
   ·intro he
    have:=e i he.symm
    omega)).trans (h.block i hi hne)⟩
def zr9 (t:TypeId) (k n:Nat) (us:List Value) (w:World) (e:Ending) (w':World):Prop :=
 ∃ v',e=.returned v'∧w'.ownsRow w.heap.size t k v' n us∧Below w.heap.size w w'
theorem zqa (w:World) (t:TypeId) (k:Nat):(w.alloc (.cells #[] t)).ownsRow w.heap.size t k (.slice (some ⟨w.heap.size,0,none⟩) 0 0) 0 []:=by
 refine ⟨by simp,.inr ⟨w.heap.size,0,#[],rfl,Nat.le_refl _,?_,Nat.zero_le _,by unfold maxLen;omega,by simp,by simp⟩⟩;exact heap_alloc_new w _
theorem zsk {g:FuncId} {t:TypeId} {k by_:Nat} (he:∀ args w,(callFunc g args).run Tryz.prog w=.ok (.enter g args) w) (hk0:0<k)
  (h:∀ (w:World) (A:Option Addr) (n c:Nat) (us:List Value),us.length=n*k→(0<n→∃ b q,A=some ⟨b,q,none⟩∧∀ (j:Nat) u,us[j]?=some u→w.cell? ⟨b,q+j,none⟩=some u) →
   (∀ u∈us,u.oneCell'=true)→n≤17592186044416→n*by_≤140737488355328→Calls Tryz.prog g #[.slice A n c] w (zr9 t k n us w))
  {es:List (List IV)} (hk:∀ e∈es,e.length=k) (hc:zbt es.length by_):Sp Tryz.prog g [.im (.sl es)] (.row t k es):=by
 refine ⟨he,fun w S vs F hS hv hn hF=>?_⟩
 match vs,hv with
 | [v],⟨F1,F2,⟨h3,e1⟩,h5,e3⟩ =>
  have h5:F2=[]:=h5;subst e1 h5 e3;obtain ⟨A,c,us,rfl,hl,h1,hlim,hcell,hr⟩:=zun h3 hk;have hlk:us.length=es.length*k:=by rw [hl,zbr hk]
  refine (h w A es.length c us hlk hcell h1 hlim hc.1).mono ?_;rintro e w' ⟨v',rfl,ho,hb⟩
  have ho0:w'.ownsRow 0 t k v' es.length us:=by
   refine ⟨ho.1,?_⟩;rcases ho.2 with h6 | ⟨g1,cap,cur,k1,_,k3⟩
   ·exact .inl h6
   ·exact .inr ⟨g1,cap,cur,k1,Nat.zero_le _,k3⟩
  have hlt:=ho.lt
  have hbk:∀ b∈(zb9 v').toList,w.heap.size≤b∧b<w'.heap.size:=fun b hb=>by
   refine hlt b ?_;rw [znc ho0];simpa using hb
  refine ⟨v',(zb9 v').toList,rfl,.of hb,⟨[v'],(zb9 v').toList,[],rfl,⟨(zb9 v').toList,[],⟨row_one ho0,[],⟨us,hk0,hk,hlim,ho0,hl,h1,fun i u x hu hx=>?_⟩,rfl⟩,rfl,by simp⟩,rfl,by simp⟩,?_,fun b hb=>⟨.inl (hbk b hb).1,(hbk b hb).2⟩⟩
  ·have k1:∀ b,S b→(S b∨w.heap.size≤b∨b∈[])∧b<w'.heap.size∧b∉(zb9 v').toList:=fun b hb'=>⟨.inl hb',Nat.lt_of_lt_of_le (hS b hb') hb.size,fun hm=>by
    have h1:=(hbk b hm).1
    have h2:=hS b hb'
    omega⟩
   have k2:∀ (p:Addr) u,S p.block→w.cell? p=some u→w'.cell? p=some u:=fun p u hp hu=>by
    have h6:=hb.block p.block (hS _ hp)
    have h7:w'.cell? p=w.cell? p:=by
     unfold World.cell?;rw [h6]
    rw [h7];exact hu
   exact (hr i u x hu hx).mono k1 k2
  ·cases zb9 v'<;>simp
end
section
open Go.RowKit
theorem Tryz.infoC_int:(Tryz.prog.info? 3).map (fun i=>(i.zero,i.size,i.bytes))=some (some (.int .i64 0),1,8):=by kernel_rfl
set_option maxRecDepth 100000 in
set_option maxHeartbeats 400000 in
theorem clone_int (w:World) (A:Option Addr) (n c:Nat) (us:List Value) (hl:us.length=n*1) (hs:0<n→∃ b q,A=some ⟨b,q,none⟩∧∀ (j:Nat) u,us[j]?=some u→w.cell? ⟨b,q+j,none⟩=some u)
  (h1:∀ u∈us,u.oneCell'=true) (hn:n≤17592186044416) (hby:n*8≤140737488355328):Calls Tryz.prog 46 #[.slice A n c] w (zr9 3 1 n us w):=by
 obtain ⟨j0,ji,jz0,jz1,jz2⟩:=info_parts Tryz.infoC_int;have hnil:=Lib.run_eql_slice_nil (P:=Tryz.prog) w 25 3 A n c 0 0 Tryz.underlying25;cases A with
 | none =>
  have h0:n=0:=by
   rcases Nat.eq_zero_or_pos n with h | h
   ·exact h
   ·obtain ⟨b,q,e,_⟩:=hs h;cases e
  subst h0;have hxs:us=[]:=List.eq_nil_of_length_eq_zero (by omega);have HX:=Lib.hid hxs;clear hxs hs hl h1
  go_enter Tryz.func46,Tryz.ntmps46
  go_wp2
  go_ret
  rw [HX.out];exact ⟨_,rfl,World.ownsRow_nil _ _ _ _,Below.refl _ _⟩
 | some a =>
  have hsrc:∀ o,0<n→∃ b q,some a=some ⟨b,q,none⟩∧∀ (j:Nat) u,us[j]?=some u→(w.alloc o).cell? ⟨b,q+j,none⟩=some u:=fun o h=>by
   obtain ⟨b,q,e,hc⟩:=hs h;exact ⟨b,q,e,fun j u hu=>zki (World.grownBy_alloc w o none) _ _ (hc j u hu)⟩
  have hc6:0+n≤maxLen:=by unfold maxLen;omega
  have hc7:(0+n)*8≤140737488355328:=by omega
  have hc8:∀ o,w.heap.size≤(w.alloc o).heap.size:=fun o=>by simp
  have HXL:=Lib.hid hl;clear hs
  go_enter Tryz.func46,Tryz.ntmps46
  go_wp2_with (at_builtin;refine zg1 rfl (.tmp 5) (.tmp 6) 25 rfl w.heap.size 3 j0 (.int .i64 0) 1 8 Tryz.underlying25 ji jz0 jz1 jz2 rfl (by decide) (.slice (some ⟨w.heap.size,0,none⟩) 0 0) 0 _ rfl (zqa _ _ _) _ _ _ _ rfl HXL.out (hsrc _) h1 hc6 hc7 (hc8 _) ?_;intro v1 w1 hown1 hg1 hb1)
  go_ret
  have hgr:w.grownBy w1 none:=zt9 (World.grownBy_alloc w _ none) hg1 (.inr fun g e=>by
   have:some w.heap.size=some g:=e
   injection this with this
   omega)
  exact ⟨v1,rfl,by simpa using hown1,zrm hgr (Nat.le_refl _) (fun g e=>by cases e)⟩
theorem Tryz.infoC_words:(Tryz.prog.info? 25).map (fun i=>(i.zero,i.size,i.bytes))=some (some (.slice none 0 0),1,24):=by kernel_rfl
set_option maxRecDepth 100000 in
set_option maxHeartbeats 400000 in
theorem clone_words (w:World) (A:Option Addr) (n c:Nat) (us:List Value) (hl:us.length=n*1) (hs:0<n→∃ b q,A=some ⟨b,q,none⟩∧∀ (j:Nat) u,us[j]?=some u→w.cell? ⟨b,q+j,none⟩=some u)
  (h1:∀ u∈us,u.oneCell'=true) (hn:n≤17592186044416) (hby:n*24≤140737488355328):Calls Tryz.prog 137 #[.slice A n c] w (zr9 25 1 n us w):=by
 obtain ⟨j0,ji,jz0,jz1,jz2⟩:=info_parts Tryz.infoC_words;have hnil:=Lib.run_eql_slice_nil (P:=Tryz.prog) w 22 25 A n c 0 0 Tryz.underlying22;cases A with
 | none =>
  have h0:n=0:=by
   rcases Nat.eq_zero_or_pos n with h | h
   ·exact h
   ·obtain ⟨b,q,e,_⟩:=hs h;cases e
  subst h0;have hxs:us=[]:=List.eq_nil_of_length_eq_zero (by omega);have HX:=Lib.hid hxs;clear hxs hs hl h1
  go_enter Tryz.func137,Tryz.ntmps137
  go_wp2
  go_ret
  rw [HX.out];exact ⟨_,rfl,World.ownsRow_nil _ _ _ _,Below.refl _ _⟩
 | some a =>
  have hsrc:∀ o,0<n→∃ b q,some a=some ⟨b,q,none⟩∧∀ (j:Nat) u,us[j]?=some u→(w.alloc o).cell? ⟨b,q+j,none⟩=some u:=fun o h=>by
   obtain ⟨b,q,e,hc⟩:=hs h;exact ⟨b,q,e,fun j u hu=>zki (World.grownBy_alloc w o none) _ _ (hc j u hu)⟩
  have hc6:0+n≤maxLen:=by unfold maxLen;omega
  have hc7:(0+n)*24≤140737488355328:=by omega
  have hc8:∀ o,w.heap.size≤(w.alloc o).heap.size:=fun o=>by simp
  have HXL:=Lib.hid hl;clear hs
  go_enter Tryz.func137,Tryz.ntmps137
  go_wp2_with (at_builtin;refine zg1 rfl (.tmp 5) (.tmp 6) 22 rfl w.heap.size 25 j0 (.slice none 0 0) 1 24 Tryz.underlying22 ji jz0 jz1 jz2 rfl (by decide) (.slice (some ⟨w.heap.size,0,none⟩) 0 0) 0 _ rfl (zqa _ _ _) _ _ _ _ rfl HXL.out (hsrc _) h1 hc6 hc7 (hc8 _) ?_;intro v1 w1 hown1 hg1 hb1)
  go_ret
  have hgr:w.grownBy w1 none:=zt9 (World.grownBy_alloc w _ none) hg1 (.inr fun g e=>by
   have:some w.heap.size=some g:=e
   injection this with this
   omega)
  exact ⟨v1,rfl,by simpa using hown1,zrm hgr (Nat.le_refl _) (fun g e=>by cases e)⟩
end
end Go.Proofs.YtcneaiejdidooaaGreatDoor.Sym
namespace Go.Proofs.YtcneaiejdidooaaGreatDoor
section
open Go.RowKit
def GrowPost (t:TypeId) (w:World) (e:Ending) (w':World):Prop:=∃ v',e=.returned v'∧w'.ownsRow w.heap.size t 1 v' 0 []∧Below w.heap.size w w'
theorem ownsRow_zeros (w:World) (Z:Array Value) (t:TypeId) (c:Nat) (hc:c≤maxLen) (hZ:Z.size=c) :
  (w.drew.alloc (.cells Z t)).ownsRow w.heap.size t 1 (.slice (some ⟨w.heap.size,0,none⟩) 0 c) 0 []:=by
 refine ⟨rfl,.inr ⟨w.heap.size,c,Z,rfl,Nat.le_refl _,?_,Nat.zero_le _,hc,by omega,by simp⟩⟩;exact heap_alloc_new w.drew _
theorem below_zeros (w:World) (o:Obj):Below w.heap.size w (w.drew.alloc o):=(Below.refl w.heap.size w).drew.alloc (Nat.le_refl _) o
set_option maxRecDepth 100000 in
set_option maxHeartbeats 800000 in
theorem growI_any (n:Nat) (hn:n≤1000000000) (w:World) :
  Calls Tryz.prog 136 #[.slice none 0 0,.int .i64 n] w (GrowPost 3 w):=by
 obtain ⟨i0,hi,hz0,hz1,hz2⟩:=info_parts Tryz.infoInt;have h1:¬ ((n:Int)<0):=by omega
 by_cases h0:n=0
 ·subst h0
  go_enter Tryz.func136,Tryz.ntmps136
  go_wp2
  go_ret
  exact ⟨_,rfl,World.ownsRow_nil _ _ _ _,Below.refl _ _⟩
 ·have h4:(n:Int) > 0:=by omega
  have happ:=Lib.run_append_nil_zeros (P:=Tryz.prog) w 25 3 25 3 i0 (.int .i64 0) .i64 .i64 Tryz.underlying25 Tryz.underlying3 hi hz0 n (by omega) (by omega) (by omega) (by rw [hz2];omega);generalize hcap:grownCap w n 0 3=cap2 at happ;have hcapge:n≤cap2:=by rw [← hcap];exact grownCap_ge w _ 0 _
  have hcaple:cap2≤maxLen:=by rw [← hcap];exact grownCap_le_maxLen w _ 0 _ (by unfold maxLen;omega)
  generalize hZ:(Builtin.zeroCells (Value.cells (.int .i64 0)) n++Builtin.zeroCells (Value.cells (.int .i64 0)) (cap2-n))=Z at happ;have hZs:Z.size=cap2:=by rw [← hZ];simp [size_zeroCells,Value.cells];omega
  have hown:=ownsRow_zeros w Z 3 cap2 hcaple hZs;have hcap63:cap2≤9223372036854775807:=by unfold maxLen at hcaple;omega
  have HO:=Lib.hid (And.intro hown (below_zeros w (.cells Z 3)));clear hcap hZ hown hZs
  go_enter Tryz.func136,Tryz.ntmps136
  go_wp2_with (at_builtin;refine Lib.wpList_append_run _ rfl _ _ _ _ rfl _ _ rfl rfl _ _ happ ?_)
  go_ret
  exact ⟨_,rfl,HO.out.1,HO.out.2⟩
end
end Go.Proofs.YtcneaiejdidooaaGreatDoor
namespace Go.Proofs.YtcneaiejdidooaaGreatDoor.Sym
section
open Go.RowKit
set_option maxRecDepth 100000
theorem sp_of_grow {g:FuncId} {t:TypeId} {n:Int} (he:∀ args w,(callFunc g args).run Tryz.prog w=.ok (.enter g args) w) (h0:0≤n) (h1:n≤1000000000)
  (h:∀ (n:Nat),n≤1000000000→∀ w,Calls Tryz.prog g #[.slice none 0 0,.int .i64 n] w (GrowPost t w)):Sp Tryz.prog g [.im (.val (.slice none 0 0)),.im (nI n)] (.row t 1 []):=by
 refine ⟨he,fun w S vs F hS hv hn hF=>?_⟩
 match vs,hv with
 | [v,u],⟨F1,F2,⟨h3,e1⟩,⟨F3,F4,⟨h4,e2⟩,h5,e3⟩,e4⟩ =>
  have h5:F4=[]:=h5;subst e1 e2 h5 e3 e4;cases h3;cases h4;have hc:=h n.toNat (by omega) w;rw [Int.toNat_of_nonneg h0] at hc;refine hc.mono ?_;rintro e w' ⟨v',rfl,ho,hb⟩
  have ho0:w'.ownsRow 0 t 1 v' 0 []:=by
   refine ⟨ho.1,?_⟩;rcases ho.2 with h6 | ⟨g1,cap,cur,k1,_,k3⟩
   ·exact .inl h6
   ·exact .inr ⟨g1,cap,cur,k1,Nat.zero_le _,k3⟩
  have hlt:=ho.lt
  have hbk:∀ b∈(zb9 v').toList,w.heap.size≤b∧b<w'.heap.size:=fun b hb=>by
   refine hlt b ?_;rw [znc ho0];simpa using hb
  refine ⟨v',(zb9 v').toList,rfl,.of hb,⟨[v'],(zb9 v').toList,[],rfl,⟨(zb9 v').toList,[],⟨row_one ho0,[],⟨[],Nat.one_pos,fun x hx=>by simp at hx,by decide,ho0,rfl,fun u hu=>by simp at hu,fun i u x hu=>by simp at hu⟩,rfl⟩,rfl,by simp⟩,rfl,by simp⟩,?_,fun b hb=>⟨.inl (hbk b hb).1,(hbk b hb).2⟩⟩;cases zb9 v'<;>simp
def zp5 (n:Int):Option (List Int):=chk (0≤n∧n≤1000000000) (some [])
theorem zsq (n:Int) (r:List Int) (h:zp5 n=some r):Sp Tryz.prog 136 [.im (.val (.slice none 0 0)),.im (nI n)] (.row 3 1 (List.map cI r)):=by
 obtain ⟨h1,h⟩:=zai h;injection h with h
 subst h;exact sp_of_grow (fun args w=>zgk rfl rfl rfl args w) h1.1 h1.2 growI_any
end
section
open Go.RowKit Go.Sort
section plain
variable {α:Type}
def totB [DecidableEq α] (f:α→α→Option Int) (l:List α):Bool :=
 l.all fun a=>l.all fun b=>match f a b,f b a with
  | some m,some n=>(decide (m=0)==decide (a=b))&&(decide (m<0)==decide (0<n))&&(decide (-1≤m∧m≤1))&&l.all fun c=>!(decide (m<0)&&(match f b c with | some x=>decide (x<0) | none=>false))||(match f a c with | some x=>decide (x<0) | none=>false)
  | _,_=>false
def insF (f:α→α→Option Int) (x:α):List α→List α
 | []=>[x]
 | y::l=>match f x y with
  | some m=>cond (decide (m≤0)) (x::y::l) (y::insF f x l)
  | none=>x::y::l
def zmw (f:α→α→Option Int):List α→List α
 | []=>[]
 | x::l=>insF f x (zmw f l)
def libSort [DecidableEq α] (l:List α) (f:α→α→Option Int):Option (List α):=chk (l.length≤1000000000) (cond (totB f l) (some (zmw f l)) none)
def cfv (f:α→α→Option Int) (a b:α):Int:=(f a b).getD 0
structure TotF (f:α→α→Option Int) (l:List α):Prop where
 get:∀ a∈l,∀ b∈l,f a b=some (cfv f a b)
 zero:∀ a∈l,∀ b∈l,cfv f a b=0→a=b
 self:∀ a∈l,cfv f a a=0
 swap:∀ a∈l,∀ b∈l,(cfv f a b<0↔0<cfv f b a)
 trans:∀ a∈l,∀ b∈l,∀ c∈l,cfv f a b<0→cfv f b c<0→cfv f a c<0
theorem totB_iff [DecidableEq α] {f:α→α→Option Int} {l:List α} (h:totB f l=true):TotF f l:=by
 have key:∀ a∈l,∀ b∈l,∃ m n,f a b=some m∧f b a=some n∧(m=0↔a=b)∧(m<0↔0<n)∧∀ c∈l,m<0→(∃ x,f b c=some x∧x<0)→∃ x,f a c=some x∧x<0:=by
  intro a ha b hb;have h1:=List.all_eq_true.1 (List.all_eq_true.1 h a ha) b hb;cases e1:f a b with
  | none=>rw [e1] at h1;cases h1
  | some m =>
   cases e2:f b a with
   | none=>rw [e1,e2] at h1;cases h1
   | some n =>
    rw [e1,e2] at h1;simp only [Bool.and_eq_true] at h1;obtain ⟨⟨⟨h2,h3⟩,_⟩,h5⟩:=h1;refine ⟨m,n,rfl,rfl,?_,?_,fun c hc hm ⟨x,hx,hx0⟩=>?_⟩
    ·have h2:=eq_of_beq h2;simpa using h2
    ·have h3:=eq_of_beq h3;simpa using h3
    ·have h6:=List.all_eq_true.1 h5 c hc;rw [hx] at h6;simp only [hm,hx0,decide_true,Bool.and_self,Bool.not_true,Bool.false_or] at h6;cases e3:f a c with
     | none=>rw [e3] at h6;cases h6
     | some y=>rw [e3] at h6;exact ⟨y,rfl,by simpa using h6⟩
 have get:∀ a∈l,∀ b∈l,f a b=some (cfv f a b):=fun a ha b hb=>by
  obtain ⟨m,n,e1,_⟩:=key a ha b hb;unfold cfv;rw [e1];rfl
 refine ⟨get,fun a ha b hb=>?_,fun a ha=>?_,fun a ha b hb=>?_,fun a ha b hb c hc h1 h2=>?_⟩
 ·obtain ⟨m,n,e1,e2,h3,_⟩:=key a ha b hb;rw [get a ha b hb] at e1;injection e1 with e1
  rw [e1];exact h3.1
 ·obtain ⟨m,n,e1,e2,h3,_⟩:=key a ha a ha;rw [get a ha a ha] at e1;injection e1 with e1
  rw [e1];exact h3.2 rfl
 ·obtain ⟨m,n,e1,e2,h3,h4,_⟩:=key a ha b hb;rw [get a ha b hb] at e1;rw [get b hb a ha] at e2;injection e1 with e1
  injection e2 with e2
  rw [e1,e2];exact h4
 ·obtain ⟨m,n,e1,e2,h3,h4,h5⟩:=key a ha b hb;rw [get a ha b hb] at e1;injection e1 with e1
  obtain ⟨x,hx,hx0⟩:=h5 c hc (by omega) ⟨_,get b hb c hc,h2⟩;rw [get a ha c hc] at hx;injection hx with hx
  omega
theorem TotF.sub {f:α→α→Option Int} {l l':List α} (T:TotF f l) (h:∀ x∈l',x∈l):TotF f l' :=
 ⟨fun a ha b hb=>T.get a (h a ha) b (h b hb),fun a ha b hb=>T.zero a (h a ha) b (h b hb),fun a ha=>T.self a (h a ha),fun a ha b hb=>T.swap a (h a ha) b (h b hb),fun a ha b hb c hc=>T.trans a (h a ha) b (h b hb) c (h c hc)⟩
def NGt (f:α→α→Option Int) (a b:α):Prop:=¬ cfv f b a<0
theorem TotF.ngt_trans {f:α→α→Option Int} {l:List α} (T:TotF f l) {a b c:α} (ha:a∈l) (hb:b∈l) (hc:c∈l) (h1:NGt f a b) (h2:NGt f b c):NGt f a c:=by
 intro h3;have s1:=T.swap a ha b hb;have s2:=T.swap b hb c hc;have s3:=T.swap c hc a ha;have t1:=T.swap b hb a ha;have t2:=T.swap c hc b hb;unfold NGt at h1 h2;by_cases e1:cfv f b a=0
 ·have:=T.zero b hb a ha e1;subst this;exact h2 h3
 ·by_cases e2:cfv f c b=0
  ·have:=T.zero c hc b hb e2;subst this;exact h1 h3
  ·have h4:cfv f a b<0:=s1.2 (by omega);have h5:=T.trans c hc a ha b hb h3 h4;exact h2 h5
theorem insF_le {f:α→α→Option Int} {x y:α} {l:List α} {m:Int} (h:f x y=some m) (hm:m≤0):insF f x (y::l)=x::y::l:=by
 simp [insF,h,hm]
theorem insF_gt {f:α→α→Option Int} {x y:α} {l:List α} {m:Int} (h:f x y=some m) (hm:¬ m≤0):insF f x (y::l)=y::insF f x l:=by
 simp [insF,h,hm]
theorem zr6 (f:α→α→Option Int) (x:α):∀ l:List α,(insF f x l).Perm (x::l)
 | []=>List.Perm.refl _
 | y::l=>by
  cases h:f x y with
  | none=>simp [insF,h]
  | some m =>
   by_cases hm:m≤0
   ·rw [insF_le h hm]
   ·rw [insF_gt h hm];exact ((zr6 f x l).cons y).trans (List.Perm.swap x y l)
theorem zhe (f:α→α→Option Int):∀ l:List α,(zmw f l).Perm l
 | []=>List.Perm.refl _
 | x::l=>(zr6 f x _).trans ((zhe f l).cons x)
theorem zrl {f:α→α→Option Int} {x:α}:∀ {l:List α},TotF f (x::l)→l.Pairwise (NGt f)→(insF f x l).Pairwise (NGt f)
 | [],_,_=>List.pairwise_singleton _ _
 | y::l,T,h=>by
  have hx:x∈x::y::l:=by simp
  have hy:y∈x::y::l:=by simp
  have hc:=List.pairwise_cons.1 h;by_cases hd:cfv f x y≤0
  ·rw [insF_le (T.get x hx y hy) hd]
   have hxy:NGt f x y:=fun h0=>by
    have:=(T.swap y hy x hx).1 h0;omega
   exact List.pairwise_cons.2 ⟨fun z hz=>by
    rcases List.mem_cons.1 hz with rfl | hz'
    ·exact hxy
    ·exact T.ngt_trans hx hy (by simp [hz']) hxy (hc.1 z hz'),h⟩
  ·rw [insF_gt (T.get x hx y hy) hd];have hyx:NGt f y x:=by unfold NGt;omega
   refine List.pairwise_cons.2 ⟨fun z hz=>?_,zrl (T.sub fun z hz=>?_) hc.2⟩
   ·rcases List.mem_cons.1 ((zr6 f x l).mem_iff.1 hz) with rfl | hz'
    ·exact hyx
    ·exact hc.1 z hz'
   ·rcases List.mem_cons.1 hz with rfl | hz'
    ·simp
    ·simp [hz']
theorem zn8 {f:α→α→Option Int}:∀ {l:List α},TotF f l→(zmw f l).Pairwise (NGt f)
 | [],_=>List.Pairwise.nil
 | x::l,T=>zrl (T.sub fun z hz=>by
   rcases List.mem_cons.1 hz with rfl | hz'
   ·simp
   ·exact List.mem_cons_of_mem _ ((zhe f l).mem_iff.1 hz')) (zn8 (T.sub fun z hz=>List.mem_cons_of_mem _ hz))
theorem zsi {f:α→α→Option Int}:∀ {l1 l2:List α},TotF f l1→l1.Perm l2→l1.Pairwise (NGt f)→l2.Pairwise (NGt f)→l1=l2
 | [],l2,_,hp,_,_=>(List.nil_perm.1 hp).symm
 | x::l1,[],_,hp,_,_=>absurd hp.length_eq (by simp)
 | x::l1,y::l2,T,hp,h1,h2=>by
  have p1:=List.pairwise_cons.1 h1;have p2:=List.pairwise_cons.1 h2;have hx:x∈x::l1:=by simp
  have hy:y∈x::l1:=hp.mem_iff.2 (by simp)
  have e:x=y:=by
   rcases List.mem_cons.1 hy with e | hy'
   ·exact e.symm
   ·have hxy:=p1.1 y hy';rcases List.mem_cons.1 (hp.mem_iff.1 hx) with e | hx'
    ·exact e
    ·have hyx:=p2.1 x hx';have s1:=T.swap y hy x hx;have s2:=T.swap x hx y hy;unfold NGt at hxy hyx;exact T.zero x hx y hy (by omega)
  subst e;rw [zsi (T.sub fun z hz=>List.mem_cons_of_mem _ hz) (List.Perm.cons_inv hp) p1.2 p2.2]
end plain
section model
variable {α:Type}
def CmpG (P:Program) (g:FuncId) (X:α→IV) (f:α→α→Option Int):Prop :=
 ∀ (W:World) (S:Nat→Prop) (u u':Value) (x y:α) (r:Int),f x y=some r→RepI W S u (X x)→RepI W S u' (X y) →
  Calls P g #[u,u'] W fun e w'=>e=.returned (.int .i64 r)∧∃ q os,w'=Sort.grow (W.drewN q) os
def El (w:World) (S:Nat→Prop) (k:Nat) (c:α→List IV) (l:List α):Type:={ p:List Value×α // p.1.length=k∧(∀ v∈p.1,v.oneCell'=true)∧zjm w S p.1 (c p.2)∧p.2∈l }
variable {w:World} {S:Nat→Prop} {k:Nat} {c:α→List IV} {l:List α}
def El.enc (x:El w S k c l):List Value:=x.val.1
def El.wd (x:El w S k c l):α:=x.val.2
def El.of (us:List Value) (x:α) (h1:us.length=k) (h2:∀ v∈us,v.oneCell'=true) (h3:zjm w S us (c x)) (h4:x∈l):El w S k c l:=⟨(us,x),h1,h2,h3,h4⟩
theorem el_list (hk:∀ x,(c x).length=k):∀ (l0:List α) (us:List Value),(∀ x∈l0,x∈l)→us.length=(l0.map c).flatten.length→(∀ u∈us,u.oneCell'=true) →
  (∀ (i:Nat) u x,us[i]?=some u→(l0.map c).flatten[i]?=some x→RepI w S u x)→∃ zs:List (El w S k c l),(zs.map El.enc).flatten=us∧zs.map El.wd=l0
 | [],us,_,hl,_,_=>⟨[],(List.eq_nil_of_length_eq_zero hl).symm,rfl⟩
 | x::l0,us,hm,hl,h1,hr=>by
  rw [List.map_cons,List.flatten_cons] at hl hr;rw [zkJ,hk] at hl
  obtain ⟨zs,e1,e2⟩:=el_list hk l0 (us.drop k) (fun y hy=>hm y (List.mem_cons_of_mem _ hy)) (by rw [List.length_drop];omega) (fun u hu=>h1 u (List.mem_of_mem_drop hu)) fun i u y hu hy=>by
   rw [List.getElem?_drop] at hu;refine hr (k+i) u y hu ?_;rw [List.getElem?_append,if_neg (by rw [hk];omega),hk]
   rwa [Nat.add_sub_cancel_left]
  have hx1:(us.take k).length=k:=by rw [List.length_take];omega
  have hx2:∀ v∈us.take k,v.oneCell'=true:=fun u hu=>h1 u (List.mem_of_mem_take hu)
  have hx3:zjm w S (us.take k) (c x):=⟨by rw [hx1,hk],fun i u y hu hy=>by
   have hi:i<k:=by
    rw [← hk x]
    exact (zkI.1 hy).1
   rw [List.getElem?_take,if_pos hi] at hu
   exact hr i u y hu (by rw [List.getElem?_append,if_pos (by rw [hk];exact hi)];exact hy)⟩
  refine ⟨El.of (us.take k) x hx1 hx2 hx3 (hm x (by simp))::zs,?_,?_⟩
  ·rw [List.map_cons,List.flatten_cons,e1];exact List.take_append_drop k us
  ·rw [List.map_cons,e2];rfl
theorem el_swo {f:α→α→Option Int} (T:TotF f l):SWO (ltOf fun x y:El w S k c l=>cfv f x.wd y.wd) where
 irrefl x:=by
  have:=T.self x.wd x.property.2.2.2;simp [ltOf,this]
 trans x y z h1 h2:=by
  simp only [ltOf,decide_eq_true_eq] at *;exact T.trans _ x.property.2.2.2 _ y.property.2.2.2 _ z.property.2.2.2 h1 h2
 ntrans x y z h1 h2:=by
  simp only [ltOf,decide_eq_false_iff_not] at *;exact T.ngt_trans z.property.2.2.2 y.property.2.2.2 x.property.2.2.2 h2 h1
def SortC (P:Program) (sg:FuncId) (k:Nat) (mk:List Value→Value):Prop :=
 (∀ (p:Option Addr) (cap:Nat) (fv:Value) (w:World),Calls P sg #[.slice p 0 cap,fv] w fun e w'=>e=.returned (.tuple #[])∧w'=w) ∧
 ∀ (E:Type) [Inhabited E] (enc:E→List Value) (cf:E→E→Int) (g blk cap:Nat) (d:Array E) (w:World),(∀ x,(enc x).length=k)→(∀ x,∀ v∈enc x,v.oneCell'=true)→SWO (ltOf cf) →
  (∀ args w,(callFunc g args).run P w=.ok (.enter g args) w) →
  (∀ (m:Nat) (os:Array Obj) (dk:Array E),dk.size=d.size→∀ x y:E,Calls P g #[mk (enc x),mk (enc y)] (Sort.grow (putRow id (Sort.ahead w m) blk 0 (Go.Sort.flatK enc k dk)) os) fun e w' =>
   e=.returned (.int .i64 (cf x y))∧∃ q os',w'=Sort.grow ((Sort.grow (putRow id (Sort.ahead w m) blk 0 (Go.Sort.flatK enc k dk)) os).drewN q) os') →
  Go.Sort.Holds id w blk 0 (Go.Sort.flatK enc k d)→blk<w.heap.size→d.size<4611686018427387904 →
  Calls P sg #[.slice (some ⟨blk,0,none⟩) d.size cap,.func (.func g) #[] #[]] w fun e w' =>
   e=.returned (.tuple #[])∧∃ d' n os,PermIn 0 d.size d d'∧SortedIn (ltOf cf) 0 d.size d'∧w'=Sort.grow (putRow id (Sort.ahead w n) blk 0 (Go.Sort.flatK enc k d')) os
theorem perm_of_in' {β:Type} [Inhabited β] {d d':Array β} (h:PermIn 0 d.size d d'):d'.toList.Perm d.toList:=by
 obtain ⟨hs,_,hp⟩:=h;have e1:d'.extract 0 d.size=d':=by rw [← hs];simp
 have e2:d.extract 0 d.size=d:=by simp
 rwa [e1,e2] at hp
theorem zr5 {β:Type} [Inhabited β] {lt:β→β→Bool} {d:Array β} {n:Nat} (hn:d.size=n) (h:SortedIn lt 0 n d):d.toList.Pairwise fun a b=>lt b a=false:=by
 rw [List.pairwise_iff_getElem];intro i j hi hj hij;have:=h i j (Nat.zero_le _) hij (by rw [← hn];simpa using hj);simp at hi hj;simpa [getElem!_pos,hi,hj] using this
theorem zu0 {β:Type} [Inhabited β] {enc:β→List Value} {k:Nat} (hk:∀ x,(enc x).length=k) (d:Array β):Go.Sort.flatK enc k d=(d.toList.map enc).flatten.toArray:=by
 have hl:((d.toList.map enc).flatten).length=d.size*k:=by
  rw [zbr (k:=k) fun x hx=>by obtain ⟨y,_,rfl⟩:=List.mem_map.1 hx;exact hk y];simp
 refine ext_get! (by simp [hl]) fun t ht=>?_;rw [size_flatK] at ht;rw [get_flatK _ _ _ t ht]
 have k0:0<k:=by
  rcases Nat.eq_zero_or_pos k with h | h
  ·subst h;simp at ht
  ·exact h
 have hq:t / k<d.size:=Nat.div_lt_of_lt_mul (by rwa [Nat.mul_comm] at ht);have hm:t%k<k:=Nat.mod_lt _ k0;have hg:=flat_get (es:=d.toList.map enc) (i:=t / k) (j:=t%k) (e:=enc (d[t / k]'hq)) (fun x hx=>by obtain ⟨y,_,rfl⟩:=List.mem_map.1 hx;exact hk y) (by simp [hq]) hm;rw [show t / k*k+t%k=t by rw [Nat.mul_comm];exact Nat.div_add_mod t k] at hg;have hm2:t%k<(enc (d[t / k]'hq)).length:=by rw [hk];exact hm
 rw [zkM hm2,zkM (by rw [hl];exact ht)] at hg;injection hg with hg
 rw [getElem!_pos d _ hq,getElem!_pos (enc (d[t / k]'hq)) (t%k) hm2,getElem!_pos ((d.toList.map enc).flatten.toArray) t (by simpa [hl] using ht)];simpa using hg.symm
theorem own_put {w:World} {base:Nat} {e:TypeId} {g n cap k q:Nat} {us us':List Value} {os:Array Obj} (h:w.ownsRow base e k (.slice (some ⟨g,0,none⟩) n cap) n us) (hl:us'.length=n*k) :
  (Sort.grow (putRow id (Sort.ahead w q) g 0 us'.toArray) os).ownsRow base e k (.slice (some ⟨g,0,none⟩) n cap) n us':=by
 rcases h.2 with ⟨e0,_⟩ | ⟨g',cap',cur,e0,hb,hg,hn,hm,hs,ht⟩
 ·cases e0
 ·injection e0 with e1 _ e3
  injection e1 with e1
  injection e1 with e1
  subst e1;subst e3
  have hlt:g<w.heap.size:=by
   rcases Nat.lt_or_ge g w.heap.size with h' | h'
   ·exact h'
   ·rw [Array.getElem?_eq_none h'] at hg;cases hg
  refine ⟨hl,.inr ⟨g,cap,putCells id 0 us'.toArray cur,rfl,hb,?_,hn,hm,by simpa [putCells] using hs,?_⟩⟩
  ·have:g<(putRow id (Sort.ahead w q) g 0 us'.toArray).heap.size:=by simpa [putRow,mapBlock,Sort.ahead] using hlt
   simp only [Sort.grow,Array.getElem?_append,if_pos this];simp [putRow,mapBlock,Sort.ahead,Array.getElem?_modify,hg,onCells]
  ·have hle:n*k≤cap*k:=Nat.mul_le_mul_right k hn;apply List.ext_getElem?;intro j;rw [List.getElem?_take,Array.getElem?_toList];by_cases hj:j<n*k
   ·have hjc:j<cur.size:=by omega
    rw [if_pos hj];simp only [putCells,Array.getElem?_mapIdx,Array.getElem?_eq_getElem hjc,Option.map_some];rw [if_pos (by simp;omega),zkM (by omega)];simp [getElem!_pos,show j<us'.length by omega]
   ·rw [if_neg hj,List.getElem?_eq_none (by omega)]
theorem holds_own {w:World} {base:Nat} {e:TypeId} {g n cap k:Nat} {us:List Value} (h:w.ownsRow base e k (.slice (some ⟨g,0,none⟩) n cap) n us):Go.Sort.Holds id w g 0 us.toArray:=by
 rcases h.2 with ⟨e0,_⟩ | ⟨g',cap',cur,e0,hb,hg,hn,hm,hs,ht⟩
 ·cases e0
 ·injection e0 with e1 _ e3
  injection e1 with e1
  injection e1 with e1
  subst e1;subst e3;intro j hj;have hj':j<us.length:=by simpa using hj
  have hjn:j<n*k:=by rw [← h.1];exact hj'
  have hle:n*k≤cap*k:=Nat.mul_le_mul_right k hn;have hjc:j<cur.size:=by omega
  have e1:(cur.toList.take (n*k))[j]?=us[j]?:=by rw [ht]
  rw [List.getElem?_take,if_pos hjn,Array.getElem?_toList,zkM hj'] at e1;refine ⟨?_,by simp [World.frozen?,hg]⟩;simp only [World.cell?,hg,Nat.zero_add,Option.isSome_none,Bool.false_eq_true,if_false];rw [e1];simp [getElem!_pos,hj']
theorem put_block {w:World} {g q:Nat} {F:Array Value} {os:Array Obj} {b:Nat} (hb:b<w.heap.size) (hne:b≠g):(Sort.grow (putRow id (Sort.ahead w q) g 0 F) os).heap[b]?=w.heap[b]?:=by
 have:b<(putRow id (Sort.ahead w q) g 0 F).heap.size:=by simpa [putRow,mapBlock,Sort.ahead] using hb
 simp only [Sort.grow,Array.getElem?_append,if_pos this];simp [putRow,mapBlock,Sort.ahead,Array.getElem?_modify,Ne.symm hne]
theorem put_cell {w:World} {g q:Nat} {F:Array Value} {os:Array Obj} {p:Addr} {u:Value} (hne:p.block≠g) (h:w.cell? p=some u):(Sort.grow (putRow id (Sort.ahead w q) g 0 F) os).cell? p=some u:=by
 have hlt:=World.block_lt_of_cell? w _ h;unfold World.cell? at h ⊢;rw [put_block hlt hne];exact h
theorem sp_of_sort [DecidableEq α] {P:Program} {sg:FuncId} {mk:List Value→Value} {t:TypeId} {X:α→IV} (he:∀ args w,(callFunc sg args).run P w=.ok (.enter sg args) w) (C:SortC P sg k mk) (hk0:0<k) (hk:∀ x,(c x).length=k)
  (hX:∀ (W:World) (S:Nat→Prop) us x,us.length=k→(∀ v∈us,v.oneCell'=true)→zjm W S us (c x)→RepI W S (mk us) (X x))
  {f:α→α→Option Int} {g:FuncId} (eg:∀ args w,(callFunc g args).run P w=.ok (.enter g args) w) (hg:CmpG P g X f) {l r:List α} (h:libSort l f=some r) :
  Sp P sg [.lent (.row t k (l.map c)),.im (.fn g [])] (.mk true [] [.lent (.row t k (r.map c))]):=by
 obtain ⟨hlen,h⟩:=zai h;cases hT:totB f l with
 | false=>rw [hT] at h;cases h
 | true =>
 rw [hT] at h;injection h with h
 subst h;have T:=totB_iff hT;refine ⟨he,fun w S vs F hS hv hn hF=>?_⟩
 match vs,hv with
 | [v,u],⟨F1,F2,⟨hv1,inn,hrow,e1⟩,⟨F3,F4,⟨h4,e2⟩,h5,e3⟩,e4⟩ =>
  have h5:F4=[]:=h5;have e1:F1=(zb9 v).toList:=e1;subst e1 e2 h5 e3;have e4:F=(zb9 v).toList:=by rw [e4];simp
  subst e4;obtain ⟨us,_,_,hlim,hown,hul,h1,hr⟩:=hrow;rw [zkK] at hown hlim
  have hu:u=.func (.func g) #[] #[]:=by
   generalize hx:IV.fn g []=x at h4;cases h4 with
   | fn f us cs hl hr =>
    injection hx with hx1 hx2
    subst hx1 hx2;have:=List.eq_nil_of_length_eq_zero hl;subst this;rfl
   | _=>cases hx
  subst hu
  have fin:∀ (w':World) (us':List Value),w'.ownsRow 0 t k v l.length us'→us'.length=((zmw f l).map c).flatten.length→(∀ u∈us',u.oneCell'=true) →
    Belo (fun b=>b∈(zb9 v).toList) w.heap.size w w'→(∀ (i:Nat) u x,us'[i]?=some u→((zmw f l).map c).flatten[i]?=some x→RepI w' (fun b=>(S b∨w.heap.size≤b∨b∈(zb9 v).toList)∧b<w'.heap.size∧b∉(zb9 v).toList) u x) →
    ∃ (v1:Value) (F':List Nat),Ending.returned (.tuple #[])=.returned v1∧Belo (fun b=>b∈(zb9 v).toList) w.heap.size w w' ∧
     zqt w' (fun b=>(S b∨w.heap.size≤b∨b∈(zb9 v).toList)∧b<w'.heap.size∧b∉F') v1 (bxVs [v,.func (.func g) #[] #[]] [.lent (.row t k (l.map c)),.im (.fn g [])]) (.mk true [] [.lent (.row t k ((zmw f l).map c))]) F'∧F'.Nodup∧∀ b∈F',(w.heap.size≤b∨b∈(zb9 v).toList)∧b<w'.heap.size:=by
   intro w' us' ho hl' h1' hb hr';refine ⟨_,(zb9 v).toList,rfl,hb,⟨[],[],(zb9 v).toList,rfl,rfl,⟨(zb9 v).toList,[],⟨hv1,inn,⟨us',hk0,fun x hx=>?_,?_,?_,hl',h1',hr'⟩,rfl⟩,rfl,by simp⟩,by simp⟩,hn,fun b hb'=>⟨.inr hb',Nat.lt_of_lt_of_le (hF b hb').2 hb.size⟩⟩
   ·obtain ⟨y,_,rfl⟩:=List.mem_map.1 hx;exact hk y
   ·rw [zkK,(zhe f l).length_eq];exact hlim
   ·rw [zkK,(zhe f l).length_eq];exact ho
  by_cases hnil:v=.slice none 0 0
  ·subst hnil
   have hl0:l.length=0:=by
    rcases hown.2 with ⟨_,h0⟩ | ⟨_,_,_,e,_⟩
    ·exact h0
    ·cases e
   have hl0:l=[]:=List.eq_nil_of_length_eq_zero hl0;subst hl0;refine (C.1 none 0 _ w).mono ?_;rintro e w' ⟨rfl,rfl⟩;have hus:us=[]:=List.eq_nil_of_length_eq_zero (by rw [hul];rfl);subst hus;exact fin w' [] hown rfl (fun u hu=>by cases hu) (Belo.refl _ _ _) fun i u x hu=>by simp at hu
  ·obtain ⟨blk,cap,rfl⟩:∃ blk cap,v=.slice (some ⟨blk,0,none⟩) l.length cap:=by
    rcases hown.2 with ⟨e0,_⟩ | ⟨g,cap,cur,e,_⟩
    ·exact absurd e0 hnil
    ·exact ⟨g,cap,e⟩
   have hblk:blk<w.heap.size:=(hF blk (by simp [zb9])).2;have hnS:¬ S blk:=(hF blk (by simp [zb9])).1;obtain ⟨zs,hz1,hz2⟩:=el_list (w:=w) (S:=S) (l:=l) hk l us (fun x hx=>hx) hul h1 hr;by_cases hl0:l=[]
   ·subst hl0;refine (C.1 (some ⟨blk,0,none⟩) cap _ w).mono ?_;rintro e w' ⟨rfl,rfl⟩;have hus:us=[]:=List.eq_nil_of_length_eq_zero (by rw [hul];rfl);subst hus;exact fin w' [] hown rfl (fun u hu=>by cases hu) (Belo.refl _ _ _) fun i u x hu=>by simp at hu
   ·have hzl:zs.length=l.length:=by have:=congrArg List.length hz2;simpa using this
    obtain ⟨z0,hz0⟩:∃ z,z∈zs:=by
     cases zs with
     | nil=>exact absurd (by simpa using hz2.symm) hl0
     | cons z zs=>exact ⟨z,by simp⟩
    haveI:Inhabited (El w S k c l):=⟨z0⟩
    have henc:∀ x:El w S k c l,(El.enc x).length=k:=fun x=>x.property.1;have hflat:∀ d:Array (El w S k c l),Go.Sort.flatK El.enc k d=(d.toList.map El.enc).flatten.toArray:=zu0 henc
    have hcall:=C.2 (El w S k c l) El.enc (fun x y=>cfv f x.wd y.wd) g blk cap zs.toArray w henc (fun x=>x.property.2.1) (el_swo T) eg (fun m os dk _ x y=>by
      refine hg _ S _ _ x.wd y.wd _ (T.get _ x.property.2.2.2 _ y.property.2.2.2) (hX _ _ _ _ x.property.1 x.property.2.1 ⟨x.property.2.2.1.1,fun i u z hu hz=>?_⟩) (hX _ _ _ _ y.property.1 y.property.2.1 ⟨y.property.2.2.1.1,fun i u z hu hz=>?_⟩)
      ·exact (x.property.2.2.1.2 i u z hu hz).mono (fun _ h=>h) fun p u hp hu=>put_cell (fun e=>hnS (by rw [← e];exact hp)) hu
      ·exact (y.property.2.2.1.2 i u z hu hz).mono (fun _ h=>h) fun p u hp hu=>put_cell (fun e=>hnS (by rw [← e];exact hp)) hu)
     (by rw [hflat];show Go.Sort.Holds id w blk 0 ((zs.map El.enc).flatten).toArray;rw [hz1];exact holds_own hown) hblk (by simp;omega)
    have hsz:zs.toArray.size=l.length:=by simpa using hzl
    rw [hsz] at hcall;refine hcall.mono ?_;rintro e w' ⟨rfl,d',n,os,hp,hs,rfl⟩;have hd':d'.size=l.length:=by rw [hp.1];exact hsz
    have hperm:=perm_of_in' (d:=zs.toArray) (by rw [hsz];exact hp);have hpw:=zr5 hd' hs
    have hwd:d'.toList.map El.wd=zmw f l:=by
     have hp1:(d'.toList.map El.wd).Perm l:=(hperm.map El.wd).trans (List.Perm.of_eq hz2);refine zsi (T.sub fun x hx=>hp1.mem_iff.1 hx) (hp1.trans (zhe f l).symm) ?_ (zn8 T);rw [List.pairwise_map];refine hpw.imp fun {a b} hab=>?_;have hab2:¬ cfv f b.wd a.wd<0:=by simpa only [ltOf,decide_eq_false_iff_not] using hab
     exact hab2
    rw [hflat]
    have hlen':((d'.toList.map El.enc).flatten).length=l.length*k:=by
     rw [zbr (k:=k) fun x hx=>by obtain ⟨y,_,rfl⟩:=List.mem_map.1 hx;exact henc y];simp [hd']
    have hflen:((zmw f l).map c).flatten.length=l.length*k:=by
     rw [zbr (k:=k) fun x hx=>by obtain ⟨y,_,rfl⟩:=List.mem_map.1 hx;exact hk y,zkK,(zhe f l).length_eq]
    refine fin _ _ (own_put hown hlen') (by rw [hlen',hflen]) (fun u hu=>?_) ⟨rfl,rfl,rfl,?_,fun b hb hnb=>put_block hb fun e=>hnb (by simp [zb9,e])⟩ fun i u x hu hx=>?_
    ·obtain ⟨us2,h2,h3⟩:=List.mem_flatten.1 hu;obtain ⟨y,_,rfl⟩:=List.mem_map.1 h2;exact y.property.2.1 u h3
    ·simp [Sort.grow,putRow,mapBlock,Sort.ahead]
    ·have hi:i<l.length*k:=by rw [← hlen'];exact (zkI.1 hu).1
     have hq:i / k<l.length:=Nat.div_lt_of_lt_mul (by rwa [Nat.mul_comm] at hi);have hm:i%k<k:=Nat.mod_lt _ hk0;have hik:i / k*k+i%k=i:=by rw [Nat.mul_comm];exact Nat.div_add_mod i k
     have hq':i / k<d'.size:=by rw [hd'];exact hq
     have g1:=flat_get (es:=d'.toList.map El.enc) (i:=i / k) (j:=i%k) (e:=El.enc (d'[i / k]'hq')) (fun x hx=>by obtain ⟨y,_,rfl⟩:=List.mem_map.1 hx;exact henc y) (by simp [hq']) hm;have g2:=flat_get (es:=(zmw f l).map c) (i:=i / k) (j:=i%k) (e:=c (El.wd (d'[i / k]'hq'))) (fun x hx=>by obtain ⟨y,_,rfl⟩:=List.mem_map.1 hx;exact hk y) (by rw [← hwd];simp [hq']) hm;rw [hik,hu] at g1;rw [hik,hx] at g2;refine ((d'[i / k]'hq').property.2.2.1.2 _ _ _ g1.symm g2.symm).mono (fun b hb=>⟨.inl hb,?_,?_⟩) fun p u hp hu=>put_cell (fun e=>hnS (by rw [← e];exact hp)) hu
     ·have:w.heap.size≤(Sort.grow (putRow id (Sort.ahead w n) blk 0 ((d'.toList.map El.enc).flatten).toArray) os).heap.size:=by simp [Sort.grow,putRow,mapBlock,Sort.ahead]
      exact Nat.lt_of_lt_of_le (hS b hb) this
     ·intro hb';have:b=blk:=by simpa [zb9] using hb'
      subst this;exact hnS hb
end model
end
end Go.Proofs.YtcneaiejdidooaaGreatDoor.Sym
namespace Go.Proofs.YtcneaiejdidooaaGreatDoor
section
def zic (d:Nat):UInt8:=if d<10 then UInt8.ofNat (48+d) else UInt8.ofNat (87+d)
def digsF:Nat→Nat→List UInt8
 | 0,u=>[zic u]
 | f+1,u=>if u<36 then [zic u] else digsF f (u / 36)++[zic (u%36)]
theorem zud:∀ (f g u:Nat),u≤f→u≤g→digsF f u=digsF g u
 | 0,0,_,_,_=>rfl
 | 0,g+1,u,h,_=>by
  have h0:u=0:=by omega
  subst h0;rfl
 | f+1,0,u,_,h=>by
  have h0:u=0:=by omega
  subst h0;rfl
 | f+1,g+1,u,h1,h2=>by
  unfold digsF;by_cases h:u<36
  ·rw [if_pos h,if_pos h]
  ·rw [if_neg h,if_neg h,zud f g (u / 36) (by omega) (by omega)]
def digs (u:Nat):List UInt8:=digsF u u
theorem zhd {u:Nat} (h:u<36):digs u=[zic u]:=by
 unfold digs;cases u with
 | zero=>rfl
 | succ u=>unfold digsF;rw [if_pos h]
theorem zn6 {u:Nat} (h:36≤u):digs u=digs (u / 36)++[zic (u%36)]:=by
 obtain ⟨v,rfl⟩:∃ v,u=v+1:=⟨u-1,by omega⟩;show digsF (v+1) (v+1)=digsF ((v+1) / 36) ((v+1) / 36)++[zic ((v+1)%36)];rw [digsF,if_neg (by omega),zud v ((v+1) / 36) ((v+1) / 36) (by omega) (Nat.le_refl _)]
theorem digs_len:∀ (k u:Nat),u<36^(k+1)→(digs u).length≤k+1
 | 0,u,h=>by rw [zhd (by simpa using h)];simp
 | k+1,u,h=>by
  by_cases h1:u<36
  ·rw [zhd h1];simp
  ·rw [zn6 (by omega),List.length_append];have:=digs_len k (u / 36) (by rw [Nat.div_lt_iff_lt_mul (by omega),← Nat.pow_succ];exact h);simp;omega
theorem zt6 {u:Nat} (h:u<18446744073709551616):(digs u).length≤13 :=
 digs_len 12 u (Nat.lt_of_lt_of_le h (by decide))
theorem digs_pos (u:Nat):0<(digs u).length:=by
 by_cases h1:u<36
 ·rw [zhd h1];simp
 ·rw [zn6 (by omega)];simp
def undig (c:UInt8):Nat:=if c.toNat<58 then c.toNat-48 else c.toNat-87
theorem undig_dig {d:Nat} (h:d<36):undig (zic d)=d:=by
 have:∀ d:Fin 36,undig (zic d.1)=d.1:=by decide
 exact this ⟨d,h⟩
theorem dig_char {d:Nat} (h:d<36):48≤(zic d).toNat:=by
 have:∀ d:Fin 36,48≤(zic d.1).toNat:=by decide
 exact this ⟨d,h⟩
def undigs (l:List UInt8):Nat:=l.foldl (fun n c=>n*36+undig c) 0
theorem zsw (u:Nat):undigs (digs u)=u:=by
 induction u using Nat.strongRecOn with
 | _ u ih =>
  by_cases h1:u<36
  ·rw [zhd h1];simp [undigs,undig_dig h1]
  ·rw [zn6 (by omega),undigs,List.foldl_append];have:=ih (u / 36) (by omega);rw [undigs] at this;simp only [List.foldl_cons,List.foldl_nil,this,undig_dig (Nat.mod_lt u (by omega))];omega
theorem digs_inj {u v:Nat} (h:digs u=digs v):u=v:=by rw [← zsw u,h,zsw]
theorem zrs (u:Nat):∀ c∈digs u,48≤c.toNat:=by
 induction u using Nat.strongRecOn with
 | _ u ih =>
  by_cases h1:u<36
  ·rw [zhd h1];intro c hc;simp at hc;rw [hc];exact dig_char h1
  ·rw [zn6 (by omega)];intro c hc;rw [List.mem_append] at hc;rcases hc with hc | hc
   ·exact ih (u / 36) (by omega) c hc
   ·simp at hc;rw [hc];exact dig_char (Nat.mod_lt u (by omega))
def zk6 (a:Int):List UInt8:=if a<0 then 45::digs a.natAbs else digs a.natAbs
theorem zux (a:Int):∀ c∈zk6 a,c≠32:=by
 intro c hc e;subst e;unfold zk6 at hc;split at hc
 ·simp only [List.mem_cons] at hc;rcases hc with hc | hc
  ·exact absurd hc (by decide)
  ·have:=zrs _ _ hc;exact absurd this (by decide)
 ·have:=zrs _ _ hc;exact absurd this (by decide)
theorem enc36_inj {a b:Int} (h:zk6 a=zk6 b):a=b:=by
 have hne:∀ u v:Nat,45::digs u≠digs v:=fun u v e=>by
  have:=zrs v 45 (by rw [← e];simp);exact absurd this (by decide)
 unfold zk6 at h;split at h<;>split at h
 ·injection h with _ h
  have:=digs_inj h;omega
 ·exact absurd h (hne _ _)
 ·exact absurd h.symm (hne _ _)
 ·have:=digs_inj h;omega
theorem enc36_len {a:Int} (h1:-9223372036854775808≤a) (h2:a≤9223372036854775807):(zk6 a).length≤14:=by
 have:=zt6 (u:=a.natAbs) (by omega);unfold zk6;split<;>simp<;>omega
def keyL:List Int→List UInt8
 | []=>[]
 | a::xs=>zk6 a++32::keyL xs
theorem zrt:∀ xs ys:List Int,keyL (xs++ys)=keyL xs++keyL ys
 | [],_=>rfl
 | a::xs,ys=>by simp [keyL,zrt xs ys]
theorem split_at {c:UInt8}:∀ {xs ys rs ss:List UInt8},(∀ d∈xs,d≠c)→(∀ d∈ys,d≠c)→xs++c::rs=ys++c::ss→xs=ys∧rs=ss
 | [],[],rs,ss,_,_,h=>by simpa using h
 | [],y::ys,rs,ss,_,h2,h=>by
  simp at h;exact absurd h.1.symm (h2 y (by simp))
 | x::xs,[],rs,ss,h1,_,h=>by
  simp at h;exact absurd h.1 (h1 x (by simp))
 | x::xs,y::ys,rs,ss,h1,h2,h=>by
  simp only [List.cons_append,List.cons.injEq] at h;obtain ⟨e1,e2⟩:=split_at (fun d hd=>h1 d (by simp [hd])) (fun d hd=>h2 d (by simp [hd])) h.2;exact ⟨by rw [h.1,e1],e2⟩
theorem keyL_inj:∀ {xs ys:List Int},keyL xs=keyL ys→xs=ys
 | [],[],_=>rfl
 | [],a::ys,h=>by simp [keyL] at h
 | a::xs,[],h=>by simp [keyL] at h
 | a::xs,b::ys,h=>by
  simp only [keyL] at h;obtain ⟨e1,e2⟩:=split_at (zux a) (zux b) h;rw [enc36_inj e1,keyL_inj e2]
theorem keyL_len:∀ {xs:List Int},(∀ x∈xs,-9223372036854775808≤x∧x≤9223372036854775807)→(keyL xs).length≤15*xs.length
 | [],_=>by simp [keyL]
 | a::xs,h=>by
  have h1:=keyL_len (xs:=xs) fun x hx=>h x (by simp [hx]);have h2:=h a (by simp);have h3:=enc36_len h2.1 h2.2;simp only [keyL,List.length_append,List.length_cons];omega
end
section
open Go.RowKit
theorem Tryz.infoByte:(Tryz.prog.info? 5).map (fun i=>(i.zero,i.size,i.bytes))=some (some (.int .u8 0),1,1):=by kernel_rfl
def zhz (l:List UInt8):List Value:=l.map fun b=>.int .u8 (b.toNat:Int)
theorem zol (l:List UInt8):(zhz l).length=l.length:=by simp [zhz]
theorem zkv (l m:List UInt8):zhz (l++m)=zhz l++zhz m:=by simp [zhz]
theorem bcells_one (l:List UInt8):∀ u∈zhz l,u.oneCell'=true:=by
 intro u hu;simp only [zhz,List.mem_map] at hu;obtain ⟨b,_,rfl⟩:=hu;rfl
def OwnB (w:World) (base:Nat) (v:Value) (l:List UInt8):Prop:=w.ownsRow base 5 1 v l.length (zhz l)
theorem OwnB.lt {w:World} {base:Nat} {v:Value} {l:List UInt8} (h:OwnB w base v l):∀ k,v.ownBlock=some k→base≤k∧k<w.heap.size:=World.ownsRow.lt h
theorem OwnB.nil_ (w:World) (base:Nat):OwnB w base (.slice none 0 0) []:=World.ownsRow_nil _ _ _ _
def MoreB (w:World) (base:Nat) (l:List UInt8) (e:Ending) (w':World):Prop:=∃ v',e=.returned v'∧OwnB w' base v' l∧Below base w w'
theorem idx36 (k:IntKind) (z:Int) (d:Nat) (hz:z=(d:Int)) (hd:d<36) (w:World) :
  (Instr.index 9 (.string { data:=#[48,49,50,51,52,53,54,55,56,57,97,98,99,100,101,102,103,104,105,106,107,108,109,110,111,112,113,114,115,116,117,118,119,120,121,122] }) (.int k z)).run Tryz.prog w=.ok (.int .u8 ((zic d).toNat:Int)) w:=by
 subst hz;rw [run_index_string w 9 _ k _ Tryz.underlying9,dif_pos ⟨by omega,by show (d:Int)<((36:Nat):Int);omega⟩];have:∀ d:Fin 36,(({ data:=#[48,49,50,51,52,53,54,55,56,57,97,98,99,100,101,102,103,104,105,106,107,108,109,110,111,112,113,114,115,116,117,118,119,120,121,122] }:ByteArray)[d.1]'(by show d.1<36;exact d.2))=zic d.1:=by decide
 have h:=this ⟨d,hd⟩;simp only [Int.toNat_natCast];rw [h]
def Dig (zs:List Value) (i:Nat) (l:List UInt8):Prop:=zs.length=65∧zs.drop i=zhz l
theorem Dig.push {zs:List Value} {j:Nat} {m:List UInt8} (h:Dig zs (j+1) m) (hj:j<65) (c:UInt8):Dig (zs.set j (.int .u8 (c.toNat:Int))) j (c::m):=by
 obtain ⟨h1,h2⟩:=h;refine ⟨by simpa using h1,?_⟩;rw [List.drop_eq_getElem_cons (by simp;omega),List.getElem_set_self,List.drop_set_of_lt (by omega),h2];rfl
set_option maxRecDepth 100000 in
set_option maxHeartbeats 1600000 in
theorem ztp {B u:Nat} {sv:Value} {l:List UInt8} {w:World} (hu:u<18446744073709551616) (hown:OwnB w B sv l) (hB:B≤w.heap.size) (hl:l.length≤1000000000) :
  Calls Tryz.prog 177 #[sv,.int .u64 u,.int .i64 36,.bool false,.bool true] w (fun e w'=>∃ v',e=.returned (.tuple #[v',.string ByteArray.empty])∧OwnB w' B v' (l++digs u)∧Below B w w'):=by
 obtain ⟨i0,hi,hz0,hz1,hz2⟩:=info_parts Tryz.infoByte;have HOWN:=Lib.hid hown;clear hown;have hbits:(bits BinOp.and IntKind.i64 36 35==0)=false:=by decide
 go_enter Tryz.func177,Tryz.ntmps177
 go_wp2
 go_loopw [1,13,18] (fun v i _ wr=>∃ k j:Nat,∃ m:List UInt8,∃ zs,v=.int .u64 k∧i=.int .i64 j∧k<18446744073709551616∧j+m.length=65∧Hid (digs k++m=digs u)∧Hid (Dig zs j m)∧wr.ownsRow w.heap.size 250 1 (.slice (some ⟨w.heap.size,0,none⟩) 65 65) 65 zs∧Below w.heap.size w wr) (fun v _ _ _=>(intOf v).toNat)
 case atStart=>exact ⟨u,65,[],_,rfl,rfl,hu,rfl,Lib.hid (by simp),Lib.hid ⟨rfl,rfl⟩,World.ownsRow_lit w _ 65 (Nat.le_refl _) (by unfold maxLen;omega) rfl,(Below.refl _ _).alloc (Nat.le_refl _) _⟩
 case round =>
  obtain ⟨k,j,m,zs,rfl,rfl,hk,hj,HD,HZ,hrow,hbel⟩:=hrel
  have hlen:m.length≤12:=by
   have h1:=congrArg List.length HD.out;rw [List.length_append] at h1;have h2:=digs_pos k;have h3:=zt6 hu;omega
  obtain ⟨j,rfl⟩:∃ j':Nat,j=j'+1:=⟨j-1,by omega⟩;have hzl:j<zs.length:=by rw [HZ.out.1];omega
  have q1:wr.cell? ⟨w.heap.size,j,none⟩=some (zs[j]):=by rw [hrow.cellAt j (by omega)];exact List.getElem?_eq_getElem hzl
  have q2:wr.frozen? ⟨w.heap.size,j,none⟩=false:=hrow.frozenAt j;generalize zs[j]=z0 at q1;have HR:=Lib.hid hrow;have HB:=Lib.hid hbel;clear hrow hbel hzl;by_cases h1:36≤k
  ·have e0:((j+1:Nat):Int)-1=(j:Int):=by omega
   have hix:=fun W=>idx36 .u64 ((k:Int)-(k:Int) / 36*36) (k%36) (by omega) (by omega) W
   go_wp2
   go_roundw
   case rel =>
    obtain ⟨s1,s2⟩:=HR.out.stored j (.int .u8 ((zic (k%36)).toNat:Int));exact ⟨k / 36,j,zic (k%36)::m,_,by go_num,rfl,by omega,by simp;omega,Lib.hid (by rw [← HD.out,zn6 h1];simp),Lib.hid (HZ.out.push (by omega) _),s1,HB.out.grown s2 HB.out.size (fun g e=>by injection e with e;omega)⟩
   case measure=>simp [intOf]<;>omega
  ·have e0:((j+1:Nat):Int)-1=(j:Int):=by omega
   have hix:=fun W=>idx36 .u64 (k:Int) k rfl (by omega) W;have hal:Tryz.prog.arrayLen 250=65:=by simp [Program.arrayLen,Tryz.underlying250]
   have hsl:∀ W,(Instr.sliceAt 250 (.pointer (some ⟨w.heap.size,0,none⟩)) (some (.int .i64 (j:Int))) none none).run Tryz.prog W=.ok (.slice (some ⟨w.heap.size,j,none⟩) (65-j) (65-j)) W:=fun W=>by
    rw [run_sliceAt_array_l W 250 ⟨w.heap.size,0,none⟩ (by simp [Program.arrayLen,Program.elem,Tryz.underlying250]) .i64 (j:Int) (by omega) (by rw [hal];omega)]
    go_simp
    omega
   obtain ⟨s1,s2⟩:=HR.out.stored j (.int .u8 ((zic k).toNat:Int));have hb2:Below w.heap.size w (wr.setCell ⟨w.heap.size,j,none⟩ (.int .u8 ((zic k).toNat:Int))):=HB.out.grown s2 HB.out.size (fun g e=>by injection e with e;omega);have hown2:OwnB (wr.setCell ⟨w.heap.size,j,none⟩ (.int .u8 ((zic k).toNat:Int))) B sv l:=World.ownsRow.kept HOWN.out (zua hb2) (by cases sv.ownBlock<;>simp);have hdz:=HZ.out.push (by omega) (zic k)
   have hsrc:Src (wr.setCell ⟨w.heap.size,j,none⟩ (.int .u8 ((zic k).toNat:Int))) (some ⟨w.heap.size,j,none⟩) (65-j) (zhz (zic k::m)):=by
    refine ⟨by rw [zol];simp;omega,fun _=>⟨_,_,rfl,fun i v hv=>?_⟩⟩;have hi:i<(zhz (zic k::m)).length:=(List.getElem?_eq_some_iff.1 hv).1;rw [zol,List.length_cons] at hi;rw [s1.cellAt (j+i) (by omega),← hv,← hdz.2,List.getElem?_drop]
   have hone:=bcells_one (zic k::m);have hc1:l.length+(65-j)≤maxLen:=by unfold maxLen;omega
   have hc2:(l.length+(65-j))*1≤140737488355328:=by omega
   have hc3:B≤(wr.setCell ⟨w.heap.size,j,none⟩ (.int .u8 ((zic k).toNat:Int))).heap.size:=Nat.le_trans hB hb2.size
   have hfull:zhz l++zhz (zic k::m)=zhz (l++digs u):=by
    rw [← zkv,← HD.out,zhd (by omega)];rfl
   have hfl:l.length+(65-j)=(l++digs u).length:=by
    rw [← HD.out,zhd (by omega)];simp;omega
   have HF:=Lib.hid (And.intro hfull hfl);have HB2:=Lib.hid hb2;clear s1 s2 hdz hb2 hfull hfl hal;unfold OwnB at hown2
   go_wp2_with (at_builtin;refine zhn rfl (.tmp 95) (.tmp 97) 192 rfl B 5 i0 (.int .u8 0) 1 Tryz.underlying192 hi hz0 hz1 hz2 rfl sv _ _ rfl hown2 _ (65-j) (65-j) _ rfl hsrc hone hc1 hc2 hc3 ?_;intro v1 w1 hown1 hg1 hb1)
   go_ret2
   have hlt:=hown2;refine ⟨_,rfl,?_,?_⟩
   ·unfold OwnB;rw [← HF.out.1,← HF.out.2];exact hown1
   ·exact (HB2.out.mono hB).grown hg1 hc3 fun g e=>(OwnB.lt hown2 g e).1
set_option maxRecDepth 100000 in
set_option maxHeartbeats 800000 in
theorem zmx {B u:Nat} {sv:Value} {l:List UInt8} {w:World} (hu:u<18446744073709551616) (hown:OwnB w B sv l) (hB:B≤w.heap.size) (hl:l.length≤1000000000) :
  Calls Tryz.prog 159 #[sv,.int .u64 u,.int .i64 36] w (MoreB w B (l++digs u)):=by
 have hcall:=ztp hu hown hB hl;clear hown
 go_enter Tryz.func159,Tryz.ntmps159
 go_wp2_with (go_at_call 177;refine hcall.mono ?_;rintro e w' ⟨v',rfl,hown',hb'⟩)
 go_ret
 exact ⟨_,rfl,hown',hb'⟩
set_option maxRecDepth 100000 in
set_option maxHeartbeats 800000 in
theorem appendInt_any {B:Nat} {a:Int} {sv:Value} {l:List UInt8} {w:World} (ha1:-9223372036854775808≤a) (ha2:a≤9223372036854775807) (hown:OwnB w B sv l) (hB:B≤w.heap.size) (hl:l.length≤100000000) :
  Calls Tryz.prog 144 #[sv,.int .i64 a,.int .i64 36] w (MoreB w B (l++zk6 a)):=by
 obtain ⟨i0,hi,hz0,hz1,hz2⟩:=info_parts Tryz.infoByte;by_cases h1:a<0
 ·have hs1:∀ t,Src (w.alloc (.cells #[.int .u8 45] t)) (some ⟨w.heap.size,0,none⟩) 1 [.int .u8 45]:=fun t=>src_one w _ t;have hone:∀ u∈[Value.int .u8 45],u.oneCell'=true:=by intro u hu;simp at hu;subst hu;rfl
  have hownA:∀ o,(w.alloc o).ownsRow B 5 1 sv l.length (zhz l):=fun o=>World.ownsRow.alloc hown o;have hc1:l.length+1≤maxLen:=by unfold maxLen;omega
  have hc2:(l.length+1)*1≤140737488355328:=by omega
  have hc3:∀ o,B≤(w.alloc o).heap.size:=fun o=>by simp;omega
  have hlt:=OwnB.lt hown;have hB1:∀ o,Below B w (w.alloc o):=fun o=>(Below.refl B w).alloc hB o;have HOWN:=Lib.hid hown;clear hown;have e1:(zk6 a)=45::digs a.natAbs:=by unfold zk6;rw [if_pos h1]
  have HE:=Lib.hid e1;clear e1
  go_enter Tryz.func144,Tryz.ntmps144
  go_wp2_with (at_builtin;refine zhn rfl (.tmp 12) (.tmp 13) 192 rfl B 5 i0 (.int .u8 0) 1 Tryz.underlying192 hi hz0 hz1 hz2 rfl sv _ _ rfl (hownA _) _ 1 1 [.int .u8 45] rfl (hs1 _) hone hc1 hc2 (hc3 _) ?_;intro v1 w1 hown1 hg1 hb1)
  have hw:IntKind.u64.wrap (-IntKind.u64.wrap a)=((a.natAbs:Nat):Int):=by
   rw [IntKind.wrap_u64,IntKind.wrap_u64];omega
  rw [hw]
  have hown2:OwnB w1 B v1 (l++[45]):=by
   unfold OwnB;rw [zkv,List.length_append];exact hown1
  have hb2:Below B w w1:=(hB1 _).grown hg1 (hc3 _) fun g e=>(hlt g e).1;have hcall:=zmx (u:=a.natAbs) (by omega) hown2 (Nat.le_trans hB (by have:=hg1.size;simp at this;omega)) (by simp;omega);clear hown1 hg1 hb1 hown2 hownA hs1 hc3;refine hcall.mono ?_;rintro e w' ⟨v',rfl,hown',hb'⟩
  go_wp2
  go_ret
  refine ⟨_,rfl,?_,hb2.trans hb'⟩;rw [HE.out];simpa using hown'
 ·have HOWN:=Lib.hid hown;have e1:(zk6 a)=digs a.natAbs:=by unfold zk6;rw [if_neg h1]
  have hw:IntKind.u64.wrap a=((a.natAbs:Nat):Int):=by
   rw [IntKind.wrap_u64];omega
  have hcall:=zmx (u:=a.natAbs) (by omega) hown hB (by omega);clear hown
  go_enter Tryz.func144,Tryz.ntmps144
  go_wp2_with (go_at_call 159;refine hcall.mono ?_;rintro e w' ⟨v',rfl,hown',hb'⟩)
  go_ret
  exact ⟨_,rfl,by rw [e1];exact hown',hb'⟩
set_option maxRecDepth 100000 in
theorem zmm {B:Nat} {a:Int} {sv:Value} {l:List UInt8} {w:World} (ha1:-9223372036854775808≤a) (ha2:a≤9223372036854775807) (hown:OwnB w B sv l) (hB:B≤w.heap.size) (hl:l.length≤100000000) :
  Calls Tryz.prog 127 #[sv,.int .i64 a,.int .i64 36] w (MoreB w B (l++zk6 a)):=by
 have hcall:=appendInt_any ha1 ha2 hown hB hl;clear hown
 go_enter Tryz.func127,Tryz.ntmps127
 go_wp2_with (go_at_call 144;refine hcall.mono ?_;rintro e w' ⟨v',rfl,hown',hb'⟩)
 go_ret
 exact ⟨_,rfl,hown',hb'⟩
theorem keyL_take {xs:List Int} {k:Nat} {x:Int} (h:xs[k]?=some x):keyL (xs.take (k+1))=(keyL (xs.take k)++zk6 x)++[32]:=by
 rw [zcj h,zrt];simp [keyL]
def Rng (x:Int):Prop:=-9223372036854775808≤x∧x≤9223372036854775807
def KeyPost (w:World) (l:List UInt8) (e:Ending) (w':World):Prop:=e=.returned (.string ⟨l.toArray⟩)∧Below w.heap.size w w'
set_option maxRecDepth 100000 in
set_option maxHeartbeats 1600000 in
theorem key_any {A:Option Addr} {n c:Nat} {xs:List Int} {w:World} (hx:zew w zph A n c xs) (hr:∀ x∈xs,Rng x) (hn:n≤2000000) :
  Calls Tryz.prog 109 #[.slice A n c] w (KeyPost w (keyL xs)):=by
 have HL:=Lib.hid hx.len;have HR:=Lib.hid hr;obtain ⟨i0,hi,hz0,hz1,hz2⟩:=info_parts Tryz.infoByte;clear hr
 go_enter Tryz.func109,Tryz.ntmps109
 go_wp2
 go_loopw [3,5,8] (fun v _ i wr=>∃ k:Nat,k≤n∧i=.int .i64 k∧OwnB wr w.heap.size v (keyL (xs.take k))∧Below w.heap.size w wr) (fun _ _ i _=>n-(intOf i).toNat)
 case atStart=>exact ⟨0,by omega,rfl,OwnB.nil_ _ _,Below.refl _ _⟩
 case round =>
  obtain ⟨k,hk,rfl,hown,hbel⟩:=hrel
  have hkl:(keyL (xs.take k)).length≤15*k:=by
   have:=keyL_len (xs:=xs.take k) fun x hx=>HR.out x (List.mem_of_mem_take hx);rw [List.length_take] at this;omega
  by_cases h1:k<n
  ·obtain ⟨b,o,x,rfl,hx1,hx2⟩:=hx.int_at h1;have hc:=zjc.of_below hbel _ _ hx2;have hrx:=HR.out x (List.mem_of_getElem? hx1);have HX:=Lib.hid hx1;have HC:=Lib.hid (zmm hrx.1 hrx.2 hown hbel.size (by omega));have hlen:=enc36_len hrx.1 hrx.2;have HB:=Lib.hid hbel;clear hx1 hx2 hrx hown hbel;have hone:∀ u∈[Value.int .u8 32],u.oneCell'=true:=by intro u hu;simp at hu;subst hu;rfl
   have hc1:(keyL (xs.take k)++zk6 x).length+1≤maxLen:=by unfold maxLen;simp;omega
   have hc2:((keyL (xs.take k)++zk6 x).length+1)*1≤140737488355328:=by simp;omega
   go_wp2_with (first | (go_at_call 127;refine HC.out.mono ?_;rintro e w1 ⟨v1,rfl,hown1,hb1⟩;have HH:=Lib.hid (And.intro hown1 hb1);have hs1:=fun t=>src_one w1 (.int .u8 32) t;have hownA:=fun o=>World.ownsRow.alloc hown1 o;have hc3:∀ o,w.heap.size≤(w1.alloc o).heap.size:=(fun o=>by have:=HB.out.size;have:=hb1.size;simp;omega);clear hown1 hb1) | (at_builtin;refine zhn rfl (.tmp 14) (.tmp 15) 192 rfl w.heap.size 5 i0 (.int .u8 0) 1 Tryz.underlying192 hi hz0 hz1 hz2 rfl v1 _ _ rfl (hownA _) _ 1 1 [.int .u8 32] rfl (hs1 _) hone hc1 hc2 (hc3 _) ?_;intro v2 w2 hown2 hg2 hb2))
   have hfin:OwnB w2 w.heap.size v2 (keyL (xs.take (k+1))):=by
    unfold OwnB;rw [keyL_take HX.out,zkv,List.length_append];exact hown2
   have hbel':Below w.heap.size w w2:=((HB.out.trans (HH.out.2.mono (Nat.le_refl _))).alloc (by have:=HB.out.size;have:=HH.out.2.size;omega) _).grown hg2 (hc3 _) fun g e=>(OwnB.lt HH.out.1 g e).1;clear hown2 hg2 hb2 hs1 hownA hc3
   go_roundw
   case rel=>exact ⟨k+1,by omega,by go_num,hfin,hbel'⟩
   case measure=>simp [intOf]<;>omega
  ·rw [List.take_of_length_le (by rw [HL.out];omega)] at hown
   have hconv:(convert 192 9 u3).run Tryz.prog wr=.ok (.string ⟨(keyL xs).toArray⟩) wr:=by
    rcases hown.2 with ⟨rfl,h0⟩ | ⟨g,cap,cur,rfl,_,_,_⟩
    ·have h00:keyL xs=[]:=List.eq_nil_of_length_eq_zero h0;rw [h00];exact Lib.run_convert_nil_bytes wr _ _ _ 0 Tryz.underlying192 Tryz.underlying5 Tryz.underlying9
    ·refine run_convert_bytes_back wr _ _ _ ⟨g,0,none⟩ cap (keyL xs) Tryz.underlying192 Tryz.underlying5 Tryz.underlying9 fun j hj=>?_;rw [hown.cells (g:=g) rfl j (.int .u8 ((keyL xs)[j].toNat:Int)) (by simp [zhz,hj])]
   clear hown
   go_wp2
   go_ret
   exact ⟨rfl,hbel⟩
end
end Go.Proofs.YtcneaiejdidooaaGreatDoor
namespace Go.Proofs.YtcneaiejdidooaaGreatDoor.Sym
section
open Go.RowKit
theorem zjy {w:World} {S:Nat→Prop} {v:Value} {l:List Int} (h:RepI w S v (nL cI l)):∃ A n c,v=.slice A n c∧zew w zph A n c l:=by
 have h:RepI w S v (.sl (l.map cI)):=h;generalize he:l.map cI=es at h;cases h with
 | emp A c =>
  have:l=[]:=by simpa using he
  subst this;exact ⟨A,0,c,rfl,rfl,Nat.zero_le _,by omega,fun h=>by omega⟩
 | sl b o c k n _ us hn hk hc hs hS hl h1 hu hr =>
  subst he
  have hf:(l.map cI).flatten=l.map fun x=>nI x:=by
   clear hn hk hl hr h
   induction l with
   | nil=>rfl
   | cons x l ih=>rw [List.map_cons,List.flatten_cons,ih];rfl
  rw [hf] at hl hr;refine ⟨_,_,_,rfl,by simpa using hn,hc,hs,fun _=>⟨b,o,rfl,fun i x hx=>?_⟩⟩;have hi:i<us.length:=by rw [hl,zkK];exact (zkI.1 hx).1
  have hg:=zkM hi;refine ⟨_,hu i _ hg,?_⟩;have:=hr i _ (nI x) hg (by rw [List.getElem?_map,hx];rfl);generalize us[i]=u at this;cases this with
  | val _=>rfl
def zl9 (l:List Int):Option ByteArray:=chk (∀ x∈l,inR x) (chk (l.length≤2000000) (some ⟨(keyL l).toArray⟩))
set_option maxRecDepth 100000 in
theorem sp_nondet_key (l:List Int) (r:ByteArray) (h:zl9 l=some r):Sp Tryz.prog 109 [.im (nL cI l)] (.im (nS r)):=by
 obtain ⟨h1,h⟩:=zai h;obtain ⟨h2,h⟩:=zai h;injection h with h
 subst h;refine ⟨fun args w=>zgk rfl rfl rfl args w,fun w S vs F hS hv hn hF=>?_⟩
 match vs,hv with
 | [v],⟨F1,F2,⟨h3,e1⟩,h4,e2⟩ =>
  have h4:F2=[]:=h4;subst e1 h4 e2;obtain ⟨A,n,c,rfl,hrow⟩:=zjy h3;refine (key_any hrow h1 (by rw [← hrow.1];exact h2)).mono ?_;rintro e w' ⟨rfl,hb⟩;exact ⟨_,[],rfl,.of hb,⟨[_],[],[],rfl,⟨[],[],⟨.val _,rfl⟩,rfl,rfl⟩,rfl,rfl⟩,List.nodup_nil,fun b hb=>by simp at hb⟩
end
end Go.Proofs.YtcneaiejdidooaaGreatDoor.Sym
namespace Go.Proofs.YtcneaiejdidooaaGreatDoor
section
open Go.RowKit
def cmpI (x y:Int):Int:=if x<y then -1 else if y<x then 1 else 0
theorem zjj (x y:Int) (w:World) :
  Calls Tryz.prog 155 #[.int .i64 x,.int .i64 y] w fun e w'=>e=.returned (.int .i64 (cmpI x y))∧w=w':=by
 by_cases h1:x<y
 ·go_enter Tryz.func155,Tryz.ntmps155
  go_wp2
  go_ret
  exact ⟨zjf (by unfold cmpI;rw [if_pos h1]),rfl⟩
 ·by_cases h2:y<x
  ·go_enter Tryz.func155,Tryz.ntmps155
   go_wp2
   go_ret
   exact ⟨zjf (by unfold cmpI;rw [if_neg (by omega),if_pos h2]),rfl⟩
  ·go_enter Tryz.func155,Tryz.ntmps155
   go_wp2
   go_ret
   exact ⟨zjf (by unfold cmpI;rw [if_neg (by omega),if_neg (by omega)]),rfl⟩
theorem lexI_step {xs ys:List Int} {k:Nat} {x y:Int} (hx:xs[k]?=some x) (hy:ys[k]?=some y) :
  lexI (xs.drop k) (ys.drop k)=if cmpI x y=0 then lexI (xs.drop (k+1)) (ys.drop (k+1)) else cmpI x y:=by
 obtain ⟨h1,h1'⟩:=List.getElem?_eq_some_iff.1 hx;obtain ⟨h2,h2'⟩:=List.getElem?_eq_some_iff.1 hy;rw [List.drop_eq_getElem_cons h1,List.drop_eq_getElem_cons h2,h1',h2'];simp only [lexI,cmpI];by_cases a:x<y
 ·simp [a]
 ·by_cases b:y<x
  ·simp [a,b]
  ·simp [a,b]
theorem lexI_long {xs ys:List Int} {k:Nat} (h1:k<xs.length) (h2:ys.length≤k):lexI (xs.drop k) (ys.drop k)=1:=by
 rw [List.drop_eq_getElem_cons h1,List.drop_eq_nil_of_le h2];rfl
theorem lexI_end {xs ys:List Int} {k:Nat} (h1:xs.length≤k):lexI (xs.drop k) (ys.drop k)=if k<ys.length then -1 else 0:=by
 rw [List.drop_eq_nil_of_le h1];by_cases h2:k<ys.length
 ·rw [if_pos h2,List.drop_eq_getElem_cons h2];rfl
 ·rw [if_neg h2,List.drop_eq_nil_of_le (by omega)];rfl
set_option maxHeartbeats 800000 in
theorem zjp {A B:Option Addr} {n c m c':Nat} {xs ys:List Int} {w:World} (hx:zew w zph A n c xs) (hy:zew w zph B m c' ys) :
  Calls Tryz.prog 141 #[.slice A n c,.slice B m c'] w fun e w'=>e=.returned (.int .i64 (lexI xs ys))∧w=w':=by
 have hn:=hx.small;have hm:=hy.small;have HL:=Lib.hid (And.intro hx.len hy.len)
 go_enter Tryz.func141,Tryz.ntmps141
 go_wp2
 go_loop [5,6,7,8,11] (fun _ _ _ _ i=>∃ k:Nat,k≤n∧k≤m∧i=.int .i64 k∧Hid (lexI xs ys=lexI (xs.drop k) (ys.drop k))) (fun _ _ _ _ i=>n-(intOf i).toNat)
 case atStart=>exact ⟨0,by omega,by omega,rfl,Lib.hid (by simp)⟩
 case round =>
  obtain ⟨k,hk,hk',rfl,HT⟩:=hrel;by_cases h1:k<n
  ·obtain ⟨b,o,x,rfl,hx1,hx2⟩:=hx.int_at h1;have HX:=Lib.hid hx1;clear hx1;by_cases h2:k<m
   ·obtain ⟨b',o',y,rfl,hy1,hy2⟩:=hy.int_at h2;have HY:=Lib.hid hy1;clear hy1;have hst:=lexI_step HX.out HY.out;by_cases h3:cmpI x y=0
    ·rw [if_pos h3] at hst;have HST:=Lib.hid hst;have d3:(cmpI x y != 0)=false:=by simp [h3]
     have H3:=Lib.hid h3;clear h3 hst
     go_wp2_with (go_at_call 155;refine (zjj _ _ _).mono ?_;rintro e w' ⟨rfl,rfl⟩)
     go_round
     case rel=>exact ⟨k+1,by omega,by omega,by go_num,Lib.hid (by rw [HT.out,HST.out])⟩
     case measure=>simp [intOf];omega
    ·rw [if_neg h3] at hst;have HST:=Lib.hid hst;have d3:(cmpI x y != 0)=true:=by simp [h3]
     clear h3 hst
     go_wp2_with (go_at_call 155;refine (zjj _ _ _).mono ?_;rintro e w' ⟨rfl,rfl⟩)
     go_ret
     exact ⟨zjf (by rw [HT.out,HST.out]),rfl⟩
   ·go_wp2
    go_ret
    obtain ⟨h3,h4⟩:=HL.out;exact ⟨zjf (by rw [HT.out,lexI_long (by omega) (by omega)]),rfl⟩
  ·obtain ⟨h3,h4⟩:=HL.out;have HE:=Lib.hid (lexI_end (xs:=xs) (ys:=ys) (k:=k) (by omega));clear h3 h4;by_cases h2:n<m
   ·go_wp2
    go_ret
    obtain ⟨h3,h4⟩:=HL.out;exact ⟨zjf (by rw [HT.out,HE.out,if_pos (by omega)]),rfl⟩
   ·go_wp2
    go_ret
    obtain ⟨h3,h4⟩:=HL.out;exact ⟨zjf (by rw [HT.out,HE.out,if_neg (by omega)]),rfl⟩
theorem wordLex_any {A B:Option Addr} {n c m c':Nat} {xs ys:List Int} {w:World} (hx:zew w zph A n c xs) (hy:zew w zph B m c' ys) :
  Calls Tryz.prog 122 #[.slice A n c,.slice B m c'] w fun e w'=>e=.returned (.int .i64 (lexI xs ys))∧w=w':=by
 go_enter Tryz.func122,Tryz.ntmps122
 go_wp2_with (go_at_call 141;refine (zjp hx hy).mono ?_;rintro e w' ⟨rfl,rfl⟩)
 go_ret
 exact ⟨rfl,rfl⟩
def orI (xs:List Int):Int:=(xs.find? fun a=>a != 0).getD 0
set_option maxHeartbeats 400000 in
theorem cmpOr_any {A:Option Addr} {n c:Nat} {xs:List Int} {w:World} (hx:zew w zph A n c xs) :
  Calls Tryz.prog 154 #[.slice A n c] w fun e w'=>e=.returned (.int .i64 (orI xs))∧w=w':=by
 have hns:=hx.small;have HL:=Lib.hid hx.len
 go_enter Tryz.func154,Tryz.ntmps154
 go_wp2
 go_loop [5,8] (fun _ i=>∃ k:Nat,k≤n∧i=.int .i64 k∧Hid (((xs.take k).find? fun a=>a != 0)=none)) (fun _ i=>n-(intOf i).toNat)
 case atStart=>exact ⟨0,by omega,rfl,Lib.hid (by simp)⟩
 case round =>
  obtain ⟨k,hk,rfl,HT⟩:=hrel;by_cases h1:k<n
  ·obtain ⟨b,o,x,rfl,hx1,hx2⟩:=hx.int_at h1;have HX:=Lib.hid hx1;clear hx1;by_cases h2:x=0
   ·have d2:(x != 0)=false:=by simp [h2]
    have H2:=Lib.hid h2;clear h2
    go_wp2
    go_round
    case rel=>exact ⟨k+1,by omega,by go_num,Lib.hid (by rw [zcj HX.out,List.find?_append,HT.out,H2.out];rfl)⟩
    case measure=>simp [intOf]<;>omega
   ·have d2:(x != 0)=true:=by simp [h2]
    go_wp2
    go_ret
    refine ⟨zjf ?_,rfl⟩;have hsp:=List.take_append_drop (k+1) xs;unfold orI;rw [← hsp,List.find?_append,zcj HX.out,List.find?_append,HT.out];simp [h2]
  ·go_wp2
   go_ret
   have ht:=HT.out;rw [List.take_of_length_le (by rw [HL.out];omega)] at ht;exact ⟨zjf (by unfold orI;rw [ht];rfl),rfl⟩
theorem orI_cmp (xs ys:List Int):orI [cmpI xs.length ys.length,lexI xs ys]=cmpW xs ys:=by
 unfold orI cmpI cmpW;by_cases h1:xs.length<ys.length
 ·rw [if_pos (by omega),if_pos h1];rfl
 ·by_cases h2:ys.length<xs.length
  ·rw [if_neg (by omega),if_pos (by omega),if_neg h1,if_pos h2];rfl
  ·rw [if_neg (by omega),if_neg (by omega),if_neg h1,if_neg h2];by_cases h3:lexI xs ys=0
   ·simp [h3]
   ·simp [h3]
theorem src_two {w:World} (x y:Value) (t:TypeId):Src (w.alloc (.cells #[x,y] t)) (some ⟨w.heap.size,0,none⟩) 2 [x,y] :=
 ⟨rfl,fun _=>⟨_,_,rfl,fun j u hu=>by
  have:=cell_two_new w x y t j u hu
  rwa [addr_add] at this⟩⟩
theorem ints_row {w:World} (x y:Int) (t:TypeId):zew (w.alloc (.cells #[.int .i64 x,.int .i64 y] t)) zph (some ⟨w.heap.size,0,none⟩) 2 2 [x,y]:=by
 refine ⟨rfl,Nat.le_refl _,by omega,fun _=>⟨_,_,rfl,fun i z hz=>?_⟩⟩;obtain ⟨_,hc⟩:=src_two (w:=w) (.int .i64 x) (.int .i64 y) t;obtain ⟨b,o,e,hcc⟩:=hc (by omega);injection e with e
 injection e with e1 e2
 subst e1 e2
 match i,hz with
 | 0,hz =>
  simp at hz;subst hz;exact ⟨_,hcc 0 _ rfl,rfl⟩
 | 1,hz =>
  simp at hz;subst hz;exact ⟨_,hcc 1 _ rfl,rfl⟩
set_option maxHeartbeats 400000 in
theorem zsa {A B:Option Addr} {n c m c':Nat} {xs ys:List Int} {w:World} (hx:zew w zph A n c xs) (hy:zew w zph B m c' ys) :
  Calls Tryz.prog 135 #[.slice A n c,.slice B m c'] w fun e w'=>e=.returned (.int .i64 (cmpW xs ys))∧w.alloc (.cells #[.int .i64 (cmpI xs.length ys.length),.int .i64 (lexI xs ys)] 3)=w':=by
 have hn:=hx.small;have hm:=hy.small;have hc1:=Lib.hid (zjp hx hy);have HE:=Lib.hid (orI_cmp xs ys);have h1:=hx.len;have h2:=hy.len;have HO:=Lib.hid (fun t=>cmpOr_any (ints_row (w:=w) (cmpI xs.length ys.length) (lexI xs ys) t));rw [h1,h2] at HE HO;rw [h1,h2];clear h1 h2 hx hy
 go_enter Tryz.func135,Tryz.ntmps135
 go_wp2_with (first | (go_at_call 155;refine (zjj _ _ _).mono ?_;rintro e w' ⟨rfl,rfl⟩) | (go_at_call 141;refine hc1.out.mono ?_;rintro e w' ⟨rfl,rfl⟩) | (go_at_call 154;refine (HO.out _).mono ?_;rintro e w' ⟨rfl,rfl⟩))
 go_ret
 exact ⟨zjf HE.out,rfl⟩
end
end Go.Proofs.YtcneaiejdidooaaGreatDoor
namespace Go.Proofs
section
open Go.Shelf
def Tryz.sortW_ren:Go.Shelf.Ren:=⟨fun | 6=>138 | 15=>157 | 14=>156 | 28=>172 | 29=>173 | 20=>164 | 21=>165 | 22=>166 | 23=>167 | 24=>168 | 25=>169 | 26=>170 | 27=>171 | 46=>179 | 47=>180 | 48=>181 | 49=>182 | 50=>183 | 57=>189 | n=>n,fun | 22=>22 | 24=>25 | 25=>101 | 3=>3 | 39=>218 | 0=>0 | 53=>234 | 55=>30 | 4=>4 | 46=>228 | 45=>227 | 50=>211 | 5=>5 | 9=>9 | 66=>241 | 70=>245 | 76=>252 | 77=>176 | n=>n,fun | n=>n⟩
theorem Tryz.sortW:Go.Proofs.SlLaysF.n6 Tryz.prog Tryz.sortW_ren:={
 mixed:=by kernel_rfl
 f6:=⟨Tryz.f138.name,by decide,Tryz.func138.trans (congrArg some (by kernel_rfl))⟩
 f14:=⟨Tryz.f156.name,by decide,Tryz.func156.trans (congrArg some (by kernel_rfl))⟩
 f15:=Tryz.func157.trans (congrArg some (by kernel_rfl))
 f20:=⟨Tryz.f164.name,by decide,Tryz.func164.trans (congrArg some (by kernel_rfl))⟩
 f21:=⟨Tryz.f165.name,by decide,Tryz.func165.trans (congrArg some (by kernel_rfl))⟩
 f22:=⟨Tryz.f166.name,by decide,Tryz.func166.trans (congrArg some (by kernel_rfl))⟩
 f23:=⟨Tryz.f167.name,by decide,Tryz.func167.trans (congrArg some (by kernel_rfl))⟩
 f24:=⟨Tryz.f168.name,by decide,Tryz.func168.trans (congrArg some (by kernel_rfl))⟩
 f25:=⟨Tryz.f169.name,by decide,Tryz.func169.trans (congrArg some (by kernel_rfl))⟩
 f26:=⟨Tryz.f170.name,by decide,Tryz.func170.trans (congrArg some (by kernel_rfl))⟩
 f27:=⟨Tryz.f171.name,by decide,Tryz.func171.trans (congrArg some (by kernel_rfl))⟩
 f28:=Tryz.func172.trans (congrArg some (by kernel_rfl))
 f29:=Tryz.func173.trans (congrArg some (by kernel_rfl))
 f46:=⟨Tryz.f179.name,by decide,Tryz.func179.trans (congrArg some (by kernel_rfl))⟩
 f47:=Tryz.func180.trans (congrArg some (by kernel_rfl))
 f48:=Tryz.func181.trans (congrArg some (by kernel_rfl))
 f49:=⟨Tryz.f182.name,by decide,Tryz.func182.trans (congrArg some (by kernel_rfl))⟩
 f50:=⟨Tryz.f183.name,by decide,Tryz.func183.trans (congrArg some (by kernel_rfl))⟩
 f57:=⟨Tryz.f189.name,by decide,Tryz.func189.trans (congrArg some (by kernel_rfl))⟩
 t0:=Tryz.underlying0
 a0:=Tryz.isAgg0
 z0:=Tryz.sizeOf0
 v0:=Tryz.zeroValue0
 t3:=Tryz.underlying3
 a3:=Tryz.isAgg3
 z3:=Tryz.sizeOf3
 v3:=Tryz.zeroValue3
 t4:=Tryz.underlying4
 a4:=Tryz.isAgg4
 z4:=Tryz.sizeOf4
 v4:=Tryz.zeroValue4
 t5:=Tryz.underlying5
 a5:=Tryz.isAgg5
 z5:=Tryz.sizeOf5
 v5:=Tryz.zeroValue5
 t9:=Tryz.underlying9
 a9:=Tryz.isAgg9
 z9:=Tryz.sizeOf9
 v9:=Tryz.zeroValue9
 t22:=Tryz.underlying22
 a22:=Tryz.isAgg22
 z22:=Tryz.sizeOf22
 v22:=Tryz.zeroValue22
 a24:=Tryz.isAgg25
 z24:=Tryz.sizeOf25
 t25:=Tryz.underlying101
 a25:=Tryz.isAgg101
 z25:=Tryz.sizeOf101
 v25:=Tryz.zeroValue101
 t39:=Tryz.underlying218
 a39:=Tryz.isAgg218
 z39:=Tryz.sizeOf218
 v39:=Tryz.zeroValue218
 t45:=Tryz.underlying227
 a45:=Tryz.isAgg227
 z45:=Tryz.sizeOf227
 v45:=Tryz.zeroValue227
 t46:=Tryz.underlying228
 a46:=Tryz.isAgg228
 z46:=Tryz.sizeOf228
 v46:=Tryz.zeroValue228
 t50:=Tryz.underlying211
 a50:=Tryz.isAgg211
 z50:=Tryz.sizeOf211
 v50:=Tryz.zeroValue211
 t53:=Tryz.underlying234
 a53:=Tryz.isAgg234
 z53:=Tryz.sizeOf234
 v53:=Tryz.zeroValue234
 t55:=Tryz.underlying30
 a55:=Tryz.isAgg30
 z55:=Tryz.sizeOf30
 v55:=Tryz.zeroValue30
 t66:=Tryz.underlying241
 a66:=Tryz.isAgg241
 z66:=Tryz.sizeOf241
 v66:=Tryz.zeroValue241
 t70:=Tryz.underlying245
 a70:=Tryz.isAgg245
 z70:=Tryz.sizeOf245
 v70:=Tryz.zeroValue245
 t76:=Tryz.underlying252
 a76:=Tryz.isAgg252
 z76:=Tryz.sizeOf252
 v76:=Tryz.zeroValue252
 t77:=Tryz.underlying176
 a77:=Tryz.isAgg176
 z77:=Tryz.sizeOf176
 v77:=Tryz.zeroValue176 }
end
end Go.Proofs
namespace Go.Proofs.YtcneaiejdidooaaGreatDoor.Sym
section
open Go.RowKit Go.Sort
set_option maxRecDepth 100000
theorem putRow_map {E:Type} [Inhabited E] (enc:E→Value) (w:World) (blk off:Nat) (d:Array E):putRow enc w blk off d=putRow id w blk off (d.map enc):=by
 unfold putRow;congr 1;funext c;unfold putCells;congr 1;funext k x;rw [Array.size_map];by_cases h:off≤k∧k<off+d.size
 ·have h1:k-off<d.size:=by omega
  rw [if_pos h,if_pos h,getElem!_pos d _ h1,getElem!_pos (d.map enc) _ (by simpa using h1)];simp
 ·rw [if_neg h,if_neg h]
theorem holds_map {E:Type} [Inhabited E] {enc:E→Value} {w:World} {blk off:Nat} {d:Array E} (h:Go.Sort.Holds id w blk off (d.map enc)):Go.Sort.Holds enc w blk off d:=fun j hj=>by
 have:=h j (by simpa using hj);rw [getElem!_pos (d.map enc) _ (by simpa using hj)] at this;rw [getElem!_pos d _ hj];simpa using this
def one1 (us:List Value):Value:=us.headD undef
theorem flat_one1 {E:Type} [Inhabited E] {enc:E→List Value} (hk:∀ x,(enc x).length=1) (d:Array E):Go.Sort.flatK enc 1 d=d.map fun x=>one1 (enc x):=by
 rw [zu0 hk]
 have:(d.toList.map enc).flatten=d.toList.map fun x=>one1 (enc x):=by
  generalize d.toList=l
  induction l with
  | nil=>rfl
  | cons x l ih =>
   rw [List.map_cons,List.flatten_cons,ih,List.map_cons];have:=hk x
   match h:enc x,this with
   | [v],_=>rfl
 rw [this];apply Array.ext';simp
theorem sortC_words:SortC Tryz.prog 138 1 one1:=by
 refine ⟨fun p cap fv w=>AnyF.slices_SortFunc_none { Tryz.sortW with } p cap fv w,?_⟩;intro E _ enc cf g blk cap d w hk h1 hO eg hcmp hH hblk hsz;have e1:∀ m (dk:Array E),putRow (fun x=>one1 (enc x)) (Sort.ahead w m) blk 0 dk=putRow id (Sort.ahead w m) blk 0 (Go.Sort.flatK enc 1 dk):=fun m dk=>by rw [flat_one1 hk,putRow_map]
 have hone:OneCell fun x=>one1 (enc x):=fun x=>by
  have h2:=hk x;have h3:=h1 x
  match h:enc x,h2 with
  | [v],_ =>
   show (one1 (enc x)).oneCell'=true;rw [h] at h3 ⊢;exact h3 v (by simp)
 refine (Any.slices_SortFunc Tryz.sortW (fun x=>one1 (enc x)) hone cf hO g #[] blk 0 cap d w eg (fun m os dk hs x y=>?_) (holds_map (by rw [← flat_one1 hk];exact hH)) hblk hsz).mono ?_
 ·have:=hcmp m os dk hs x y;unfold sortWorld;rw [e1];simpa using this
 ·rintro e w' ⟨he,d',n,os,hp,hs,hw⟩;exact ⟨he,d',n,os,hp,hs,by rw [hw];unfold sortWorld;rw [e1]⟩
theorem cmpG_lex {f:List Int→List Int→Option Int} (hf:∀ x y r,x.length≤17592186044416→f x y=some r→r=lexI x y):CmpG Tryz.prog 122 (nL cI) f:=by
 intro W S u u' x y r h hu hu';obtain ⟨A,n,c,rfl,h1⟩:=zjy hu;have:=hf x y r (by rw [h1.len];exact h1.small) h;subst this;obtain ⟨B,m,c',rfl,h2⟩:=zjy hu';refine (wordLex_any h1 h2).mono fun e w' ⟨he,hw⟩=>⟨he,0,#[],?_⟩;rw [← hw,Sort.grow_empty];rfl
theorem cmpG_compare {f:List Int→List Int→Option Int} (hf:∀ x y r,x.length≤17592186044416→f x y=some r→r=cmpW x y):CmpG Tryz.prog 135 (nL cI) f:=by
 intro W S u u' x y r h hu hu';obtain ⟨A,n,c,rfl,h1⟩:=zjy hu;have:=hf x y r (by rw [h1.len];exact h1.small) h;subst this;obtain ⟨B,m,c',rfl,h2⟩:=zjy hu';refine (zsa h1 h2).mono fun e w' ⟨he,hw⟩=>⟨he,0,#[.cells #[.int .i64 (cmpI x.length y.length),.int .i64 (lexI x y)] 3],?_⟩;rw [← hw,Sort.alloc_eq_grow];rfl
theorem rep_of_one {W:World} {S:Nat→Prop} {us:List Value} {x:IV} (hl:us.length=1) (hr:zjm W S us [x]):RepI W S (one1 us) x:=by
 match us,hl with
 | [u],_=>exact hr.2 0 u x rfl rfl
def CmpE {T:Type} (P:Program) (g:FuncId) (X:T→IV) (f:T→T→Option Int):Prop:=(∀ args w,(callFunc g args).run P w=.ok (.enter g args) w)∧CmpG P g X f
end
section
open Go.RowKit
theorem Tryz.infoI_traces:(Tryz.prog.info? 55).map (fun i=>(i.zero,i.size,i.bytes))=some (some (.agg #[.slice none 0 0,.slice none 0 0]),2,48):=by kernel_rfl
section
variable {P:Program}
theorem zt7 (w:World) {o:Oper} {a:Act} {K:Act→World→Prop} {Q:Exit→Act→World→Prop} (d s:Operand) (t t':TypeId)
  (ho:o.op=.call { callee:=.builtin .copy,args:=#[d,s],argTypes:=#[t,t'] }) (v u:Value) (hd:a.eval d=v) (hs:a.eval s=u) {v':Value} {w':World}
  (hr:(Builtin.copy_ #[t,t'] o.type #[v,u]).run P w=.ok v' w') (h:K (a.put o.dst v') w'):o.wp P a w K Q:=by
 unfold Oper.wp execOp;simp only [ho,resolve,invoke,builtin,Sem.run_bind,Sem.run_pure,Result.andThen_ok,List.map_toArray,List.map_cons,List.map_nil,hd,hs,hr];exact h
theorem zmp (w:World) {ops:Array Oper} {rest:List Oper} {o:Oper} {a:Act} {Q:Exit→Act→World→Prop} (hgd:o.guard=none) (d s:Operand) (t t':TypeId)
  (ho:o.op=.call { callee:=.builtin .copy,args:=#[d,s],argTypes:=#[t,t'] }) (v u:Value) (hd:a.eval d=v) (hs:a.eval s=u) {v':Value} {w':World}
  (hr:(Builtin.copy_ #[t,t'] o.type #[v,u]).run P w=.ok v' w') (h:wpList P ops Q rest (a.put o.dst v') w'):wpList P ops Q (o::rest) a w :=
 wpList_plain hgd fun _ hK=>zt7 w d s t t' ho v u hd hs hr (hK _ _ h)
theorem zqc {ops:Array Oper} {o:Oper} {a:Act} {w:World} {K:Act→World→Prop} {Q:Exit→Act→World→Prop} {E:Prop}
  (hg:o.guard=none) (d x:Operand) (dT sT:TypeId) (hop:o.op=Op.call { callee:=Callee.builtin Builtin.copy,args:=#[d,x],argTypes:=#[dT,sT] })
  (v u:Value) (hd:a.eval d=v) (hx:a.eval x=u) {v':Value} {w':World} (hr:(Builtin.copy_ #[dT,sT] o.type #[v,u]).run P w=.ok v' w') (hK:K (a.put o.dst v') w') :
  if Region.wanted o (yielded ops a.tmps)=true then Oper.wp P o a w K Q else E:=by
 have hw:Region.wanted o (yielded ops a.tmps)=true:=by simp [Region.wanted,hg]
 rw [if_pos hw];exact zt7 w d x dT sT hop v u hd hx hr hK
end
def InsPost (t:TypeId) (k n:Nat) (us:List Value) (v:Value) (w:World) (e:Ending) (w':World):Prop :=
 ∃ v',e=.returned v'∧w'.ownsRow 0 t k v' (n+1) us∧w.grownBy w' v.ownBlock∧(v'.ownBlock=v.ownBlock∨v'.ownBlock=some w.heap.size)
set_option maxRecDepth 100000 in
set_option maxHeartbeats 400000 in
theorem insert_end (w:World) (v:Value) (n vb vc:Nat) (us news:List Value) (ho:w.ownsRow 0 55 2 v n us) (hl:news.length=1*2) (hb:∀ (j:Nat) u,news[j]?=some u→w.cell? ⟨vb,0+j,none⟩=some u)
  (h1:∀ u∈news,u.oneCell'=true) (hn:n≤1000000):Calls Tryz.prog 152 #[v,.int .i64 n,.slice (some ⟨vb,0,none⟩) 1 vc] w (InsPost 55 2 n (us++news) v w):=by
 obtain ⟨j0,ji,jz0,jz1,jz2⟩:=info_parts Tryz.infoI_traces;have hc6:n+1≤maxLen:=by unfold maxLen;omega
 have hc7:(n+1)*48≤140737488355328:=by omega
 rcases ho.2 with ⟨hv,h0⟩ | ⟨g,cap,cur,hv,_,hg,hnc,hcm,hcz,hct⟩
 ·subst hv h0
  go_enter Tryz.func152,Tryz.ntmps152
  go_wp2_with (at_builtin;refine zg1 rfl (.tmp 23) (.tmp 24) 33 rfl 0 55 j0 (.agg #[.slice none 0 0,.slice none 0 0]) 2 48 Tryz.underlying33 ji jz0 jz1 jz2 rfl (by decide) _ _ _ rfl ho _ _ _ _ rfl hl (fun _=>⟨vb,0,rfl,hb⟩) h1 hc6 hc7 (Nat.zero_le _) ?_;intro v1 w1 hown1 hg1 hb1)
  all_goals (go_ret;exact ⟨v1,rfl,hown1,hg1,hb1⟩)
 ·subst hv
  go_enter Tryz.func152,Tryz.ntmps152
  go_wp2_with (at_builtin;refine zg1 rfl (.tmp 23) (.tmp 24) 33 rfl 0 55 j0 (.agg #[.slice none 0 0,.slice none 0 0]) 2 48 Tryz.underlying33 ji jz0 jz1 jz2 rfl (by decide) _ _ _ rfl ho _ _ _ _ rfl hl (fun _=>⟨vb,0,rfl,hb⟩) h1 hc6 hc7 (Nat.zero_le _) ?_;intro v1 w1 hown1 hg1 hb1)
  all_goals (go_ret;exact ⟨v1,rfl,hown1,hg1,hb1⟩)
set_option maxRecDepth 100000 in
set_option maxHeartbeats 800000 in
theorem insert_shift (w:World) (g cap n i vb vc:Nat) (cur cur2:Array Value) (us news:List Value) (hg:w.heap[g]?=some (.cells cur 55 (0,0))) (hcz:cur.size=cap*2) (hct:cur.toList.take (n*2)=us)
  (hcm:cap≤maxLen) (hne:vb≠g) (hvb:w.heap[vb]?=some (.cells cur2 55 (0,0))) (hvz:cur2.toList.take 2=news) (hl:news.length=2) (h1:∀ u∈us,u.oneCell'=true) (h2:∀ u∈news,u.oneCell'=true) (hi:i<n) (hr:n<cap) (hn:n≤1000000) :
  Calls Tryz.prog 152 #[.slice (some ⟨g,0,none⟩) n cap,.int .i64 i,.slice (some ⟨vb,0,none⟩) 1 vc] w (InsPost 55 2 n (us.take (i*2)++news++us.drop (i*2)) (.slice (some ⟨g,0,none⟩) n cap) w):=by
 obtain ⟨j0,ji,jz0,jz1,jz2⟩:=info_parts Tryz.infoI_traces;have hz2:¬ ((i:Int)=(n:Int)):=by omega
 have hov:∀ lb cb,(callFunc 160 #[.slice (some ⟨vb,0,none⟩) 1 vc,.slice (some ⟨g,(i+1)*2,none⟩) lb cb]).run Tryz.prog w=.ok (.value (.bool false)) w:=fun lb cb=>by
  rw [run_callFunc_extern Tryz.func160 (by kernel_rfl) (by kernel_rfl) (by kernel_rfl) (e:=Extern.SlicesOverlaps.overlaps #[33,33] #[4]) (by kernel_rfl),
   Lib.run_overlaps_apart w 33 4 55 Tryz.underlying33 2 Tryz.sizeOf55 ⟨vb,0,none⟩ ⟨g,(i+1)*2,none⟩ 1 vc lb cb hne 55 55 cur2.size cur.size (by simp [World.shape?,hvb]) (by simp [World.shape?,hg]) (by omega) (by simp [World.frozen?,hvb]) (by simp [World.frozen?,hvb])]
  rfl
 have hct':∀ (j:Nat),j<n*2→cur[j]?=us[j]?:=fun j hj=>by
  rw [← hct,List.getElem?_take,if_pos hj,Array.getElem?_toList]
 have hul:us.length=n*2:=by
  rw [← hct,List.length_take,Array.length_toList];omega
 have hdl:(us.drop (i*2)).length=(n-i)*2:=by rw [List.length_drop,hul];omega
 obtain ⟨R1,hR1⟩:∃ R1,R1=(cur.toList.take ((i+1)*2)++us.drop (i*2)++cur.toList.drop ((i+1)*2+(us.drop (i*2)).length)).toArray:=⟨_,rfl⟩
 have hcp1:∀ ty dl dc sl sc,dl=n-i→sl=n+1-i→(Builtin.copy_ #[33,33] ty #[.slice (some ⟨g,(i+1)*2,none⟩) dl dc,.slice (some ⟨g,i*2,none⟩) sl sc]).run Tryz.prog w.drew=.ok (goInt ((n-i:Nat):Int)) (w.drew.setRow g R1):=fun ty dl dc sl sc hd hs=>by
  have hm:Nat.min sl dl=n-i:=by rw [hd,hs];simp only [Nat.min_def];split<;>omega
  have:=zjn (P:=Tryz.prog) w.drew 33 33 ty 55 g ((i+1)*2) dl dc ⟨g,i*2,none⟩ sl sc cur 55 (us.drop (i*2)) 2 Tryz.underlying33 (by rw [ji];simp [jz1]) hg (by rw [hm,hdl]) (fun j v hj=>by
   rw [Addr.add_lit]
   rw [List.getElem?_drop] at hj
   have hlt:=(zkI.1 hj).1
   show w.cell? _=_
   simp only [World.cell?,hg]
   rw [hct' _ (by omega)]
   simpa using hj) (by rw [hdl];omega) (fun v hv=>h1 v (List.mem_of_mem_drop hv))
  rw [hm,← hR1] at this;exact this
 have hR1z:R1.size=cap*2:=by
  rw [hR1];simp only [List.size_toArray,zkJ,List.length_take,List.length_drop,Array.length_toList];omega
 have hg1:(w.drew.setRow g R1).heap[g]?=some (.cells R1 55 (0,0)):=setRow_heap w.drew g cur R1 _ _ hg
 have hvb1:(w.drew.setRow g R1).heap[vb]?=some (.cells cur2 55 (0,0)):=by
  rw [setRow_other _ _ _ _ hne];exact hvb
 obtain ⟨R2,hR2⟩:∃ R2,R2=(R1.toList.take (i*2)++news++R1.toList.drop (i*2+news.length)).toArray:=⟨_,rfl⟩
 have hcp2:∀ (W:World) ty dl dc,W.heap[g]?=some (.cells R1 55 (0,0))→W.heap[vb]?=some (.cells cur2 55 (0,0))→1≤dl→(Builtin.copy_ #[33,33] ty #[.slice (some ⟨g,i*2,none⟩) dl dc,.slice (some ⟨vb,0,none⟩) 1 vc]).run Tryz.prog W=.ok (goInt ((1:Nat):Int)) (W.setRow g R2):=fun W ty dl dc hW hV hd=>by
  have hm:Nat.min 1 dl=1:=by simp only [Nat.min_def];split<;>omega
  have:=zjn (P:=Tryz.prog) W 33 33 ty 55 g (i*2) dl dc ⟨vb,0,none⟩ 1 vc R1 55 news 2 Tryz.underlying33 (by rw [ji];simp [jz1]) hW (by rw [hm,hl]) (fun j v hj=>by
   rw [Addr.add_lit]
   have hlt:=(zkI.1 hj).1
   simp only [World.cell?,hV]
   rw [← hvz,List.getElem?_take,if_pos (by omega),Array.getElem?_toList] at hj
   simpa using hj) (by rw [hl];omega) h2
  rw [hm,← hR2] at this;exact this
 obtain ⟨US,hUS⟩:∃ US,US=us.take (i*2)++news++us.drop (i*2):=⟨_,rfl⟩;rw [← hUS];have HUS:=Lib.hid hUS;have HR1:=Lib.hid hR1;have HR2:=Lib.hid hR2;have HDL:=Lib.hid hdl;have HUL:=Lib.hid hul;have HCT:=Lib.hid hct;have HL:=Lib.hid hl;have HVZ:=Lib.hid hvz;clear hUS hR1 hR2 hdl hul hct hct' hl hvz h1 h2;have hcp3:=fun ty dl dc=>hcp2 (w.drew.setRow g R1) ty dl dc hg1 hvb1;have hcd:1≤n+1-i:=by omega
 clear hcp2 hg1 hvb1;have mixed:Tryz.prog.follows Departure.mixedOrders=true:=by kernel_rfl
 have hw1:IntKind.i64.wrap ((i:Int)+1)=(i:Int)+1:=by rw [IntKind.wrap_i64];omega
 have hb1:(0:Int)≤(i:Int)+1:=by omega
 have hin:i≤n:=by omega
 have htn:((i:Int)+1).toNat=i+1:=by omega
 have hb2:¬ (cap=i+1):=by omega
 have hb3:(i:Int)≤(n:Int)+1:=by omega
 have hb4:¬ (cap=i):=by omega
 go_enter Tryz.func152,Tryz.ntmps152
 go_wp2_with (simp only [hov])
 go_region_law_o (refine zqc rfl _ _ 33 33 rfl _ _ (by simp [Act.eval,Act.put]) (by simp [Act.eval,Act.put]) (hcp1 _ _ _ _ _ (by omega) (by omega)) ?_)
 go_wp2_with (at_builtin;refine zmp _ rfl _ _ 33 33 rfl _ _ rfl rfl (hcp3 3 (n+1-i) (cap-i) hcd) ?_)
 go_ret
 have hl:=HL.out;have hul:=HUL.out;have hct:=HCT.out;have hdl:=HDL.out;have hRL1:R1.toList=cur.toList.take ((i+1)*2)++us.drop (i*2)++cur.toList.drop ((i+1)*2+(us.drop (i*2)).length):=by rw [HR1.out]
 have hA1:(cur.toList.take ((i+1)*2)).length=(i+1)*2:=by rw [List.length_take,Array.length_toList];omega
 have hT:R1.toList.take (i*2)=us.take (i*2):=by
  rw [hRL1,List.append_assoc,List.take_append_of_le_length (by rw [hA1];omega),List.take_take,← hct,List.take_take];congr 1;omega
 have hD:R1.toList.drop (i*2+2)=us.drop (i*2)++cur.toList.drop ((i+1)*2+(us.drop (i*2)).length):=by
  rw [hRL1,List.append_assoc,List.drop_append_of_le_length (by rw [hA1];omega),List.drop_of_length_le (by rw [hA1];omega),List.nil_append]
 have hRL2:R2.toList=US++cur.toList.drop ((i+1)*2+(us.drop (i*2)).length):=by
  rw [HR2.out,HUS.out,hl,hT,hD];simp
 have hUL:US.length=(n+1)*2:=by
  rw [HUS.out,zkJ,zkJ,hdl,hl,List.length_take,hul];omega
 refine ⟨_,rfl,⟨hUL,.inr ⟨g,cap,R2,rfl,Nat.zero_le _,?_,by omega,hcm,?_,?_⟩⟩,⟨rfl,rfl,rfl,?_,fun k hk hkn=>?_⟩,.inl rfl⟩
 ·exact setRow_heap _ g R1 R2 _ _ (setRow_heap w.drew g cur R1 _ _ hg)
 ·rw [← Array.length_toList,hRL2,zkJ,hUL,List.length_drop,Array.length_toList,hdl];omega
 ·rw [hRL2,List.take_append_of_le_length (by omega),List.take_of_length_le (by omega)]
 ·simp
 ·have hkg:k≠g:=fun e=>hkn (by rw [e];rfl);rw [setRow_other _ _ _ _ hkg,setRow_other _ _ _ _ hkg];rfl
set_option maxRecDepth 100000 in
set_option maxHeartbeats 800000 in
theorem insert_grow (w:World) (g n i vb vc:Nat) (cur cur2:Array Value) (us news:List Value) (hg:w.heap[g]?=some (.cells cur 55 (0,0))) (hcz:cur.size=n*2) (hct:cur.toList.take (n*2)=us)
  (hvb:w.heap[vb]?=some (.cells cur2 55 (0,0))) (hvz:cur2.toList.take 2=news) (hl:news.length=2) (h1:∀ u∈us,u.oneCell'=true) (h2:∀ u∈news,u.oneCell'=true) (hi:i<n) (hn:n≤1000000) :
  Calls Tryz.prog 152 #[.slice (some ⟨g,0,none⟩) n n,.int .i64 i,.slice (some ⟨vb,0,none⟩) 1 vc] w (InsPost 55 2 n (us.take (i*2)++news++us.drop (i*2)) (.slice (some ⟨g,0,none⟩) n n) w):=by
 obtain ⟨j0,ji,jz0,jz1,jz2⟩:=info_parts Tryz.infoI_traces;have hz2:¬ ((i:Int)=(n:Int)):=by omega
 have hz3:(n:Int)<(n:Int)+1:=by omega
 have hct':∀ (j:Nat),j<n*2→cur[j]?=us[j]?:=fun j hj=>by
  rw [← hct,List.getElem?_take,if_pos hj,Array.getElem?_toList]
 have hul:us.length=n*2:=by
  rw [← hct,List.length_take,Array.length_toList];omega
 have hdl:(us.drop (i*2)).length=(n-i)*2:=by rw [List.length_drop,hul];omega
 have htl:(us.take (i*2)).length=i*2:=by rw [List.length_take,hul];omega
 have hgl:g<w.heap.size:=by
  rcases Nat.lt_or_ge g w.heap.size with h | h
  ·exact h
  ·rw [Array.getElem?_eq_none h] at hg;cases hg
 have hvl:vb<w.heap.size:=by
  rcases Nat.lt_or_ge vb w.heap.size with h | h
  ·exact h
  ·rw [Array.getElem?_eq_none h] at hvb;cases hvb
 obtain ⟨N,hN⟩:∃ N,N=w.heap.size:=⟨_,rfl⟩
 have hold:(Builtin.firstCells j0.size i (.slice (some ⟨g,0,none⟩) i n)).run Tryz.prog w.drew=.ok (us.take (i*2)).toArray w.drew:=by
  rw [jz1]
  exact run_firstCells_some w.drew 2 i ⟨g,0,none⟩ i n (us.take (i*2)) htl (fun j v hj=>by
   rw [Addr.add_lit]
   rw [List.getElem?_take] at hj
   split at hj
   ·show w.cell? _=_
    simp only [World.cell?,hg]
    rw [Nat.zero_add,hct' _ (by omega)]
    exact hj
   ·cases hj)
 obtain ⟨G,hG⟩:∃ G,G=grownCap w (n+1) n 55:=⟨_,rfl⟩;obtain ⟨ROW,hROW⟩:∃ ROW:Array Value,ROW=(us.take (i*2)).toArray++Builtin.zeroCells (Value.agg #[.slice none 0 0,.slice none 0 0]).cells (n+1-i)++Builtin.zeroCells (Value.agg #[.slice none 0 0,.slice none 0 0]).cells (G-(n+1)):=⟨_,rfl⟩;have hGn:n+1≤G:=by rw [hG];exact grownCap_ge w _ _ _
 have hGm:G≤maxLen:=by rw [hG];exact grownCap_le_maxLen w (n+1) n 55 (by unfold maxLen;omega)
 have hG63:G≤9223372036854775807:=by unfold maxLen at hGm;omega
 obtain ⟨W1,hW1⟩:∃ W1,W1=w.drew.alloc (.cells ROW 55):=⟨_,rfl⟩
 have hrz:∀ ty,(Builtin.append_ #[33,3] ty #[.slice (some ⟨g,0,none⟩) i n,.int .i64 ((n:Int)+1-(i:Int))]).run Tryz.prog w=.ok (.slice (some ⟨N,0,none⟩) (n+1) G) W1:=fun ty=>by
  have h:=Lib.run_append_grow_zeros w 33 3 ty 55 j0 _ .i64 .i64 Tryz.underlying33 Tryz.underlying3 ji jz0 (some ⟨g,0,none⟩) i n (us.take (i*2)) hold (n+1-i) (by omega) (by omega) (by omega) (by omega) (by rw [jz2];omega) (by rw [jz2,show i+(n+1-i)=n+1 by omega];exact growslice_fits (by omega) (by omega));rw [show i+(n+1-i)=n+1 by omega,← hG,← hROW,← hN,← hW1] at h;rw [show (n:Int)+1-(i:Int)=((n+1-i:Nat):Int) by omega];exact h
 have hRz:ROW.size=G*2:=by
  rw [hROW];simp only [Array.size_append,List.size_toArray,htl,Builtin.zeroCells,Value.cells,Array.size_map,Array.size_range];simp;omega
 have hROWL:ROW.toList.take (i*2)=us.take (i*2):=by
  rw [hROW,Array.toList_append,Array.toList_append,List.append_assoc,List.take_append_of_le_length (by simp [htl]),List.take_of_length_le (by simp [htl])]
 have hA0:W1.heap[N]?=some (.cells ROW 55 (0,0)):=by
  rw [hW1,hN];exact heap_alloc_new w.drew _
 have hAold:∀ k,k<w.heap.size→W1.heap[k]?=w.heap[k]?:=fun k hk=>by
  rw [hW1];exact heap_alloc_old w.drew _ hk
 obtain ⟨R1,hR1⟩:∃ R1,R1=(ROW.toList.take (i*2)++news++ROW.toList.drop (i*2+news.length)).toArray:=⟨_,rfl⟩
 have hcpA:∀ (W:World) ty dl dc,W.heap[N]?=some (.cells ROW 55 (0,0))→W.heap[vb]?=some (.cells cur2 55 (0,0))→1≤dl→(Builtin.copy_ #[33,33] ty #[.slice (some ⟨N,i*2,none⟩) dl dc,.slice (some ⟨vb,0,none⟩) 1 vc]).run Tryz.prog W=.ok (goInt ((1:Nat):Int)) (W.setRow N R1):=fun W ty dl dc hW hV hd=>by
  have hm:Nat.min 1 dl=1:=by simp only [Nat.min_def];split<;>omega
  have:=zjn (P:=Tryz.prog) W 33 33 ty 55 N (i*2) dl dc ⟨vb,0,none⟩ 1 vc ROW 55 news 2 Tryz.underlying33 (by rw [ji];simp [jz1]) hW (by rw [hm,hl]) (fun j v hj=>by
   rw [Addr.add_lit]
   have hlt:=(zkI.1 hj).1
   simp only [World.cell?,hV]
   rw [← hvz,List.getElem?_take,if_pos (by omega),Array.getElem?_toList] at hj
   simpa using hj) (by rw [hl];omega) h2
  rw [hm,← hR1] at this;exact this
 have hR1z:R1.size=G*2:=by
  rw [hR1];simp only [List.size_toArray,zkJ,List.length_take,List.length_drop,Array.length_toList,hl];omega
 obtain ⟨R2,hR2⟩:∃ R2,R2=(R1.toList.take ((i+1)*2)++us.drop (i*2)++R1.toList.drop ((i+1)*2+(us.drop (i*2)).length)).toArray:=⟨_,rfl⟩
 have hcpB:∀ (W:World) ty dl dc sl sc,W.heap[N]?=some (.cells R1 55 (0,0))→W.heap[g]?=some (.cells cur 55 (0,0))→dl=n-i→sl=n-i→(Builtin.copy_ #[33,33] ty #[.slice (some ⟨N,(i+1)*2,none⟩) dl dc,.slice (some ⟨g,i*2,none⟩) sl sc]).run Tryz.prog W=.ok (goInt ((n-i:Nat):Int)) (W.setRow N R2):=fun W ty dl dc sl sc hW hV hd hs=>by
  have hm:Nat.min sl dl=n-i:=by rw [hd,hs];simp only [Nat.min_def];split<;>omega
  have:=zjn (P:=Tryz.prog) W 33 33 ty 55 N ((i+1)*2) dl dc ⟨g,i*2,none⟩ sl sc R1 55 (us.drop (i*2)) 2 Tryz.underlying33 (by rw [ji];simp [jz1]) hW (by rw [hm,hdl]) (fun j v hj=>by
   rw [Addr.add_lit]
   rw [List.getElem?_drop] at hj
   have hlt:=(zkI.1 hj).1
   simp only [World.cell?,hV]
   rw [hct' _ (by omega)]
   simpa using hj) (by rw [hdl,hR1z];omega) (fun v hv=>h1 v (List.mem_of_mem_drop hv))
  rw [hm,← hR2] at this;exact this
 have hcdA:1≤n+1-i:=by omega
 have hvN:vb≠N:=by omega
 have hgN:g≠N:=by omega
 have hA1:=fun ty dc=>hcpA W1 ty (n+1-i) dc hA0 (by rw [hAold vb hvl];exact hvb) hcdA;have hB0:(W1.setRow N R1).heap[N]?=some (.cells R1 55 (0,0)):=setRow_heap W1 N ROW R1 _ _ hA0
 have hB1:(W1.setRow N R1).drew.heap[g]?=some (.cells cur 55 (0,0)):=by
  show (W1.setRow N R1).heap[g]?=_;rw [setRow_other _ _ _ _ hgN,hAold g hgl];exact hg
 have hB2:=fun ty dl dc sl sc h3 h4=>hcpB (W1.setRow N R1).drew ty dl dc sl sc hB0 hB1 h3 h4;obtain ⟨US,hUS⟩:∃ US,US=us.take (i*2)++news++us.drop (i*2):=⟨_,rfl⟩;rw [← hUS]
 have hfin:∃ REST,R2.toList=US++REST:=by
  refine ⟨R1.toList.drop ((i+1)*2+(us.drop (i*2)).length),?_⟩
  have hT:R1.toList.take ((i+1)*2)=us.take (i*2)++news:=by
   have hz:(us.take (i*2)++news).length=(i+1)*2:=by rw [zkJ,htl,hl];omega
   rw [hR1,hROWL,← hz,List.take_append_of_le_length (Nat.le_refl _),List.take_length]
  rw [hR2,hT,hUS]
 have hUL:US.length=(n+1)*2:=by
  rw [hUS,zkJ,zkJ,hdl,hl,htl];omega
 have hR2z:R2.size=G*2:=by
  rw [hR2];simp only [List.size_toArray,zkJ,List.length_take,List.length_drop,Array.length_toList];omega
 have HR1:=Lib.hid hR1;have HN:=Lib.hid hN;have HG:=Lib.hid hG;have HW1:=Lib.hid hW1;have HOLD:=Lib.hid hAold;clear hUS hR1 hR2 hdl hul hct hct' hl hvz h1 h2 hold hROW hROWL htl hcpA hcpB hRz hR1z hG hN hW1 hAold;have mixed:Tryz.prog.follows Departure.mixedOrders=true:=by kernel_rfl
 have hw1:IntKind.i64.wrap ((i:Int)+1)=(i:Int)+1:=by rw [IntKind.wrap_i64];omega
 have hb1:(0:Int)≤(i:Int)+1:=by omega
 have hin:i≤n:=by omega
 have htn:((i:Int)+1).toNat=i+1:=by omega
 have hb3:(i:Int)≤(n:Int):=by omega
 have hGi:¬ (G=i):=by omega
 have hGim:¬ (G=i+1):=by omega
 have hci:¬ (n=i):=by omega
 go_enter Tryz.func152,Tryz.ntmps152
 go_wp2_with (first
  | (at_builtin;refine Lib.wpList_append_run _ rfl _ _ _ _ rfl _ _ rfl rfl _ _ (hrz _) ?_)
  | (at_builtin;refine zmp _ rfl _ _ 33 33 rfl _ _ rfl rfl (hA1 _ _) ?_))
 go_region_law_o (refine zqc rfl _ _ 33 33 rfl _ _ (by simp [Act.eval,Act.put]) (by simp [Act.eval,Act.put]) (hB2 _ _ _ _ _ (by omega) (by omega)) ?_)
 go_wp2
 go_ret
 obtain ⟨REST,hREST⟩:=hfin;have hN:=HN.out;refine ⟨_,rfl,⟨hUL,.inr ⟨N,G,R2,rfl,Nat.zero_le _,?_,hGn,hGm,hR2z,?_⟩⟩,⟨?_,?_,?_,?_,fun k hk hkn=>?_⟩,.inr (by rw [← hN];rfl)⟩
 ·exact setRow_heap _ N R1 R2 _ _ hB0
 ·rw [hREST,List.take_append_of_le_length (by omega),List.take_of_length_le (by omega)]
 ·rw [HW1.out];rfl
 ·rw [HW1.out];rfl
 ·rw [HW1.out];rfl
 ·simp [HW1.out]
 ·have hkg:k≠N:=by omega
  rw [setRow_other _ _ _ _ hkg];show (W1.setRow N R1).heap[k]?=_;rw [setRow_other _ _ _ _ hkg,HOLD.out k hk]
theorem zs0 {α:Type} {k:Nat}:∀ {es:List (List α)} (i:Nat),(∀ e∈es,e.length=k)→(es.take i).flatten=es.flatten.take (i*k)∧(es.drop i).flatten=es.flatten.drop (i*k)
 | [],i,_=>by simp
 | e::es,0,_=>by simp
 | e::es,i+1,h=>by
  have he:=h e (by simp);obtain ⟨h1,h2⟩:=zs0 (es:=es) i fun x hx=>h x (by simp [hx]);have hz:(i+1)*k=e.length+i*k:=by rw [he,Nat.succ_mul,Nat.add_comm]
  constructor
  ·rw [List.take_succ_cons,List.flatten_cons,List.flatten_cons,h1,hz,List.take_append (l₁:=e),List.take_of_length_le (l:=e) (by omega),Nat.add_sub_cancel_left]
  ·rw [List.drop_succ_cons,List.flatten_cons,h2,hz,List.drop_append (l₁:=e),List.drop_of_length_le (l:=e) (by omega),List.nil_append,Nat.add_sub_cancel_left]
def RelW (R:Value→IV→Prop) (us:List Value) (xs:List IV):Prop:=∀ (i:Nat) u x,us[i]?=some u→xs[i]?=some x→R u x
theorem RelW.append {R:Value→IV→Prop} {us vs:List Value} {xs ys:List IV} (hl:us.length=xs.length) (h1:RelW R us xs) (h2:RelW R vs ys):RelW R (us++vs) (xs++ys):=fun i u x hu hx=>by
 rcases Nat.lt_or_ge i us.length with h | h
 ·rw [List.getElem?_append_left h] at hu;rw [List.getElem?_append_left (by omega)] at hx;exact h1 i u x hu hx
 ·rw [List.getElem?_append_right h] at hu;rw [List.getElem?_append_right (by omega),← hl] at hx;exact h2 _ u x hu hx
theorem RelW.take {R:Value→IV→Prop} {us:List Value} {xs:List IV} (k:Nat) (h:RelW R us xs):RelW R (us.take k) (xs.take k):=fun i u x hu hx=>by
 rw [List.getElem?_take] at hu hx;split at hu
 ·rename_i g;rw [if_pos g] at hx;exact h i u x hu hx
 ·cases hu
theorem RelW.drop {R:Value→IV→Prop} {us:List Value} {xs:List IV} (k:Nat) (h:RelW R us xs):RelW R (us.drop k) (xs.drop k):=fun i u x hu hx=>by
 rw [List.getElem?_drop] at hu hx;exact h _ u x hu hx
set_option maxRecDepth 100000 in
theorem sp_of_insert {es:List (List IV)} {e:List IV} {i:Int} (hk:∀ x∈es,x.length=2) (hke:e.length=2) (h0:0≤i) (h1:i≤(↑es.length:Int)) (hn:es.length≤1000000) :
  Sp Tryz.prog 152 [.row 55 2 es,.im (nI i),.row 55 2 [e]] (.row 55 2 (es.take i.toNat++[e]++es.drop i.toNat)):=by
 refine ⟨fun args w=>zgk rfl rfl rfl args w,fun w S vs F hS hv hnd hF=>?_⟩
 match vs,hv with
 | [v,vi,va],⟨F1,F2,⟨hv1,inn,hrow,e1⟩,⟨F3,F4,⟨h4,e2⟩,⟨F5,F6,⟨hva1,inn2,hrow2,e5⟩,h6,e6⟩,e3⟩,e4⟩ =>
  have h6:F6=[]:=h6;have e1:F1=(zb9 v).toList:=e1;have e5:F5=(zb9 va).toList:=e5;subst e1 e2 e5 h6;have e6:F4=(zb9 va).toList:=by rw [e6];simp
  subst e6;have e3:F2=(zb9 va).toList:=by rw [e3];simp
  subst e3;subst e4;cases h4;obtain ⟨us,_,_,hlim,hown,hul,hu1,hr⟩:=hrow;obtain ⟨news,_,_,_,hown2,hul2,hu2,hr2⟩:=hrow2;have hlen:([e]:List (List IV)).length=1:=rfl;rw [hlen] at hown2
  have hnl:news.length=2:=by
   rw [hul2];simp [hke]
  obtain ⟨vb,vc,cur2,rfl,_,hvb,hvc,hvm,hvz,hvt⟩:∃ vb vc cur2,va=.slice (some ⟨vb,0,none⟩) 1 vc∧0≤vb∧w.heap[vb]?=some (.cells cur2 55 (0,0))∧1≤vc∧vc≤maxLen∧cur2.size=vc*2∧cur2.toList.take (1*2)=news:=by
   rcases hown2.2 with ⟨_,h⟩ | h
   ·cases h
   ·exact h
  have hbva:zb9 (.slice (some ⟨vb,0,none⟩) 1 vc)=some vb:=rfl;rw [hbva] at hnd hF ⊢;have hvbF:¬ S vb∧vb<w.heap.size:=hF vb (by simp);have hull:us.length=es.length*2:=hown.1;have ei:i=(↑i.toNat:Int):=by omega
  have hcall:Calls Tryz.prog 152 #[v,.int .i64 i,.slice (some ⟨vb,0,none⟩) 1 vc] w (InsPost 55 2 es.length (us.take (i.toNat*2)++news++us.drop (i.toNat*2)) v w):=by
   rw [ei];simp only [Int.toNat_natCast];by_cases hend:i.toNat=es.length
   ·have:=insert_end w v es.length vb vc us news hown (by omega) (fun j u hj=>by
     have hlt:=(zkI.1 hj).1
     simp only [World.cell?,hvb]
     rw [← hvt,List.getElem?_take,if_pos (by omega),Array.getElem?_toList] at hj
     simpa using hj) hu2 hn
    rw [hend,List.take_of_length_le (by omega),List.drop_of_length_le (by omega),List.append_nil];exact this
   ·rcases hown.2 with ⟨_,h⟩ | ⟨g,cap,cur,hv,_,hg,hnc,hcm,hcz,hct⟩
    ·omega
    ·subst hv
     have hne:vb≠g:=fun e=>by
      have:zb9 (.slice (some ⟨g,0,none⟩) es.length cap)=some g:=rfl;rw [this,e] at hnd;simp at hnd
     by_cases hroom:es.length<cap
     ·exact insert_shift w g cap es.length i.toNat vb vc cur cur2 us news hg hcz hct hcm hne hvb hvt hnl hu1 hu2 (by omega) hroom hn
     ·have hc:cap=es.length:=by omega
      subst hc;exact insert_grow w g es.length i.toNat vb vc cur cur2 us news hg hcz hct hvb hvt hnl hu1 hu2 (by omega) hn
  refine hcall.mono ?_;rintro ex w' ⟨v',rfl,ho,hgr,hbl⟩;have hown0:=hown
  have hbv:v.ownBlock=zb9 v:=by
   rcases hown.2 with ⟨rfl,_⟩ | ⟨g,cap,cur,rfl,_⟩<;>rfl
  have hbv':v'.ownBlock=zb9 v':=by
   rcases ho.2 with ⟨rfl,_⟩ | ⟨g,cap,cur,rfl,_⟩<;>rfl
  have hlt:=ho.lt
  have hbk:∀ b∈(zb9 v').toList,(w.heap.size≤b∨b∈(zb9 v).toList)∧b<w'.heap.size:=fun b hb=>by
   have h2:zb9 v'=some b:=by simpa using hb
   refine ⟨?_,?_⟩
   ·rcases hbl with h | h
    ·rw [hbv,hbv',h2] at h;exact .inr (by rw [← h];simp)
    ·rw [hbv',h2] at h;injection h with h
     exact .inl (by omega)
   ·refine (hlt b ?_).2;rw [znc ho];simpa using hb
  have hbe:Belo (fun b=>b∈(zb9 v).toList++[vb]) w.heap.size w w':=⟨hgr.os,hgr.tape,hgr.output,hgr.size,fun b hb hnb=>hgr.block b hb fun h=>hnb (by
   rw [hbv] at h
   rw [← h]
   simp)⟩
  have hS':∀ b,S b→b<w.heap.size∧b∉(zb9 v).toList∧b≠vb:=fun b hb=>⟨hS b hb,fun hm=>(hF b (by simp [hm])).1 hb,fun e=>hvbF.1 (e ▸ hb)⟩
  have hkeep:∀ u x,RepI w S u x→RepI w' (fun b=>(S b∨w.heap.size≤b∨b∈(zb9 v).toList++[vb])∧b<w'.heap.size∧b∉(zb9 v').toList) u x:=fun u x h=>h.mono (fun b hb=>⟨.inl hb,Nat.lt_of_lt_of_le (hS b hb) hgr.size,fun hm=>by
    rcases (hbk b hm).1 with h2 | h2
    ·have:=hS b hb
     omega
    ·exact (hS' b hb).2.1 h2⟩) fun p y hp hy=>by
   have h6:=hgr.block p.block (hS _ hp) fun h=>(hS' _ hp).2.1 (by
    rw [hbv] at h
    rw [← h]
    simp)
   have h7:w'.cell? p=w.cell? p:=by
    unfold World.cell?;rw [h6]
   rw [h7];exact hy
  have hfl:=zs0 (es:=es) (k:=2) i.toNat hk
  have hflat:(es.take i.toNat++[e]++es.drop i.toNat).flatten=es.flatten.take (i.toNat*2)++[e].flatten++es.flatten.drop (i.toNat*2):=by
   rw [List.flatten_append,List.flatten_append,hfl.1,hfl.2]
  have hlen2:(es.take i.toNat++[e]++es.drop i.toNat).length=es.length+1:=by
   rw [zkJ,zkJ,List.length_take,List.length_drop,List.length_singleton];omega
  refine ⟨v',(zb9 v').toList,rfl,hbe,⟨[v'],(zb9 v').toList,[],rfl,⟨(zb9 v').toList,[],⟨row_one ho,[],⟨_,by decide,fun x hx=>?_,by rw [hlen2];omega,by rw [hlen2];exact ho,?_,fun u hu=>?_,?_⟩,rfl⟩,rfl,by simp⟩,rfl,by simp⟩,?_,fun b hb=>⟨?_,(hbk b hb).2⟩⟩
  ·rcases List.mem_append.1 hx with hx | hx
   ·rcases List.mem_append.1 hx with hx | hx
    ·exact hk x (List.mem_of_mem_take hx)
    ·rw [List.mem_singleton.1 hx];exact hke
   ·exact hk x (List.mem_of_mem_drop hx)
  ·rw [hflat];simp only [zkJ,List.length_take,List.length_drop,← hul,← hul2]
  ·rcases List.mem_append.1 hu with hu | hu
   ·rcases List.mem_append.1 hu with hu | hu
    ·exact hu1 u (List.mem_of_mem_take hu)
    ·exact hu2 u hu
   ·exact hu1 u (List.mem_of_mem_drop hu)
  ·rw [hflat];have q1:RelW (RepI w S) us es.flatten:=hr;have q2:RelW (RepI w S) news [e].flatten:=hr2;have:=RelW.append (by simp only [zkJ,List.length_take,← hul,← hul2]) (RelW.append (by simp only [List.length_take,← hul]) (q1.take (i.toNat*2)) q2) (q1.drop (i.toNat*2));exact fun j u x hu hx=>hkeep u x (this j u x hu hx)
  ·cases zb9 v'<;>simp
  ·rcases (hbk b hb).1 with h | h
   ·exact .inl h
   ·exact .inr (by simp [h])
end
section
open Go.RowKit
set_option maxRecDepth 100000
set_option linter.unusedVariables false
set_option maxHeartbeats 4000000
def libClone {α:Type} (by_:Nat) (l:List α):Option (List α):=chk (zbt l.length by_) (some l)
def zb2 (l:List Int):Option (List Int):=libClone 8 l
theorem zbq (l r:List Int) (h:zb2 l=some r):Sp Tryz.prog 46 [.im (nL cI l)] (.row 3 1 (List.map cI r)):=by
 obtain ⟨h1,h⟩:=zai h;injection h with h
 subst h;exact zsk (by_:=8) (fun args w=>zgk rfl rfl rfl args w) (by decide) clone_int (fun e he=>by obtain ⟨y,_,rfl⟩:=List.mem_map.1 he;rfl) (by rw [zkK];exact h1)
def zk7 (l:List (List Int)):Option (List (List Int)):=libClone 24 l
theorem zom (l r:List (List Int)) (h:zk7 l=some r):Sp Tryz.prog 137 [.im (nL (cL cI) l)] (.row 25 1 (List.map (cL cI) r)):=by
 obtain ⟨h1,h⟩:=zai h;injection h with h
 subst h;exact zsk (by_:=24) (fun args w=>zgk rfl rfl rfl args w) (by decide) clone_words (fun e he=>by obtain ⟨y,_,rfl⟩:=List.mem_map.1 he;rfl) (by rw [zkK];exact h1)
def zi6 (l:List (List Int)) (f:(List Int)→(List Int)→Option Int):Option (List (List Int)):=libSort l f
theorem zlm (l:List (List Int)) (f:(List Int)→(List Int)→Option Int) (g:FuncId) (hd:CmpE Tryz.prog g (fun x=>nL cI x) f) (r:List (List Int)) (h:zi6 l f=some r):Sp Tryz.prog 138 [.lent (.row 25 1 (List.map (cL cI) l)),.im (.fn g [])] (.mk true [] [.lent (.row 25 1 (List.map (cL cI) r))]) :=
 sp_of_sort (fun args w=>zgk rfl rfl rfl args w) sortC_words (by decide) (fun _=>rfl) (fun W S us x hl h1 hr=>rep_of_one hl hr) hd.1 hd.2 h
def zhm (l:List zaa) (i:Int) (v:List zaa):Option (List zaa):=chk (0≤i∧i≤(↑l.length:Int)∧v.length=1∧l.length≤1000000) (some (l.take i.toNat++v++l.drop i.toNat))
theorem zmn (l:List zaa) (i:Int) (v:List zaa) (r:List zaa) (h:zhm l i v=some r):Sp Tryz.prog 152 [.row 55 2 (List.map zac l),.im (nI i),.row 55 2 (List.map zac v)] (.row 55 2 (List.map zac r)):=by
 obtain ⟨h1,h⟩:=zai h;injection h with h
 subst h
 match v,h1 with
 | [x],h1 =>
  have:=sp_of_insert (es:=l.map zac) (e:=zac x) (i:=i) (fun e he=>by obtain ⟨y,_,rfl⟩:=List.mem_map.1 he;rfl) rfl h1.1 (by rw [zkK];exact h1.2.1) (by rw [zkK];exact h1.2.2.2);simpa [List.map_append,List.map_take,List.map_drop] using this
end
section
open Go.RowKit
set_option maxRecDepth 100000
set_option linter.unusedVariables false
set_option maxHeartbeats 4000000
def zf6.s2 (l_:List (List Int)) (i68:Nat):Option (Nat⊕(Unit⊕Bool)) :=
 cond (decide ((↑i68:Int)<(↑(List.length l_):Int))) (idxn l_ i68 fun e74=>cond (decide (200<(↑(List.length e74):Int))) (some (.inr (.inr true))) (some (.inl (i68+1)))) (some (.inr (.inl ())))
def zf6 (l_:List (List Int)):Option (Bool) :=
 cond (decide (200<(↑(List.length l_):Int))) (some true) ((iter (fun (s:Nat)=>zf6.s2 l_ s) fuel 0:Option (Unit⊕Bool)).bind (Sum.elim (fun (_:Unit)=>some false) some))
def ze5.s2 (o_:zan) (i99:Nat):Option (Nat⊕(Unit⊕Bool)) :=
 cond (decide ((↑i99:Int)<(↑(List.length o_.Traces):Int))) ((idxn o_.Traces i99 fun e119=>cond (decide (100<(↑(List.length e119.In):Int))) (some true) (idxn o_.Traces i99 fun e121=>some (decide (100<(↑(List.length e121.Out):Int)))):Option (Bool)).bind (fun (y118:Bool)=>cond (y118) (some (.inr (.inr true))) (some (.inl (i99+1))))) (some (.inr (.inl ())))
def ze5 (o_:zan):Option (Bool) :=
 cond (decide (60<(↑(List.length o_.Traces):Int))) (some true) ((iter (fun (s:Nat)=>ze5.s2 o_ s) fuel 0:Option (Unit⊕Bool)).bind (Sum.elim (fun (_:Unit)=>some false) some))
def zli (q_:zae):Option (Bool) :=
 (cond (decide (20<(↑(List.length q_.Device.M.Next):Int))) (some true) (cond (decide (10<q_.Device.M.Inputs)) (some true) (cond (decide (20<(↑(List.length q_.Device.Latency.Step):Int))) (some true) ((ze5 q_.Obs).bind fun c61=>some c61))):Option (Bool)).bind (fun (y57:Bool)=>some y57)
def zlx (m_:zab):Option (Bool) :=
 (cond (decide (40<(↑(List.length m_.Next):Int))) (some true) (cond (decide (40<(↑(List.length m_.Out):Int))) (some true) (some (decide (20<m_.Inputs)))):Option (Bool)).bind (fun (y55:Bool)=>some y55)
def zgc.s2 (m_:zab) (s_:Int) (a174:Nat):Option (Nat⊕(Unit⊕Int)) :=
 cond (decide ((↑a174:Int)<m_.Inputs)) ((idx m_.Next s_ fun e219=>idxn e219 a174 fun e220=>cond (decide (e220<0)) (some true) (idx m_.Next s_ fun e222=>idxn e222 a174 fun e223=>cond (decide ((↑(List.length m_.Next):Int)≤e223)) (some true) (idx m_.Out s_ fun e225=>idxn e225 a174 fun e226=>cond (decide (e226<0)) (some true) (idx m_.Out s_ fun e228=>idxn e228 a174 fun e229=>some (decide (1048576<e229))))):Option (Bool)).bind (fun (y218:Bool)=>cond (y218) (some (.inr (.inr 2))) (chk (inR ((↑a174:Int)+1)) (some (.inl (a174+1)))))) (some (.inr (.inl ())))
def zgc (m_:zab) (s_:Int):Option (Int) :=
 (idx m_.Next s_ fun e57=>cond (decide ((↑(List.length e57):Int)≠m_.Inputs)) (some true) (idx m_.Out s_ fun e59=>some (decide ((↑(List.length e59):Int)≠m_.Inputs))):Option (Bool)).bind (fun (y56:Bool)=>cond (y56) (some 1) ((iter (fun (s:Nat)=>zgc.s2 m_ s_ s) fuel 0:Option (Unit⊕Int)).bind (Sum.elim (fun (_:Unit)=>some 0) some)))
def zde.s2 (m_:zab) (s81:Nat):Option (Nat⊕(Unit⊕Int)) :=
 cond (decide ((↑s81:Int)<(↑(List.length m_.Next):Int))) ((zgc m_ (↑s81:Int)).bind fun c87=>cond (decide (c87≠0)) (some (.inr (.inr c87))) (some (.inl (s81+1)))) (some (.inr (.inl ())))
def zde (m_:zab):Option (Int) :=
 (cond (decide (m_.Inputs<1)) (some true) (some (decide (64<m_.Inputs))):Option (Bool)).bind (fun (y54:Bool)=>cond (y54) (some 2) (cond (decide ((↑(List.length m_.Next):Int)=0)) (some 19) (cond (decide (128<(↑(List.length m_.Next):Int))) (some 11) ((cond (decide (m_.Start<0)) (some true) (some (decide ((↑(List.length m_.Next):Int)≤m_.Start))):Option (Bool)).bind (fun (y62:Bool)=>cond (y62) (some 2) (cond (decide ((↑(List.length m_.Out):Int)≠(↑(List.length m_.Next):Int))) (some 1) ((iter (fun (s:Nat)=>zde.s2 m_ s) fuel 0:Option (Unit⊕Int)).bind (Sum.elim (fun (_:Unit)=>some 0) some))))))))
def ze8.s2 (l_:zay) (i98:Nat):Option (Nat⊕(Unit⊕Bool)) :=
 cond (decide ((↑i98:Int)<(↑(List.length l_.Step):Int))) ((idxn l_.Step i98 fun e118=>cond (decide (e118<0)) (some true) (idxn l_.Step i98 fun e120=>some (decide (1048576<e120))):Option (Bool)).bind (fun (y117:Bool)=>cond (y117) (some (.inr (.inr false))) (some (.inl (i98+1))))) (some (.inr (.inl ())))
def ze8 (l_:zay):Option (Bool) :=
 (iter (fun (s:Nat)=>ze8.s2 l_ s) fuel 0:Option (Unit⊕Bool)).bind (Sum.elim (fun (_:Unit)=>(cond (decide (0≤l_.Reset)) (some (decide (l_.Reset≤1048576))) (some false):Option (Bool)).bind (fun (y125:Bool)=>some y125)) some)
def zl8 (l_:zay) (inputs_:Int):Option (Int) :=
 cond (decide ((↑(List.length l_.Step):Int)≠inputs_)) (some 1) ((ze8 l_).bind fun c52=>cond ((!c52)) (some 2) (some 0))
def zkt (n_:Int):Option (Bool) :=
 (cond (decide (0≤n_)) (some (decide (n_≤10000))) (some false):Option (Bool)).bind (fun (y54:Bool)=>some y54)
def zeo (n_:Int):Option (Bool) :=
 (cond (decide (0≤n_)) (some (decide (n_≤1125899906842624))) (some false):Option (Bool)).bind (fun (y54:Bool)=>some y54)
def ze3 (d_:zad):Option (Int) :=
 (zde d_.M).bind fun c51=>cond (decide (c51≠0)) ((zde d_.M).bind fun c53=>some c53) ((cond (decide (d_.State<0)) (some true) (some (decide ((↑(List.length d_.M.Next):Int)≤d_.State))):Option (Bool)).bind (fun (y57:Bool)=>cond (y57) (some 2) ((zl8 d_.Latency d_.M.Inputs).bind fun c60=>cond (decide (c60≠0)) ((zl8 d_.Latency d_.M.Inputs).bind fun c62=>some c62) (((zkt d_.Faults.Lost).bind fun c74=>cond ((!c74)) (some true) ((zkt d_.Faults.Wrong).bind fun c76=>cond ((!c76)) (some true) ((zkt d_.Faults.Crash).bind fun c78=>cond ((!c78)) (some true) (chk (inR (d_.Faults.Lost+d_.Faults.Wrong)) (chk (inR ((d_.Faults.Lost+d_.Faults.Wrong)+d_.Faults.Crash)) (some (decide (10000<((d_.Faults.Lost+d_.Faults.Wrong)+d_.Faults.Crash)))))))):Option (Bool)).bind (fun (y73:Bool)=>cond (y73) (some 2) (((zeo d_.Steps).bind fun c91=>cond ((!c91)) (some true) ((zeo d_.Resets).bind fun c93=>cond ((!c93)) (some true) ((zeo d_.Time).bind fun c95=>some (!c95))):Option (Bool)).bind (fun (y90:Bool)=>cond (y90) (some 2) (some 0))))))))
def zn1 (inputs_:Int):Option (Bool) :=
 (cond (decide (1≤inputs_)) (some (decide (inputs_≤1024))) (some false):Option (Bool)).bind (fun (y54:Bool)=>some y54)
def zd1.s2 (w_:List Int) (inputs_:Int) (i106:Nat):Option (Nat⊕(Unit⊕Int)) :=
 cond (decide ((↑i106:Int)<(↑(List.length w_):Int))) ((idxn w_ i106 fun e127=>cond (decide (e127<0)) (some true) (idxn w_ i106 fun e129=>some (decide (inputs_≤e129))):Option (Bool)).bind (fun (y126:Bool)=>cond (y126) (some (.inr (.inr 1))) (some (.inl (i106+1))))) (some (.inr (.inl ())))
def zd1 (w_:List Int) (inputs_:Int):Option (Int) :=
 (zn1 inputs_).bind fun c51=>cond ((!c51)) (some 2) (cond (decide (1024<(↑(List.length w_):Int))) (some 3) ((iter (fun (s:Nat)=>zd1.s2 w_ inputs_ s) fuel 0:Option (Unit⊕Int)).bind (Sum.elim (fun (_:Unit)=>some 0) some)))
def zdt.s2 (a_:List Int) (b_:List Int) (i115:Nat):Option (Nat⊕Nat) :=
 (cond (decide ((↑i115:Int)<(↑(List.length a_):Int))) (cond (decide ((↑i115:Int)<(↑(List.length b_):Int))) (idxn a_ i115 fun e141=>idxn b_ i115 fun e142=>some (decide (e141=e142))) (some false)) (some false):Option (Bool)).bind (fun (y138:Bool)=>cond (y138) (chk (inR ((↑i115:Int)+1)) (some (.inl (i115+1)))) (some (.inr i115)))
def zdt (a_:List Int) (b_:List Int):Option (Int) :=
 (iter (fun (s:Nat)=>zdt.s2 a_ b_ s) fuel 0:Option (Nat)).bind (fun (i100:Nat)=>some (↑i100:Int))
def zsm (a_:List Int) (b_:List Int):Option (Int) :=
 (zdt a_ b_).bind fun c51=>(cond (decide (c51=(↑(List.length a_):Int))) (some (decide (c51=(↑(List.length b_):Int)))) (some false):Option (Bool)).bind (fun (y55:Bool)=>cond (y55) (some 0) ((cond (decide (c51=(↑(List.length a_):Int))) (some (decide (c51=(↑(List.length a_):Int)))) (cond (decide (c51<(↑(List.length b_):Int))) (idx a_ c51 fun e69=>idx b_ c51 fun e70=>some (decide (e69<e70))) (some false)):Option (Bool)).bind (fun (y66:Bool)=>cond (y66) (some (-1:Int)) (some 1))))
def zgr (a_:List Int) (b_:List Int):Option (Int) :=
 cond (decide ((↑(List.length a_):Int)<(↑(List.length b_):Int))) (some (-1:Int)) (cond (decide ((↑(List.length b_):Int)<(↑(List.length a_):Int))) (some 1) ((zsm a_ b_).bind fun c53=>some c53))
def zcz.s2 (t_:zaa) (i101:Nat):Option (Nat⊕(Unit⊕Int)) :=
 cond (decide ((↑i101:Int)<(↑(List.length t_.Out):Int))) ((idxn t_.Out i101 fun e121=>cond (decide (e121<0)) (some true) (idxn t_.Out i101 fun e123=>some (decide (1048576<e123))):Option (Bool)).bind (fun (y120:Bool)=>cond (y120) (some (.inr (.inr 2))) (some (.inl (i101+1))))) (some (.inr (.inl ())))
def zcz (t_:zaa) (inputs_:Int):Option (Int) :=
 (zd1 t_.In inputs_).bind fun c51=>cond (decide (c51≠0)) (some c51) (cond (decide ((↑(List.length t_.Out):Int)≠(↑(List.length t_.In):Int))) (some 1) ((iter (fun (s:Nat)=>zcz.s2 t_ s) fuel 0:Option (Unit⊕Int)).bind (Sum.elim (fun (_:Unit)=>some 0) some)))
def zdm (w_:List Int) (p_:List Int):Option (Bool) :=
 (zdt w_ p_).bind fun c51=>some (decide (c51=(↑(List.length p_):Int)))
def zdd.s2 (a_:zaa) (b_:zaa) (c51:Int) (i73:Nat):Option (Nat⊕(Unit⊕Int)) :=
 cond (decide ((↑i73:Int)<c51)) (idxn a_.Out i73 fun e81=>idxn b_.Out i73 fun e82=>cond (decide (e81≠e82)) (some (.inr (.inr (↑i73:Int)))) (chk (inR ((↑i73:Int)+1)) (some (.inl (i73+1))))) (some (.inr (.inl ())))
def zdd (a_:zaa) (b_:zaa):Option (Int) :=
 (zdt a_.In b_.In).bind fun c51=>(iter (fun (s:Nat)=>zdd.s2 a_ b_ c51 s) fuel 0:Option (Unit⊕Int)).bind (Sum.elim (fun (_:Unit)=>some (-1:Int)) some)
def zcp.s30 (o_:zan) (i518:Nat) (prefix714:Bool) (clash715:Bool) (k716:Nat):Option ((Bool×Bool×Nat)⊕(Bool×Bool)) :=
 cond (decide ((↑k716:Int)<(↑(List.length o_.Traces):Int))) ((cond (prefix714) (some true) (idxn o_.Traces k716 fun e743=>idxn o_.Traces i518 fun e744=>(zdm e743.In e744.In).bind fun c745=>some c745):Option (Bool)).bind (fun (prefix741:Bool)=>cond (clash715) (some (.inl (prefix741,true,(k716+1)))) (idxn o_.Traces i518 fun e747=>idxn o_.Traces k716 fun e748=>(zdd e747 e748).bind fun c749=>some (.inl (prefix741,decide (0≤c749),(k716+1)))))) (some (.inr (prefix714,clash715)))
def zcp.k31 (i518:Nat) (prefix693:Bool) (clash694:Bool):Option (Nat⊕(Unit⊕Int)) :=
 cond (prefix693) (some (.inr (.inr 7))) (cond (clash694) (some (.inr (.inr 13))) (some (.inl (i518+1))))
def zcp.s32 (o_:zan) (i518:Nat):Option (Nat⊕(Unit⊕Int)) :=
 cond (decide ((↑i518:Int)<(↑(List.length o_.Traces):Int))) ((iter (fun (s:Bool×Bool×Nat)=>zcp.s30 o_ i518 s.1 s.2.1 s.2.2) fuel (false,false,(i518+1)):Option (Bool×Bool)).bind (fun (s:Bool×Bool)=>zcp.k31 i518 s.1 s.2)) (some (.inr (.inl ())))
def zcp (o_:zan):Option (Int) :=
 (iter (fun (s:Nat)=>zcp.s32 o_ s) fuel 0:Option (Unit⊕Int)).bind (Sum.elim (fun (_:Unit)=>some 0) some)
def zfr.s2 (o_:zan) (i129:Nat):Option (Nat⊕(Unit⊕Int)) :=
 cond (decide ((↑i129:Int)<(↑(List.length o_.Traces):Int))) (idxn o_.Traces i129 fun e149=>(zd1 e149.In o_.Inputs).bind fun c150=>cond (decide (c150≠0)) (some (.inr (.inr c150))) (cond (decide ((↑(List.length e149.In):Int)=0)) (some (.inr (.inr 19))) ((zcz e149 o_.Inputs).bind fun c153=>cond (decide (c153≠0)) (some (.inr (.inr c153))) ((cond (decide (0<(↑i129:Int))) (idx o_.Traces ((↑i129:Int)-1) fun e162=>(zgr e162.In e149.In).bind fun c163=>some (decide (0≤c163))) (some false):Option (Bool)).bind (fun (y160:Bool)=>cond (y160) (some (.inr (.inr 10))) (some (.inl (i129+1)))))))) (some (.inr (.inl ())))
def zfr (o_:zan):Option (Int) :=
 (cond (decide (o_.Inputs<1)) (some true) (some (decide (64<o_.Inputs))):Option (Bool)).bind (fun (y54:Bool)=>cond (y54) (some 2) (cond (decide (10000<(↑(List.length o_.Traces):Int))) (some 11) ((iter (fun (s:Nat)=>zfr.s2 o_ s) fuel 0:Option (Unit⊕Int)).bind (Sum.elim (fun (_:Unit)=>(zcp o_).bind fun c165=>some c165) some))))
def zln (q_:zae):Option (Bool) :=
 ((ze3 q_.Device).bind fun c62=>cond (decide (c62=0)) ((zfr q_.Obs).bind fun c64=>cond (decide (c64=0)) (cond (decide (q_.Obs.Inputs=q_.Device.M.Inputs)) (cond (decide (1≤q_.Votes)) (cond (decide (q_.Votes≤9)) (cond (decide (q_.Votes≤q_.Tries)) (some (decide (q_.Tries≤64))) (some false)) (some false)) (some false)) (some false)) (some false)) (some false):Option (Bool)).bind (fun (y61:Bool)=>some y61)
def zeg.s2 (a_:List Int) (b_:List Int) (i73:Nat):Option (Nat⊕(Unit⊕Bool)) :=
 cond (decide ((↑i73:Int)<(↑(List.length a_):Int))) (idxn a_ i73 fun e80=>idxn b_ i73 fun e81=>cond (decide (e80≠e81)) (some (.inr (.inr false))) (some (.inl (i73+1)))) (some (.inr (.inl ())))
def zeg (a_:List Int) (b_:List Int):Option (Bool) :=
 cond (decide ((↑(List.length a_):Int)≠(↑(List.length b_):Int))) (some false) ((iter (fun (s:Nat)=>zeg.s2 a_ b_ s) fuel 0:Option (Unit⊕Bool)).bind (Sum.elim (fun (_:Unit)=>some true) some))
def zeu.s2 (a_:List (List Int)) (b_:List (List Int)) (i77:Nat):Option (Nat⊕(Unit⊕Bool)) :=
 cond (decide ((↑i77:Int)<(↑(List.length a_):Int))) (idxn a_ i77 fun e85=>idxn b_ i77 fun e86=>(zeg e85 e86).bind fun c87=>cond ((!c87)) (some (.inr (.inr false))) (some (.inl (i77+1)))) (some (.inr (.inl ())))
def zeu (a_:List (List Int)) (b_:List (List Int)):Option (Bool) :=
 cond (decide ((↑(List.length a_):Int)≠(↑(List.length b_):Int))) (some false) ((iter (fun (s:Nat)=>zeu.s2 a_ b_ s) fuel 0:Option (Unit⊕Bool)).bind (Sum.elim (fun (_:Unit)=>some true) some))
def zoe:Option (zab) :=
 some (⟨2,0,[[1,0],[1,0]],[[1,0],[1,2]]⟩:zab)
def zf3.s2 (ids_:List (List (List Int))) (n65:Int) (y66:Nat):Option ((Int×Nat)⊕Int) :=
 cond (decide ((↑y66:Int)<(↑(List.length ids_):Int))) (idxn ids_ y66 fun e71=>some (.inl ((max n65 (↑(List.length e71):Int)),(y66+1)))) (some (.inr n65))
def zf3 (ids_:List (List (List Int))):Option (Int) :=
 (iter (fun (s:Int×Nat)=>zf3.s2 ids_ s.1 s.2) fuel (1,0):Option (Int)).bind (fun (n62:Int)=>some n62)
def zbj.s2 (slices_:List (List Int)) (size73:Nat) (y74:Nat):Option ((Nat×Nat)⊕Nat) :=
 cond (decide ((↑y74:Int)<(↑(List.length slices_):Int))) (idxn slices_ y74 fun e81=>chk (inR ((↑size73:Int)+(↑(List.length e81):Int))) (cond (decide (((↑size73:Int)+(↑(List.length e81):Int))<0)) (none) (some (.inl ((size73+(List.length e81)),(y74+1)))))) (some (.inr size73))
def zbj.s4 (slices_:List (List Int)) (y106:List Int) (y107:Nat):Option ((List Int×Nat)⊕List Int) :=
 cond (decide ((↑y107:Int)<(↑(List.length slices_):Int))) (idxn slices_ y107 fun e113=>chk (zbt (List.length y106+List.length e113) 8) (some (.inl ((y106++e113),(y107+1))))) (some (.inr y106))
def zbj (slices_:List (List Int)):Option (List Int) :=
 (iter (fun (s:Nat×Nat)=>zbj.s2 slices_ s.1 s.2) fuel (0,0):Option (Nat)).bind (fun (size68:Nat)=>(zp5 (↑size68:Int)).bind fun c86=>(iter (fun (s:List Int×Nat)=>zbj.s4 slices_ s.1 s.2) fuel (c86,0):Option (List Int)).bind (fun (y102:List Int)=>some y102))
def zim (parts_:List (List Int)):Option (List Int) :=
 (zbj parts_).bind fun c51=>some c51
def zbe.s2 (s_:List Int) (f_:Int→Option Bool) (y71:Nat):Option (Nat⊕(Unit⊕Int)) :=
 cond (decide ((↑y71:Int)<(↑(List.length s_):Int))) (idxn s_ y71 fun e78=>(f_ e78).bind fun c79=>cond (c79) (some (.inr (.inr (↑y71:Int)))) (some (.inl (y71+1)))) (some (.inr (.inl ())))
def zbe (s_:List Int) (f_:Int→Option Bool):Option (Int) :=
 (iter (fun (s:Nat)=>zbe.s2 s_ f_ s) fuel 0:Option (Unit⊕Int)).bind (Sum.elim (fun (_:Unit)=>some (-1:Int)) some)
def zcc (s_:List Int) (f_:Int→Option Bool):Option (Bool) :=
 (zbe s_ f_).bind fun c51=>some (decide (0≤c51))
def zgf (inputs_:Int):Option (Bool) :=
 (cond (decide (1≤inputs_)) (some (decide (inputs_≤1024))) (some false):Option (Bool)).bind (fun (y54:Bool)=>some y54)
def zgs (a_:Int) (p1_:Int):Option (Bool) :=
 (cond (decide (a_<0)) (some true) (some (decide (p1_≤a_))):Option (Bool)).bind (fun (y54:Bool)=>some y54)
def za6.s2 (s_:List Int) (f_:Int→Option Bool) (y71:Nat):Option (Nat⊕(Unit⊕Int)) :=
 cond (decide ((↑y71:Int)<(↑(List.length s_):Int))) (idxn s_ y71 fun e78=>(f_ e78).bind fun c79=>cond (c79) (some (.inr (.inr (↑y71:Int)))) (some (.inl (y71+1)))) (some (.inr (.inl ())))
def za6 (s_:List Int) (f_:Int→Option Bool):Option (Int) :=
 (iter (fun (s:Nat)=>za6.s2 s_ f_ s) fuel 0:Option (Unit⊕Int)).bind (Sum.elim (fun (_:Unit)=>some (-1:Int)) some)
def zc0 (s_:List Int) (f_:Int→Option Bool):Option (Bool) :=
 (za6 s_ f_).bind fun c51=>some (decide (0≤c51))
def zfa (w_:List Int) (inputs_:Int):Option (Int) :=
 (zgf inputs_).bind fun c51=>cond ((!c51)) (some 2) (cond (decide (1024<(↑(List.length w_):Int))) (some 3) ((zc0 w_ (fun u0=>zgs u0 inputs_)).bind fun c54=>cond (c54) (some 1) (some 0)))
def zfx (m_:zdp) (s_:Int) (a_:Int):Option (Int×Int) :=
 idx m_.Mealy.Next s_ fun e51=>idx e51 a_ fun e52=>idx m_.Mealy.Out s_ fun e53=>idx e53 a_ fun e54=>some (e52,e54)
def zbv.s2 (r_:zcr) (w_:List Int) (y76:Int) (y77:List Int) (y78:Nat):Option ((Int×List Int×Nat)⊕(Int×List Int)) :=
 cond (decide ((↑y78:Int)<(↑(List.length w_):Int))) (idxn w_ y78 fun e85=>(zfx r_.machine y76 e85).bind fun c86=>chk (zbt (List.length y77+1) 8) (some (.inl (c86.1,(y77++[c86.2]),(y78+1))))) (some (.inr (y76,y77)))
def zbv.k3 (r_:zcr) (y71:Int) (y72:List Int):Option (List Int×zcr) :=
 some (y72,(⟨r_.machine,y71⟩:zcr))
def zbv (r_:zcr) (w_:List Int):Option (List Int×zcr) :=
 (iter (fun (s:Int×List Int×Nat)=>zbv.s2 r_ w_ s.1 s.2.1 s.2.2) fuel (r_.at_,[],0):Option (Int×List Int)).bind (fun (s:Int×List Int)=>zbv.k3 r_ s.1 s.2)
def za9.s13 (m_:zab) (y509:Nat) (y697:Nat):Option (Nat⊕(Unit⊕(Nat⊕(Unit⊕Int)))) :=
 cond (decide ((↑y697:Int)<m_.Inputs)) (idxn m_.Next y509 fun e716=>idxn e716 y697 fun e717=>idxn m_.Out y509 fun e718=>idxn e718 y697 fun e719=>(cond (decide (e717<0)) (some true) (cond (decide ((↑(List.length m_.Next):Int)≤e717)) (some true) (cond (decide (e719<0)) (some true) (some (decide (1048576<e719))))):Option (Bool)).bind (fun (y725:Bool)=>cond (y725) (some (.inr (.inr (.inr (.inr 2))))) (chk (inR ((↑y697:Int)+1)) (some (.inl (y697+1)))))) (some (.inr (.inl ())))
def za9.s14 (m_:zab) (y509:Nat):Option (Nat⊕(Unit⊕Int)) :=
 cond (decide ((↑y509:Int)<(↑(List.length m_.Next):Int))) ((idxn m_.Next y509 fun e628=>cond (decide ((↑(List.length e628):Int)≠m_.Inputs)) (some true) (idxn m_.Out y509 fun e630=>some (decide ((↑(List.length e630):Int)≠m_.Inputs))):Option (Bool)).bind (fun (y627:Bool)=>cond (y627) (some (.inr (.inr 1))) ((iter (fun (s:Nat)=>za9.s13 m_ y509 s) fuel 0:Option (Unit⊕(Nat⊕(Unit⊕Int)))).bind (Sum.elim (fun (_:Unit)=>some (.inl (y509+1))) some)))) (some (.inr (.inl ())))
def za9 (m_:zab):Option (Int) :=
 (cond (decide (m_.Inputs<1)) (some true) (some (decide (64<m_.Inputs))):Option (Bool)).bind (fun (y54:Bool)=>cond (y54) (some 2) (cond (decide ((↑(List.length m_.Next):Int)=0)) (some 19) (cond (decide (128<(↑(List.length m_.Next):Int))) (some 11) ((cond (decide (m_.Start<0)) (some true) (some (decide ((↑(List.length m_.Next):Int)≤m_.Start))):Option (Bool)).bind (fun (y62:Bool)=>cond (y62) (some 2) (cond (decide ((↑(List.length m_.Out):Int)≠(↑(List.length m_.Next):Int))) (some 1) ((iter (fun (s:Nat)=>za9.s14 m_ s) fuel 0:Option (Unit⊕Int)).bind (Sum.elim (fun (_:Unit)=>some 0) some))))))))
def zkn (m_:zab) (s_:Int):Option (Int) :=
 (za9 m_).bind fun c51=>cond (decide (c51≠0)) (some c51) ((cond (decide (s_<0)) (some true) (some (decide ((↑(List.length m_.Next):Int)≤s_))):Option (Bool)).bind (fun (y56:Bool)=>cond (y56) (some 2) (some 0)))
def zii (m_:zab) (s_:Int) (w_:List Int):Option (List Int×Int×Int) :=
 (zkn m_ s_).bind fun c51=>cond (decide (c51≠0)) (some ([],0,c51)) ((zfa w_ m_.Inputs).bind fun c53=>cond (decide (c53≠0)) (some ([],0,c53)) ((zbv (⟨(⟨m_⟩:zdp),s_⟩:zcr) w_).bind fun c55=>some (c55.1,c55.2.at_,0)))
def zef.s2 (u_:List Int) (tails_:List (List Int)) (y73:List (List Int)) (y74:Nat):Option ((List (List Int)×Nat)⊕List (List Int)) :=
 cond (decide ((↑y74:Int)<(↑(List.length tails_):Int))) (idxn tails_ y74 fun e81=>(zim [u_,e81]).bind fun c82=>chk (zbt (List.length y73+1) 24) (some (.inl ((y73++[c82]),(y74+1))))) (some (.inr y73))
def zef (u_:List Int) (tails_:List (List Int)):Option (List (List Int)) :=
 (iter (fun (s:List (List Int)×Nat)=>zef.s2 u_ tails_ s.1 s.2) fuel ([],0):Option (List (List Int))).bind (fun (y69:List (List Int))=>some y69)
def zlg (m_:zab) (ids_:List (List (List Int))) (w_:List Int):Option (List (List Int)×Int) :=
 (zii m_ m_.Start w_).bind fun c51=>cond (decide (c51.2.2≠0)) (some ([],c51.2.2)) (cond (decide ((↑(List.length ids_):Int)≠(↑(List.length m_.Next):Int))) (some ([],1)) (idx ids_ c51.2.1 fun e54=>cond (decide ((↑(List.length e54):Int)=0)) (some ([[]],0)) (idx ids_ c51.2.1 fun e56=>(zef [] e56).bind fun c57=>some (c57,0))))
def zf5 (a_:List Int) (b_:List Int) (p2_:(List Int)→(List Int)→Option Int):Option (Bool) :=
 (p2_ a_ b_).bind fun c51=>some (decide (c51=0))
def zas.s18 (eq_:(List Int)→(List Int)→Option Bool) (k356:Nat) (y481:List (List Int)) (k482:Nat) (y483:Nat):Option ((List (List Int)×Nat×Nat)⊕(List (List Int)×Nat)) :=
 cond (decide ((↑y483:Int)<(↑(List.length y481-k356):Int))) (idxn y481 (k356+y483) fun e495=>chk ((0:Int)≤((↑y483:Int)-1)) (idxn y481 (k356+(Int.toNat ((↑y483:Int)-1))) fun e496=>(eq_ e495 e496).bind fun c498=>cond ((!c498)) (idxn y481 (k356+y483) fun e500=>idxn y481 k482 fun e501=>chk (inR ((↑k482:Int)+1)) (some (.inl ((List.set y481 k482 e500),(k482+1),(y483+1))))) (some (.inl (y481,k482,(y483+1)))))) (some (.inr (y481,k482)))
def zas.k19 (y471:List (List Int)) (k472:Nat):Option (Nat⊕(Unit⊕List (List Int))) :=
 chk ((0:Int)≤(↑k472:Int)∧(↑k472:Int)≤(↑(List.length y471):Int)∧0<List.length y471) (chk (k472≤List.length y471) (chk ((0:Int)≤(↑k472:Int)∧(↑k472:Int)≤(↑(List.length (List.take k472 y471++List.replicate (List.length y471-k472) [])):Int)∧0<List.length (List.take k472 y471++List.replicate (List.length y471-k472) [])) (some (.inr (.inr (List.take k472 (List.take k472 y471++List.replicate (List.length y471-k472) [])))))))
def zas.s20 (s_:List (List Int)) (eq_:(List Int)→(List Int)→Option Bool) (k356:Nat):Option (Nat⊕(Unit⊕List (List Int))) :=
 cond (decide ((↑k356:Int)<(↑(List.length s_):Int))) (idxn s_ k356 fun e434=>idx s_ ((↑k356:Int)-1) fun e435=>(eq_ e434 e435).bind fun c436=>cond (c436) (chk ((0:Int)≤(↑k356:Int)∧(↑k356:Int)≤(↑(List.length s_):Int)∧0<List.length s_) ((iter (fun (s:List (List Int)×Nat×Nat)=>zas.s18 eq_ k356 s.1 s.2.1 s.2.2) fuel (s_,k356,1):Option (List (List Int)×Nat)).bind (fun (s:List (List Int)×Nat)=>zas.k19 s.1 s.2))) (some (.inl (k356+1)))) (some (.inr (.inl ())))
def zas (s_:List (List Int)) (eq_:(List Int)→(List Int)→Option Bool):Option (List (List Int)) :=
 cond (decide ((↑(List.length s_):Int)<2)) (some s_) ((iter (fun (s:Nat)=>zas.s20 s_ eq_ s) fuel 1:Option (Unit⊕List (List Int))).bind (Sum.elim (fun (_:Unit)=>some s_) some))
def zdo.s2 (c53:List (List Int)) (y78:List (List Int)) (y79:Nat):Option ((List (List Int)×Nat)⊕List (List Int)) :=
 cond (decide ((↑y79:Int)<(↑(List.length c53):Int))) (idxn y78 y79 fun e87=>(zb2 e87).bind fun c88=>idxn y78 y79 fun e89=>chk (inR ((↑y79:Int)+1)) (some (.inl ((List.set y78 y79 c88),(y79+1))))) (some (.inr y78))
def zdo (l_:List (List Int)) (order_:(List Int)→(List Int)→Option Int):Option (List (List Int)) :=
 (zk7 l_).bind fun c51=>(zi6 c51 order_).bind fun c52=>(zas c52 (fun u0 u1=>zf5 u0 u1 order_)).bind fun c53=>(iter (fun (s:List (List Int)×Nat)=>zdo.s2 c53 s.1 s.2) fuel (c53,0):Option (List (List Int))).bind (fun (y73:List (List Int))=>some y73)
def zc9.s2 (a_:List Int) (b_:List Int) (y72:Nat):Option (Nat⊕(Unit⊕Int)) :=
 cond (decide ((↑y72:Int)<(min (↑(List.length a_):Int) (↑(List.length b_):Int)))) (idxn a_ y72 fun e79=>idxn b_ y72 fun e80=>cond (decide (e79≠e80)) (some (.inr (.inr (↑y72:Int)))) (some (.inl (y72+1)))) (some (.inr (.inl ())))
def zc9 (a_:List Int) (b_:List Int):Option (Int) :=
 (iter (fun (s:Nat)=>zc9.s2 a_ b_ s) fuel 0:Option (Unit⊕Int)).bind (Sum.elim (fun (_:Unit)=>some (min (↑(List.length a_):Int) (↑(List.length b_):Int))) some)
def zdy (w_:List Int) (p_:List Int):Option (Bool) :=
 (zc9 w_ p_).bind fun c51=>some (decide (c51=(↑(List.length p_):Int)))
def cmp_isNaN_int (x_:Int):Option (Bool) :=
 some (decide (x_≠x_))
def cmp_Compare_int (x_:Int) (y_:Int):Option (Int) :=
 (cmp_isNaN_int x_).bind fun c51=>(cmp_isNaN_int y_).bind fun c52=>cond (c51) (cond (c52) (some 0) (some (-1:Int))) (cond (c52) (some 1) (cond (decide (x_<y_)) (some (-1:Int)) (cond (decide (y_<x_)) (some 1) (some 0))))
def zbh.s2 (s1_:List Int) (s2_:List Int) (y80:Nat):Option (Nat⊕(Unit⊕Int)) :=
 cond (decide ((↑y80:Int)<(↑(List.length s1_):Int))) (idxn s1_ y80 fun e89=>cond (decide ((↑(List.length s2_):Int)≤(↑y80:Int))) (some (.inr (.inr 1))) (idxn s2_ y80 fun e91=>(cmp_Compare_int e89 e91).bind fun c92=>cond (decide (c92≠0)) (some (.inr (.inr c92))) (some (.inl (y80+1))))) (some (.inr (.inl ())))
def zbh (s1_:List Int) (s2_:List Int):Option (Int) :=
 (iter (fun (s:Nat)=>zbh.s2 s1_ s2_ s) fuel 0:Option (Unit⊕Int)).bind (Sum.elim (fun (_:Unit)=>cond (decide ((↑(List.length s1_):Int)<(↑(List.length s2_):Int))) (some (-1:Int)) (some 0)) some)
def zd6.s2 (vals_:List Int) (y67:Nat):Option (Nat⊕(Unit⊕Int)) :=
 cond (decide ((↑y67:Int)<(↑(List.length vals_):Int))) (idxn vals_ y67 fun e73=>cond (decide (e73≠0)) (some (.inr (.inr e73))) (some (.inl (y67+1)))) (some (.inr (.inl ())))
def zd6 (vals_:List Int):Option (Int) :=
 (iter (fun (s:Nat)=>zd6.s2 vals_ s) fuel 0:Option (Unit⊕Int)).bind (Sum.elim (fun (_:Unit)=>some 0) some)
def zff (a_:List Int) (b_:List Int):Option (Int) :=
 (cmp_Compare_int (↑(List.length a_):Int) (↑(List.length b_):Int)).bind fun c51=>(zbh a_ b_).bind fun c52=>(zd6 [c51,c52]).bind fun c53=>some c53
def zhs (l_:List (List Int)):Option (List (List Int)) :=
 (zdo l_ (fun u0 u1=>zff u0 u1)).bind fun c51=>some c51
def zkg (a_:List Int) (b_:List Int):Option (Int) :=
 (zbh a_ b_).bind fun c51=>some c51
def zd3.s2 (c51:List (List Int)) (y119:List (List Int)) (y120:Nat):Option ((List (List Int)×Nat)⊕List (List Int)) :=
 cond (decide ((↑y120:Int)<(↑(List.length c51):Int))) (idxn c51 y120 fun e139=>(cond (decide (((↑y120:Int)+1)=(↑(List.length c51):Int))) (some true) (idxn c51 (y120+1) fun e147=>(zdy e147 e139).bind fun c148=>some (!c148)):Option (Bool)).bind (fun (y145:Bool)=>cond (y145) (chk (zbt (List.length y119+1) 24) (some (.inl ((y119++[e139]),(y120+1))))) (some (.inl (y119,(y120+1)))))) (some (.inr y119))
def zd3 (l_:List (List Int)):Option (List (List Int)) :=
 (zdo l_ (fun u0 u1=>zkg u0 u1)).bind fun c51=>(iter (fun (s:List (List Int)×Nat)=>zd3.s2 c51 s.1 s.2) fuel ([],0):Option (List (List Int))).bind (fun (y104:List (List Int))=>(zhs y104).bind fun c157=>some c157)
def zcs.s18 (e359:List Int) (y394:List Bool) (y395:List Int) (y396:Nat):Option ((List Bool×List Int×Nat)⊕(List Bool×List Int)) :=
 cond (decide ((↑y396:Int)<(↑(List.length e359):Int))) (idxn e359 y396 fun e405=>idx y394 e405 fun e406=>cond ((!e406)) (idx y394 e405 fun e408=>chk (zbt (List.length y395+1) 8) (some (.inl ((List.set y394 e405.toNat true),(y395++[e405]),(y396+1))))) (some (.inl (y394,y395,(y396+1))))) (some (.inr (y394,y395)))
def zcs.k19 (i297:Nat) (y386:List Bool) (y387:List Int):Option ((List Bool×List Int×Nat)⊕List Int) :=
 some (.inl (y386,y387,(i297+1)))
def zcs.s20 (m_:zab) (y295:List Bool) (y296:List Int) (i297:Nat):Option ((List Bool×List Int×Nat)⊕List Int) :=
 cond (decide ((↑i297:Int)<(↑(List.length y296):Int))) (idxn y296 i297 fun e358=>idx m_.Next e358 fun e359=>(iter (fun (s:List Bool×List Int×Nat)=>zcs.s18 e359 s.1 s.2.1 s.2.2) fuel (y295,y296,0):Option (List Bool×List Int)).bind (fun (s:List Bool×List Int)=>zcs.k19 i297 s.1 s.2)) (some (.inr y296))
def zcs (m_:zab):Option (List Int) :=
 (za9 m_).bind fun c51=>cond (decide (c51≠0)) (some []) (chk ((0:Int)≤(↑(List.length m_.Next):Int)∧(↑(List.length m_.Next):Int)≤(↑(List.length m_.Next):Int)∧zbt (Int.toNat (↑(List.length m_.Next):Int)) 1) (idx (List.replicate (List.length m_.Next) false) m_.Start fun e54=>(iter (fun (s:List Bool×List Int×Nat)=>zcs.s20 m_ s.1 s.2.1 s.2.2) fuel ((List.set (List.replicate (List.length m_.Next) false) m_.Start.toNat true),[m_.Start],0):Option (List Int)).bind (fun (y236:List Int)=>some y236)))
def zcl.s2 (c53:List Int) (y74:List Int) (y75:Nat):Option ((List Int×Nat)⊕List Int) :=
 cond (decide ((↑y75:Int)<(↑(List.length c53):Int))) (idxn c53 y75 fun e81=>idx y74 e81 fun e82=>some (.inl ((List.set y74 e81.toNat (↑y75:Int)),(y75+1)))) (some (.inr y74))
def zcl.s15 (y70:List Int) (e374:List Int) (y402:List Int) (y403:Nat):Option ((List Int×Nat)⊕List Int) :=
 cond (decide ((↑y403:Int)<(↑(List.length e374):Int))) (idxn e374 y403 fun e410=>idx y70 e410 fun e411=>idxn y402 y403 fun e412=>some (.inl ((List.set y402 y403 e411),(y403+1)))) (some (.inr y402))
def zcl.s16 (m_:zab) (c53:List Int) (y70:List Int) (y310:List (List Int)) (y311:List (List Int)) (y312:Nat):Option ((List (List Int)×List (List Int)×Nat)⊕(List (List Int)×List (List Int))) :=
 cond (decide ((↑y312:Int)<(↑(List.length c53):Int))) (idxn c53 y312 fun e372=>chk ((0:Int)≤m_.Inputs∧m_.Inputs≤m_.Inputs∧zbt (Int.toNat m_.Inputs) 8) (idx m_.Next e372 fun e374=>(iter (fun (s:List Int×Nat)=>zcl.s15 y70 e374 s.1 s.2) fuel ((List.replicate (Int.toNat m_.Inputs) 0),0):Option (List Int)).bind (fun (y397:List Int)=>chk (zbt (List.length y310+1) 24) (idx m_.Out e372 fun e425=>(zb2 e425).bind fun c426=>chk (zbt (List.length y311+1) 24) (some (.inl ((y310++[y397]),(y311++[c426]),(y312+1)))))))) (some (.inr (y310,y311)))
def zcl.k17 (m_:zab) (y259:List (List Int)) (y260:List (List Int)):Option (zab×Int) :=
 some ((⟨m_.Inputs,0,y259,y260⟩:zab),0)
def zcl (m_:zab):Option (zab×Int) :=
 (za9 m_).bind fun c51=>cond (decide (c51≠0)) (some ((⟨0,0,[],[]⟩:zab),c51)) ((zcs m_).bind fun c53=>chk ((0:Int)≤(↑(List.length m_.Next):Int)∧(↑(List.length m_.Next):Int)≤(↑(List.length m_.Next):Int)∧zbt (Int.toNat (↑(List.length m_.Next):Int)) 8) ((iter (fun (s:List Int×Nat)=>zcl.s2 c53 s.1 s.2) fuel ((List.replicate (List.length m_.Next) 0),0):Option (List Int)).bind (fun (y70:List Int)=>(iter (fun (s:List (List Int)×List (List Int)×Nat)=>zcl.s16 m_ c53 y70 s.1 s.2.1 s.2.2) fuel ([],[],0):Option (List (List Int)×List (List Int))).bind (fun (s:List (List Int)×List (List Int))=>zcl.k17 m_ s.1 s.2))))
def zbw.s18 (m_:zab) (class_:List Int) (y467:Nat) (y623:List Int) (y624:Nat):Option ((List Int×Nat)⊕List Int) :=
 cond (decide ((↑y624:Int)<m_.Inputs)) (idxn m_.Out y467 fun e639=>idxn e639 y624 fun e640=>chk ((↑y624:Int)<128) (idxn y623 y624 fun e641=>chk (inR (64+(↑y624:Int))) (idxn m_.Next y467 fun e644=>idxn e644 y624 fun e645=>idx class_ e645 fun e646=>chk ((64+(↑y624:Int))<128) (idxn (List.set y623 y624 e640) (64+y624) fun e647=>chk (inR ((↑y624:Int)+1)) (some (.inl ((List.set (List.set y623 y624 e640) (64+y624) e646),(y624+1)))))))) (some (.inr y623))
def zbw.k19 (y466:List Int) (y467:Nat) (y663:List (List Int×Int)) (n664:Int):Option (((List (List Int×Int))×List Int×Nat)⊕((List (List Int×Int))×List Int)) :=
 idxn y466 y467 fun e670=>some (.inl (y663,(List.set y466 y467 n664),(y467+1)))
def zbw.s20 (m_:zab) (class_:List Int) (y465:List (List Int×Int)) (y466:List Int) (y467:Nat):Option (((List (List Int×Int))×List Int×Nat)⊕((List (List Int×Int))×List Int)) :=
 cond (decide ((↑y467:Int)<(↑(List.length class_):Int))) ((iter (fun (s:List Int×Nat)=>zbw.s18 m_ class_ y467 s.1 s.2) fuel ((List.replicate 128 0),0):Option (List Int)).bind (fun (y612:List Int)=>chk (List.length y612=128) (chk (List.length y612=128∧∀ p∈y465,List.length p.1=128) ((cond ((!((mget y612 y465).isSome))) (chk (List.length y612=128) (chk (List.length y612=128∧∀ p∈y465,List.length p.1=128) (some ((mset y612 (↑(List.length y465):Int) y465),(↑(List.length y465):Int))))) (some (y465,((mget y612 y465).getD 0))):Option ((List (List Int×Int))×Int)).bind (fun (s:(List (List Int×Int))×Int)=>zbw.k19 y466 y467 s.1 s.2))))) (some (.inr (y465,y466)))
def zbw.k21 (y362:List (List Int×Int)) (y363:List Int):Option (List Int×Int) :=
 some (y363,(↑(List.length y362):Int))
def zbw (m_:zab) (class_:List Int):Option (List Int×Int) :=
 chk ((0:Int)≤(↑(List.length class_):Int)∧(↑(List.length class_):Int)≤(↑(List.length class_):Int)∧zbt (Int.toNat (↑(List.length class_):Int)) 8) ((iter (fun (s:(List (List Int×Int))×List Int×Nat)=>zbw.s20 m_ class_ s.1 s.2.1 s.2.2) fuel (([]:List (List Int×Int)),(List.replicate (List.length class_) 0),0):Option ((List (List Int×Int))×List Int)).bind (fun (s:(List (List Int×Int))×List Int)=>zbw.k21 s.1 s.2))
def zd2.s2 (m_:zab) (k_:Int) (class71:List Int) (n72:Int) (y73:Nat):Option ((List Int×Int×Nat)⊕(List Int⊕(List Int×Int))) :=
 cond (decide ((↑y73:Int)<(min (max k_ 0) (↑(List.length m_.Next):Int)))) ((zbw m_ class71).bind fun c79=>cond (decide (c79.2=n72)) (some (.inr (.inr (class71,(↑y73:Int))))) (some (.inl (c79.1,c79.2,(y73+1))))) (some (.inr (.inl class71)))
def zd2 (m_:zab) (k_:Int):Option (List Int×Int) :=
 chk ((0:Int)≤(↑(List.length m_.Next):Int)∧(↑(List.length m_.Next):Int)≤(↑(List.length m_.Next):Int)∧zbt (Int.toNat (↑(List.length m_.Next):Int)) 8) ((iter (fun (s:List Int×Int×Nat)=>zd2.s2 m_ k_ s.1 s.2.1 s.2.2) fuel ((List.replicate (List.length m_.Next) 0),1,0):Option (List Int⊕(List Int×Int))).bind (Sum.elim (fun (class67:List Int)=>some (class67,(min (max k_ 0) (↑(List.length m_.Next):Int)))) some))
def zg3 (m_:zab) (k_:Int):Option (List Int×Int) :=
 (za9 m_).bind fun c51=>cond (decide (c51≠0)) (some ([],c51)) ((zd2 m_ k_).bind fun c53=>some (c53.1,0))
def zh5 (m_:zab):Option (List Int×Int) :=
 (zg3 m_ 128).bind fun c51=>some (c51.1,c51.2)
def zbu.s30 (c53:List Int×Int) (e717:List Int) (y744:List Int) (y745:Nat):Option ((List Int×Nat)⊕List Int) :=
 cond (decide ((↑y745:Int)<(↑(List.length e717):Int))) (idxn e717 y745 fun e752=>idx c53.1 e752 fun e753=>chk (zbt (List.length y744+1) 8) (some (.inl ((y744++[e753]),(y745+1))))) (some (.inr y744))
def zbu.k31 (y529:Nat) (y713:List (List Int)) (y714:List (List Int)):Option ((List (List Int)×List (List Int)×Nat)⊕(List (List Int)×List (List Int))) :=
 some (.inl (y713,y714,(y529+1)))
def zbu.s32 (c51:zab×Int) (c53:List Int×Int) (y527:List (List Int)) (y528:List (List Int)) (y529:Nat):Option ((List (List Int)×List (List Int)×Nat)⊕(List (List Int)×List (List Int))) :=
 cond (decide ((↑y529:Int)<(↑(List.length c53.1):Int))) ((idxn c53.1 y529 fun e715=>cond (decide (e715<(↑(List.length y527):Int))) (some (y527,y528)) (idxn c51.1.Next y529 fun e717=>(iter (fun (s:List Int×Nat)=>zbu.s30 c53 e717 s.1 s.2) fuel ([],0):Option (List Int)).bind (fun (y740:List Int)=>chk (zbt (List.length y527+1) 24) (idxn c51.1.Out y529 fun e769=>chk (zbt (List.length ([]:List Unit)+List.length e769) 8) (chk (zbt (List.length y528+1) 24) (some ((y527++[y740]),(y528++[([]++e769)]))))))):Option (List (List Int)×List (List Int))).bind (fun (s:List (List Int)×List (List Int))=>zbu.k31 y529 s.1 s.2)) (some (.inr (y527,y528)))
def zbu.k33 (c51:zab×Int) (y418:List (List Int)) (y419:List (List Int)):Option (zab×Int) :=
 some ((⟨c51.1.Inputs,0,y418,y419⟩:zab),0)
def zbu (m_:zab):Option (zab×Int) :=
 (zcl m_).bind fun c51=>cond (decide (c51.2≠0)) (some ((⟨0,0,[],[]⟩:zab),c51.2)) ((zh5 c51.1).bind fun c53=>cond (decide (c53.2≠0)) (some ((⟨0,0,[],[]⟩:zab),c53.2)) ((iter (fun (s:List (List Int)×List (List Int)×Nat)=>zbu.s32 c51 c53 s.1 s.2.1 s.2.2) fuel ([],[],0):Option (List (List Int)×List (List Int))).bind (fun (s:List (List Int)×List (List Int))=>zbu.k33 c51 s.1 s.2)))
def zci.s18 (i343:Nat) (e417:List Int) (y460:List Bool) (y461:List zbi) (y462:Nat):Option ((List Bool×List zbi×Nat)⊕(List Bool×List zbi)) :=
 cond (decide ((↑y462:Int)<(↑(List.length e417):Int))) (idxn e417 y462 fun e473=>idx y460 e473 fun e474=>cond ((!e474)) (idx y460 e473 fun e476=>idxn y461 i343 fun e477=>(zim [e477.word,[(↑y462:Int)]]).bind fun c478=>chk (zbt (List.length y461+1) 32) (some (.inl ((List.set y460 e473.toNat true),(y461++[(⟨e473,c478⟩:zbi)]),(y462+1))))) (some (.inl (y460,y461,(y462+1))))) (some (.inr (y460,y461)))
def zci.k19 (i343:Nat) (y450:List Bool) (y451:List zbi):Option ((List Bool×List zbi×Nat)⊕List zbi) :=
 some (.inl (y450,y451,(i343+1)))
def zci.s20 (m_:zab) (y341:List Bool) (y342:List zbi) (i343:Nat):Option ((List Bool×List zbi×Nat)⊕List zbi) :=
 cond (decide ((↑i343:Int)<(↑(List.length y342):Int))) (idxn y342 i343 fun e416=>idx m_.Next e416.state fun e417=>(iter (fun (s:List Bool×List zbi×Nat)=>zci.s18 i343 e417 s.1 s.2.1 s.2.2) fuel (y341,y342,0):Option (List Bool×List zbi)).bind (fun (s:List Bool×List zbi)=>zci.k19 i343 s.1 s.2)) (some (.inr y342))
def zci (m_:zab) (from_:Int):Option (List zbi) :=
 chk ((0:Int)≤(↑(List.length m_.Next):Int)∧(↑(List.length m_.Next):Int)≤(↑(List.length m_.Next):Int)∧zbt (Int.toNat (↑(List.length m_.Next):Int)) 1) (idx (List.replicate (List.length m_.Next) false) from_ fun e52=>(iter (fun (s:List Bool×List zbi×Nat)=>zci.s20 m_ s.1 s.2.1 s.2.2) fuel ((List.set (List.replicate (List.length m_.Next) false) from_.toNat true),[(⟨from_,[]⟩:zbi)],0):Option (List zbi)).bind (fun (y270:List zbi)=>some y270))
def zdq.s2 (c53:List zbi) (y76:List Int) (y77:List (List Int)) (y78:Nat):Option ((List Int×List (List Int)×Nat)⊕(List Int×List (List Int))) :=
 cond (decide ((↑y78:Int)<(↑(List.length c53):Int))) (idxn c53 y78 fun e85=>chk (zbt (List.length y76+1) 8) (chk (zbt (List.length y77+1) 24) (some (.inl ((y76++[e85.state]),(y77++[e85.word]),(y78+1)))))) (some (.inr (y76,y77)))
def zdq.k3 (y72:List Int) (y73:List (List Int)):Option (List Int×List (List Int)×Int) :=
 some (y72,y73,0)
def zdq (m_:zab):Option (List Int×List (List Int)×Int) :=
 (za9 m_).bind fun c51=>cond (decide (c51≠0)) (some ([],[],c51)) ((zci m_ m_.Start).bind fun c53=>(iter (fun (s:List Int×List (List Int)×Nat)=>zdq.s2 c53 s.1 s.2.1 s.2.2) fuel ([],[],0):Option (List Int×List (List Int))).bind (fun (s:List Int×List (List Int))=>zdq.k3 s.1 s.2))
def zh8 (m_:zab):Option (List (List Int)×Int) :=
 (zdq m_).bind fun c51=>some (c51.2.1,c51.2.2)
def zhx.s2 (inputs_:Int) (y97:List Int) (i98:Int):Option ((List Int×Int)⊕(List Int⊕(List Int×Bool))) :=
 cond (decide (0≤i98)) (idx y97 i98 fun e110=>chk (inR (e110+1)) (cond (decide ((e110+1)<inputs_)) (idx y97 i98 fun e113=>chk (inR (e113+1)) (idx y97 i98 fun e115=>some (.inr (.inr ((List.set y97 i98.toNat (e113+1)),true))))) (idx y97 i98 fun e116=>chk (inR (i98-1)) (some (.inl ((List.set y97 i98.toNat 0),(i98-1))))))) (some (.inr (.inl y97)))
def zhx (w_:List Int) (inputs_:Int):Option (List Int×Bool) :=
 (zfa w_ inputs_).bind fun c51=>cond (decide (c51≠0)) (some ([],false)) ((zb2 w_).bind fun c53=>chk (inR ((↑(List.length c53):Int)-1)) ((iter (fun (s:List Int×Int)=>zhx.s2 inputs_ s.1 s.2) fuel (c53,((↑(List.length c53):Int)-1)):Option (List Int⊕(List Int×Bool))).bind (Sum.elim (fun (y87:List Int)=>cond (decide ((↑(List.length y87):Int)=1024)) (some ([],false)) (chk (zbt (List.length y87+1) 8) (some ((y87++[0]),true)))) some)))
def zex.s2 (inputs_:Int) (n_:Int) (y101:List (List Int)) (w102:List Int) (ok103:Bool):Option ((List (List Int)×List Int×Bool)⊕(List (List Int)⊕(List (List Int)×Int))) :=
 (cond (ok103) (some (decide ((↑(List.length w102):Int)≤n_))) (some false):Option (Bool)).bind (fun (y119:Bool)=>cond (y119) (cond (decide ((↑(List.length y101):Int)=10000)) (some (.inr (.inr ([],11)))) (chk (zbt (List.length y101+1) 24) ((zhx w102 inputs_).bind fun c126=>some (.inl ((y101++[w102]),c126.1,c126.2))))) (some (.inr (.inl y101))))
def zex (inputs_:Int) (n_:Int):Option (List (List Int)×Int) :=
 ((zfa [] inputs_).bind fun c57=>cond (decide (c57≠0)) (some true) (cond (decide (n_<0)) (some true) (some (decide (1024<n_)))):Option (Bool)).bind (fun (y56:Bool)=>cond (y56) (some ([],2)) ((iter (fun (s:List (List Int)×List Int×Bool)=>zex.s2 inputs_ n_ s.1 s.2.1 s.2.2) fuel ([],[],true):Option (List (List Int)⊕(List (List Int)×Int))).bind (Sum.elim (fun (y95:List (List Int))=>some (y95,0)) some)))
def zh7 (m_:zab):Option (Bool) :=
 ((za9 m_).bind fun c57=>cond (decide (c57≠0)) (some true) ((zcs m_).bind fun c59=>some (decide ((↑(List.length c59):Int)≠(↑(List.length m_.Next):Int)))):Option (Bool)).bind (fun (y56:Bool)=>cond (y56) (some false) ((zbu m_).bind fun c61=>(cond (decide (c61.2=0)) (some (decide ((↑(List.length c61.1.Next):Int)=(↑(List.length m_.Next):Int)))) (some false):Option (Bool)).bind (fun (y65:Bool)=>some y65)))
def zjk (m_:zab):Option (Int) :=
 (za9 m_).bind fun c51=>cond (decide (c51≠0)) (some c51) ((zh7 m_).bind fun c53=>cond ((!c53)) (some 1) (some 0))
def zb3.s2 (a_:zab) (b_:zab) (y72:List (List Bool)) (y73:Nat):Option ((List (List Bool)×Nat)⊕List (List Bool)) :=
 cond (decide ((↑y73:Int)<(↑(List.length (List.replicate (List.length a_.Next) ([]:List Bool))):Int))) (chk ((0:Int)≤(↑(List.length b_.Next):Int)∧(↑(List.length b_.Next):Int)≤(↑(List.length b_.Next):Int)∧zbt (Int.toNat (↑(List.length b_.Next):Int)) 1) (idxn y72 y73 fun e81=>chk (inR ((↑y73:Int)+1)) (some (.inl ((List.set y72 y73 (List.replicate (List.length b_.Next) false)),(y73+1)))))) (some (.inr y72))
def zb3.s20 (a_:zab) (b_:zab) (i900:Nat) (e1104:zbp) (y1234:List (List Bool)) (y1235:List zbp) (y1236:Nat):Option ((List (List Bool)×List zbp×Nat)⊕((List (List Bool)×List zbp)⊕((List (List Bool)×List zbp×Nat)⊕(Unit⊕(List Int×Bool))))) :=
 cond (decide ((↑y1236:Int)<a_.Inputs)) (idx a_.Out e1104.at_.s fun e1270=>idxn e1270 y1236 fun e1271=>idx b_.Out e1104.at_.t fun e1272=>idxn e1272 y1236 fun e1273=>cond (decide (e1271≠e1273)) (idxn y1235 i900 fun e1275=>(zim [e1275.word,[(↑y1236:Int)]]).bind fun c1276=>some (.inr (.inr (.inr (.inr (c1276,true)))))) (idx a_.Next e1104.at_.s fun e1277=>idxn e1277 y1236 fun e1278=>idx b_.Next e1104.at_.t fun e1279=>idxn e1279 y1236 fun e1280=>(cond ((!(decide (e1278=e1104.at_.s)&&(decide (e1280=e1104.at_.t)&&true)))) (idx y1234 e1278 fun e1288=>idx e1288 e1280 fun e1289=>some (!e1289)) (some false):Option (Bool)).bind (fun (y1286:Bool)=>cond (y1286) (idx y1234 e1278 fun e1293=>idx e1293 e1280 fun e1294=>idxn y1235 i900 fun e1295=>(zim [e1295.word,[(↑y1236:Int)]]).bind fun c1296=>chk (zbt (List.length y1235+1) 40) (chk (inR ((↑y1236:Int)+1)) (some (.inl ((List.set y1234 (Int.toNat e1278) (List.set e1293 (Int.toNat e1280) true)),(y1235++[(⟨(⟨e1278,e1280⟩:zej),c1296⟩:zbp)]),(y1236+1)))))) (chk (inR ((↑y1236:Int)+1)) (some (.inl (y1234,y1235,(y1236+1)))))))) (some (.inr (.inl (y1234,y1235))))
def zb3.k21 (i900:Nat) (y1203:List (List Bool)) (y1204:List zbp):Option ((List (List Bool)×List zbp×Nat)⊕(Unit⊕(List Int×Bool))) :=
 some (.inl (y1203,y1204,(i900+1)))
def zb3.s22 (a_:zab) (b_:zab) (y898:List (List Bool)) (y899:List zbp) (i900:Nat):Option ((List (List Bool)×List zbp×Nat)⊕(Unit⊕(List Int×Bool))) :=
 cond (decide ((↑i900:Int)<(↑(List.length y899):Int))) (idxn y899 i900 fun e1104=>(iter (fun (s:List (List Bool)×List zbp×Nat)=>zb3.s20 a_ b_ i900 e1104 s.1 s.2.1 s.2.2) fuel (y898,y899,0):Option ((List (List Bool)×List zbp)⊕((List (List Bool)×List zbp×Nat)⊕(Unit⊕(List Int×Bool))))).bind (Sum.elim (fun (s:List (List Bool)×List zbp)=>zb3.k21 i900 s.1 s.2) some)) (some (.inr (.inl ())))
def zb3 (a_:zab) (b_:zab) (first_:zej):Option (List Int×Bool) :=
 chk ((0:Int)≤(↑(List.length a_.Next):Int)∧(↑(List.length a_.Next):Int)≤(↑(List.length a_.Next):Int)∧zbt (Int.toNat (↑(List.length a_.Next):Int)) 24) ((iter (fun (s:List (List Bool)×Nat)=>zb3.s2 a_ b_ s.1 s.2) fuel ((List.replicate (List.length a_.Next) ([]:List Bool)),0):Option (List (List Bool))).bind (fun (y68:List (List Bool))=>idx y68 first_.s fun e85=>idx e85 first_.t fun e86=>(iter (fun (s:List (List Bool)×List zbp×Nat)=>zb3.s22 a_ b_ s.1 s.2.1 s.2.2) fuel ((List.set y68 (Int.toNat first_.s) (List.set e85 (Int.toNat first_.t) true)),[(⟨first_,[]⟩:zbp)],0):Option (Unit⊕(List Int×Bool))).bind (Sum.elim (fun (_:Unit)=>some ([],false)) some)))
def zlj (m_:zab) (s_:Int) (t_:Int):Option (List Int×Bool×Int) :=
 (za9 m_).bind fun c51=>cond (decide (c51≠0)) (some ([],false,c51)) ((cond (decide (s_<0)) (some true) (cond (decide ((↑(List.length m_.Next):Int)≤s_)) (some true) (cond (decide (t_<0)) (some true) (some (decide ((↑(List.length m_.Next):Int)≤t_))))):Option (Bool)).bind (fun (y58:Bool)=>cond (y58) (some ([],false,2)) ((zb3 m_ m_ (⟨s_,t_⟩:zej)).bind fun c63=>some (c63.1,c63.2,0))))
def za7.s13 (m_:zab) (y325:Nat) (y436:List (List (List Int))) (t437:Nat):Option ((List (List (List Int))×Nat)⊕(List (List (List Int))⊕((List (List (List Int))×Nat)⊕(List (List (List Int))⊕(List (List (List Int))×Int))))) :=
 cond (decide ((↑t437:Int)<(↑(List.length m_.Next):Int))) ((zlj m_ (↑y325:Int) (↑t437:Int)).bind fun c449=>cond (decide (c449.2.2≠0)) (some (.inr (.inr (.inr (.inr ([],c449.2.2)))))) (idxn y436 y325 fun e451=>chk (zbt (List.length e451+1) 24) (idxn y436 y325 fun e453=>idxn (List.set y436 y325 (e451++[c449.1])) t437 fun e454=>chk (zbt (List.length e454+1) 24) (idxn (List.set y436 y325 (e451++[c449.1])) t437 fun e456=>some (.inl ((List.set (List.set y436 y325 (e451++[c449.1])) t437 (e454++[c449.1])),(t437+1))))))) (some (.inr (.inl y436)))
def za7.s14 (m_:zab) (y324:List (List (List Int))) (y325:Nat):Option ((List (List (List Int))×Nat)⊕(List (List (List Int))⊕(List (List (List Int))×Int))) :=
 cond (decide ((↑y325:Int)<(↑(List.length m_.Next):Int))) ((iter (fun (s:List (List (List Int))×Nat)=>za7.s13 m_ y325 s.1 s.2) fuel (y324,(y325+1)):Option (List (List (List Int))⊕((List (List (List Int))×Nat)⊕(List (List (List Int))⊕(List (List (List Int))×Int))))).bind (Sum.elim (fun (y426:List (List (List Int)))=>some (.inl (y426,(y325+1)))) some)) (some (.inr (.inl y324)))
def za7.s16 (y257:List (List (List Int))) (y485:List (List (List Int))) (y486:Nat):Option ((List (List (List Int))×Nat)⊕List (List (List Int))) :=
 cond (decide ((↑y486:Int)<(↑(List.length y257):Int))) (idxn y257 y486 fun e493=>(zhs e493).bind fun c494=>chk (zbt (List.length y485+1) 24) (some (.inl ((y485++[c494]),(y486+1))))) (some (.inr y485))
def za7 (m_:zab):Option (List (List (List Int))×Int) :=
 (zjk m_).bind fun c51=>cond (decide (c51≠0)) (some ([],c51)) (chk ((0:Int)≤(↑(List.length m_.Next):Int)∧(↑(List.length m_.Next):Int)≤(↑(List.length m_.Next):Int)∧zbt (Int.toNat (↑(List.length m_.Next):Int)) 24) ((iter (fun (s:List (List (List Int))×Nat)=>za7.s14 m_ s.1 s.2) fuel ((List.replicate (List.length m_.Next) ([]:List (List Int))),0):Option (List (List (List Int))⊕(List (List (List Int))×Int))).bind (Sum.elim (fun (y257:List (List (List Int)))=>chk ((0:Int)≤0∧0≤(↑(List.length y257):Int)∧zbt (Int.toNat (↑(List.length y257):Int)) 24) ((iter (fun (s:List (List (List Int))×Nat)=>za7.s16 y257 s.1 s.2) fuel ([],0):Option (List (List (List Int)))).bind (fun (y480:List (List (List Int)))=>some (y480,0)))) some)))
def zdf.s13 (c59:zab×Int) (c64:List (List Int)×Int) (c66:List (List (List Int))×Int) (e447:List Int) (y488:List (List Int)) (y489:Nat):Option ((List (List Int)×Nat)⊕(List (List Int)⊕((List (List Int)×Nat)⊕(List (List Int)⊕(List (List Int)×Int))))) :=
 cond (decide ((↑y489:Int)<(↑(List.length c64.1):Int))) (idxn c64.1 y489 fun e499=>(zim [e447,e499]).bind fun c500=>(zlg c59.1 c66.1 c500).bind fun c501=>cond (decide (c501.2≠0)) (some (.inr (.inr (.inr (.inr ([],c501.2)))))) ((zef c500 c501.1).bind fun c503=>chk (zbt (List.length y488+List.length c503) 24) (some (.inl ((y488++c503),(y489+1)))))) (some (.inr (.inl y488)))
def zdf.s14 (c59:zab×Int) (c61:List (List Int)×Int) (c64:List (List Int)×Int) (c66:List (List (List Int))×Int) (y371:List (List Int)) (y372:Nat):Option ((List (List Int)×Nat)⊕(List (List Int)⊕(List (List Int)×Int))) :=
 cond (decide ((↑y372:Int)<(↑(List.length c61.1):Int))) (idxn c61.1 y372 fun e447=>(iter (fun (s:List (List Int)×Nat)=>zdf.s13 c59 c64 c66 e447 s.1 s.2) fuel (y371,0):Option (List (List Int)⊕((List (List Int)×Nat)⊕(List (List Int)⊕(List (List Int)×Int))))).bind (Sum.elim (fun (y480:List (List Int))=>some (.inl (y480,(y372+1)))) some)) (some (.inr (.inl y371)))
def zdf (m_:zab) (extra_:Int):Option (List (List Int)×Int) :=
 (za9 m_).bind fun c51=>cond (decide (c51≠0)) (some ([],c51)) ((cond (decide (extra_<0)) (some true) (some (decide (3<extra_))):Option (Bool)).bind (fun (y56:Bool)=>cond (y56) (some ([],2)) ((zbu m_).bind fun c59=>cond (decide (c59.2≠0)) (some ([],c59.2)) ((zh8 c59.1).bind fun c61=>cond (decide (c61.2≠0)) (some ([],c61.2)) (chk (inR (extra_+1)) ((zex c59.1.Inputs (extra_+1)).bind fun c64=>cond (decide (c64.2≠0)) (some ([],c64.2)) ((za7 c59.1).bind fun c66=>cond (decide (c66.2≠0)) (some ([],c66.2)) (chk (inR ((↑(List.length c61.1):Int)*(↑(List.length c64.1):Int))) ((zf3 c66.1).bind fun c69=>chk (inR (((↑(List.length c61.1):Int)*(↑(List.length c64.1):Int))*c69)) (cond (decide (10000<(((↑(List.length c61.1):Int)*(↑(List.length c64.1):Int))*c69))) (some ([],11)) ((iter (fun (s:List (List Int)×Nat)=>zdf.s14 c59 c61 c64 c66 s.1 s.2) fuel ([],0):Option (List (List Int)⊕(List (List Int)×Int))).bind (Sum.elim (fun (y298:List (List Int))=>(zd3 y298).bind fun c525=>some (c525,0)) some))))))))))))
def zkj (m_:zab) (extra_:Int):Option (za2×Int) :=
 (zdf m_ extra_).bind fun c51=>cond (decide (c51.2≠0)) (some ((⟨(⟨0,0,[],[]⟩:zab),[]⟩:za2),c51.2)) ((zbu m_).bind fun c53=>cond (decide (c53.2≠0)) (some ((⟨(⟨0,0,[],[]⟩:zab),[]⟩:za2),c53.2)) (some ((⟨c53.1,c51.1⟩:za2),0)))
def zdn (t_:zaa) (p1_:List Int):Option (Bool) :=
 (zdy p1_ t_.In).bind fun c51=>some c51
def zap.s2 (s_:List zaa) (f_:zaa→Option Bool) (y71:Nat):Option (Nat⊕(Unit⊕Int)) :=
 cond (decide ((↑y71:Int)<(↑(List.length s_):Int))) (idxn s_ y71 fun e78=>(f_ e78).bind fun c79=>cond (c79) (some (.inr (.inr (↑y71:Int)))) (some (.inl (y71+1)))) (some (.inr (.inl ())))
def zap (s_:List zaa) (f_:zaa→Option Bool):Option (Int) :=
 (iter (fun (s:Nat)=>zap.s2 s_ f_ s) fuel 0:Option (Unit⊕Int)).bind (Sum.elim (fun (_:Unit)=>some (-1:Int)) some)
def zbo (s_:List zaa) (f_:zaa→Option Bool):Option (Bool) :=
 (zap s_ f_).bind fun c51=>some (decide (0≤c51))
def zdc (r_:zbf) (w_:List Int):Option (Bool×zbf) :=
 (zbo r_.report.Changes (fun u0=>zdn u0 w_)).bind fun c51=>some ((!c51),r_)
def zjs (m_:zab) (w_:List Int):Option (List Int×Int) :=
 (zii m_ m_.Start w_).bind fun c51=>some (c51.1,c51.2.2)
def zhj (l_:List Int) (n_:Int):Option (List Int) :=
 chk ((0:Int)≤n_∧n_≤n_∧zbt (Int.toNat n_) 8) (chk (0<List.length ((List.replicate (Int.toNat n_) 0):List Int)∧0<List.length l_) (some (List.take (List.length ((List.replicate (Int.toNat n_) 0):List Int)) l_++List.drop (List.length l_) ((List.replicate (Int.toNat n_) 0):List Int))))
def zdw (r_:zbf) (w_:List Int) (answer_:List Int):Option (Int×zbf) :=
 (zjs r_.m w_).bind fun c51=>cond (decide (c51.2≠0)) (some (c51.2,r_)) (chk (inR (r_.report.Run+1)) (((zc9 c51.1 answer_).bind fun c64=>cond (decide (c64<(↑(List.length w_):Int))) (chk (inR (c64+1)) ((zhj w_ (c64+1)).bind fun c67=>chk (inR (c64+1)) ((zhj answer_ (c64+1)).bind fun c69=>chk (zbt (List.length r_.report.Changes+1) 48) (some (r_.report.Changes++[(⟨c67,c69⟩:zaa)]))))) (some r_.report.Changes):Option (List zaa)).bind (fun (y63:List zaa)=>some (0,(⟨r_.m,(⟨(r_.report.Run+1),y63⟩:zag)⟩:zbf)))))
def zbk.k18 (y401:Int) (y402:Int) (y403:List (List Int)) (y404:List (List Int)) (y405:Int) (y406:List zaa) (e407:Int):Option ((Int×Int×List (List Int)×List (List Int)×Int×List zaa)⊕((Int×Int×List (List Int)×List (List Int)×Int×List zaa×Nat)⊕((Int×Int×List (List Int)×List (List Int)×Int×List zaa)⊕(zag×Int)))) :=
 cond (decide (e407≠0)) (some (.inr (.inr (.inr ((⟨0,[]⟩:zag),e407))))) (some (.inl (y401,y402,y403,y404,y405,y406)))
def zbk.k19 (y305:Nat) (y387:Int) (y388:Int) (y389:List (List Int)) (y390:List (List Int)) (y391:Int) (y392:List zaa):Option ((Int×Int×List (List Int)×List (List Int)×Int×List zaa×Nat)⊕((Int×Int×List (List Int)×List (List Int)×Int×List zaa)⊕(zag×Int))) :=
 some (.inl (y387,y388,y389,y390,y391,y392,(y305+1)))
def zbk.s20 (b_:zab) (c51:za2×Int) (y299:Int) (y300:Int) (y301:List (List Int)) (y302:List (List Int)) (y303:Int) (y304:List zaa) (y305:Nat):Option ((Int×Int×List (List Int)×List (List Int)×Int×List zaa×Nat)⊕((Int×Int×List (List Int)×List (List Int)×Int×List zaa)⊕(zag×Int))) :=
 cond (decide ((↑y305:Int)<(↑(List.length c51.1.Words):Int))) ((idxn c51.1.Words y305 fun e393=>(zdc (⟨(⟨y299,y300,y301,y302⟩:zab),(⟨y303,y304⟩:zag)⟩:zbf) e393).bind fun c394=>cond ((!c394.1)) (some (.inl (y299,y300,y301,y302,y303,c394.2.report.Changes))) ((zjs b_ e393).bind fun c396=>(cond (decide (c396.2=0)) ((zdw (⟨(⟨y299,y300,y301,y302⟩:zab),(⟨y303,c394.2.report.Changes⟩:zag)⟩:zbf) e393 c396.1).bind fun c409=>some (c409.2.m.Inputs,c409.2.m.Start,c409.2.m.Next,c409.2.m.Out,c409.2.report.Run,c409.2.report.Changes,c409.1)) (some (y299,y300,y301,y302,y303,c394.2.report.Changes,c396.2)):Option (Int×Int×List (List Int)×List (List Int)×Int×List zaa×Int)).bind (fun (s:Int×Int×List (List Int)×List (List Int)×Int×List zaa×Int)=>zbk.k18 s.1 s.2.1 s.2.2.1 s.2.2.2.1 s.2.2.2.2.1 s.2.2.2.2.2.1 s.2.2.2.2.2.2)):Option ((Int×Int×List (List Int)×List (List Int)×Int×List zaa)⊕((Int×Int×List (List Int)×List (List Int)×Int×List zaa×Nat)⊕((Int×Int×List (List Int)×List (List Int)×Int×List zaa)⊕(zag×Int))))).bind (Sum.elim (fun (s:Int×Int×List (List Int)×List (List Int)×Int×List zaa)=>zbk.k19 y305 s.1 s.2.1 s.2.2.1 s.2.2.2.1 s.2.2.2.2.1 s.2.2.2.2.2) some)) (some (.inr (.inl (y299,y300,y301,y302,y303,y304))))
def zbk.k21 (y237:Int) (y238:Int) (y239:List (List Int)) (y240:List (List Int)) (y241:Int) (y242:List zaa):Option (zag×Int) :=
 some ((⟨y241,y242⟩:zag),0)
def zbk (a_:zab) (b_:zab) (extra_:Int):Option (zag×Int) :=
 (zkj a_ extra_).bind fun c51=>cond (decide (c51.2≠0)) (some ((⟨0,[]⟩:zag),c51.2)) ((za9 b_).bind fun c53=>cond (decide (c53≠0)) (some ((⟨0,[]⟩:zag),c53)) (cond (decide (a_.Inputs≠b_.Inputs)) (some ((⟨0,[]⟩:zag),15)) ((iter (fun (s:Int×Int×List (List Int)×List (List Int)×Int×List zaa×Nat)=>zbk.s20 b_ c51 s.1 s.2.1 s.2.2.1 s.2.2.2.1 s.2.2.2.2.1 s.2.2.2.2.2.1 s.2.2.2.2.2.2) fuel (c51.1.M.Inputs,c51.1.M.Start,c51.1.M.Next,c51.1.M.Out,0,[],0):Option ((Int×Int×List (List Int)×List (List Int)×Int×List zaa)⊕(zag×Int))).bind (Sum.elim (fun (s:Int×Int×List (List Int)×List (List Int)×Int×List zaa)=>zbk.k21 s.1 s.2.1 s.2.2.1 s.2.2.2.1 s.2.2.2.2.1 s.2.2.2.2.2) some))))
def zlu:Option (Bool) :=
 (zoe).bind fun c51=>(zkj c51 0).bind fun c52=>(zoe).bind fun c53=>(zbk c53 (⟨2,0,[[1,0],[1,1]],[[1,0],[1,2]]⟩:zab) 0).bind fun c54=>(zoe).bind fun c55=>(zbk c55 (⟨2,0,[[1,0],[1,0]],[[0,0],[1,2]]⟩:zab) 0).bind fun c56=>(cond (decide (c52.2≠0)) (some true) (cond (decide (c54.2≠0)) (some true) (cond (decide (c56.2≠0)) (some true) ((zeu c52.1.Words [[1,1],[0,0,1],[0,1,1]]).bind fun c71=>cond ((!c71)) (some true) (cond (decide (c54.1.Run≠3)) (some true) (cond (decide ((↑(List.length c54.1.Changes):Int)≠1)) (some true) (cond (decide (c56.1.Run≠2)) (some true) (some (decide ((↑(List.length c56.1.Changes):Int)≠1))))))))):Option (Bool)).bind (fun (y67:Bool)=>cond (y67) (some false) ((idxn c54.1.Changes 0 fun e93=>(zeg e93.In [0,1,1]).bind fun c94=>cond (c94) (idxn c54.1.Changes 0 fun e96=>(zeg e96.Out [1,2,2]).bind fun c97=>cond (c97) (idxn c56.1.Changes 0 fun e99=>(zeg e99.In [0]).bind fun c100=>cond (c100) (idxn c56.1.Changes 0 fun e102=>(zeg e102.Out [0]).bind fun c103=>some c103) (some false)) (some false)) (some false):Option (Bool)).bind (fun (y92:Bool)=>some y92)))
def zfn (t_:zaa) (p1_:List Int):Option (Bool) :=
 (zdy t_.In p1_).bind fun c51=>some c51
def zgh (o_:zan) (w_:List Int):Option (List Int×Bool) :=
 cond (decide ((↑(List.length w_):Int)=0)) (some ([],true)) ((zap o_.Traces (fun u0=>zfn u0 w_)).bind fun c52=>cond (decide (c52<0)) (some ([],false)) (idx o_.Traces c52 fun e54=>chk ((0:Int)≤(min (↑(List.length w_):Int) (↑(List.length e54.Out):Int))∧(min (↑(List.length w_):Int) (↑(List.length e54.Out):Int))≤(↑(List.length e54.Out):Int)) ((zb2 (List.take (Int.toNat (min (↑(List.length w_):Int) (↑(List.length e54.Out):Int))) e54.Out)).bind fun c56=>some (c56,true))))
def zcq (n_:Int) (most_:Int):Option (Bool) :=
 (cond (decide (n_<0)) (some true) (some (decide (most_<n_))):Option (Bool)).bind (fun (y54:Bool)=>some y54)
def zfs (n_:Int):Option (Bool) :=
 (zcq n_ 1048576).bind fun c51=>some c51
def zhv (l_:zay):Option (Int) :=
 ((zfs l_.Reset).bind fun c57=>cond (c57) (some true) ((zcc l_.Step (fun u0=>zfs u0)).bind fun c59=>some c59):Option (Bool)).bind (fun (y56:Bool)=>cond (y56) (some 2) (some 0))
def zda (u_:zba):Option (Bool) :=
 ((zcq u_.Device.Steps 1125899906842624).bind fun c59=>cond ((!c59)) ((zcq u_.Device.Resets 1125899906842624).bind fun c61=>cond ((!c61)) ((zcq u_.Device.Time 1125899906842624).bind fun c63=>some (!c63)) (some false)) (some false):Option (Bool)).bind (fun (y58:Bool)=>some y58)
def zht (d_:zad):Option (Int) :=
 (za9 d_.M).bind fun c51=>cond (decide (c51≠0)) (some c51) ((zcq d_.State ((↑(List.length d_.M.Next):Int)-1)).bind fun c53=>cond (c53) (some 2) (cond (decide ((↑(List.length d_.Latency.Step):Int)≠d_.M.Inputs)) (some 1) ((zhv d_.Latency).bind fun c56=>cond (decide (c56≠0)) (some c56) (((zcq d_.Faults.Lost 10000).bind fun c71=>cond (c71) (some true) ((zcq d_.Faults.Wrong 10000).bind fun c73=>cond (c73) (some true) ((zcq d_.Faults.Crash 10000).bind fun c75=>cond (c75) (some true) (chk (inR (d_.Faults.Lost+d_.Faults.Wrong)) (chk (inR ((d_.Faults.Lost+d_.Faults.Wrong)+d_.Faults.Crash)) (cond (decide (10000<((d_.Faults.Lost+d_.Faults.Wrong)+d_.Faults.Crash))) (some true) ((zda (⟨d_⟩:zba)).bind fun c80=>some (!c80))))))):Option (Bool)).bind (fun (y70:Bool)=>cond (y70) (some 2) (some 0))))))
def zdv.s2 (l_:List (List Int)) (y75:List (List Int)) (y76:Nat):Option ((List (List Int)×Nat)⊕List (List Int)) :=
 cond (decide ((↑y76:Int)<(↑(List.length l_):Int))) (idxn l_ y76 fun e83=>(zb2 e83).bind fun c84=>chk (zbt (List.length y75+1) 24) (some (.inl ((y75++[c84]),(y76+1))))) (some (.inr y75))
def zdv (l_:List (List Int)):Option (List (List Int)) :=
 chk ((0:Int)≤0∧0≤(↑(List.length l_):Int)∧zbt (Int.toNat (↑(List.length l_):Int)) 24) ((iter (fun (s:List (List Int)×Nat)=>zdv.s2 l_ s.1 s.2) fuel ([],0):Option (List (List Int))).bind (fun (y70:List (List Int))=>some y70))
def zg4 (d_:zad):Option (zad) :=
 (zdv d_.M.Next).bind fun c51=>(zdv d_.M.Out).bind fun c52=>(zb2 d_.Latency.Step).bind fun c53=>some (⟨(⟨d_.M.Inputs,d_.M.Start,c51,c52⟩:zab),d_.State,d_.Ready,(⟨c53,d_.Latency.Reset⟩:zay),d_.Faults,d_.Seed,d_.Steps,d_.Resets,d_.Time⟩:zad)
def ze6 (u_:zba):Option (Int×zba) :=
 chk (inR (u_.Device.Resets+1)) (chk (inR (u_.Device.Time+u_.Device.Latency.Reset)) ((zda (⟨(⟨u_.Device.M,u_.Device.M.Start,true,u_.Device.Latency,u_.Device.Faults,u_.Device.Seed,u_.Device.Steps,(u_.Device.Resets+1),(u_.Device.Time+u_.Device.Latency.Reset)⟩:zad)⟩:zba)).bind fun c53=>cond ((!c53)) (some (11,u_)) (some (0,(⟨(⟨u_.Device.M,u_.Device.M.Start,true,u_.Device.Latency,u_.Device.Faults,u_.Device.Seed,u_.Device.Steps,(u_.Device.Resets+1),(u_.Device.Time+u_.Device.Latency.Reset)⟩:zad)⟩:zba)))))
def zin (state_:Int):Option (Int×Int) :=
 chk ((0:Int)≤(mdU (state_+11400714819323198485))∧(mdU (state_+11400714819323198485))≤18446744073709551615) (chk ((0:Int)≤(mdU ((xorK .u64 (mdU (state_+11400714819323198485)) ((mdU (state_+11400714819323198485)) / 2^30))*13787848793156543929))∧(mdU ((xorK .u64 (mdU (state_+11400714819323198485)) ((mdU (state_+11400714819323198485)) / 2^30))*13787848793156543929))≤18446744073709551615) (chk ((0:Int)≤(mdU ((xorK .u64 (mdU ((xorK .u64 (mdU (state_+11400714819323198485)) ((mdU (state_+11400714819323198485)) / 2^30))*13787848793156543929)) ((mdU ((xorK .u64 (mdU (state_+11400714819323198485)) ((mdU (state_+11400714819323198485)) / 2^30))*13787848793156543929)) / 2^27))*10723151780598845931))∧(mdU ((xorK .u64 (mdU ((xorK .u64 (mdU (state_+11400714819323198485)) ((mdU (state_+11400714819323198485)) / 2^30))*13787848793156543929)) ((mdU ((xorK .u64 (mdU (state_+11400714819323198485)) ((mdU (state_+11400714819323198485)) / 2^30))*13787848793156543929)) / 2^27))*10723151780598845931))≤18446744073709551615) (some ((xorK .u64 (mdU ((xorK .u64 (mdU ((xorK .u64 (mdU (state_+11400714819323198485)) ((mdU (state_+11400714819323198485)) / 2^30))*13787848793156543929)) ((mdU ((xorK .u64 (mdU (state_+11400714819323198485)) ((mdU (state_+11400714819323198485)) / 2^30))*13787848793156543929)) / 2^27))*10723151780598845931)) ((mdU ((xorK .u64 (mdU ((xorK .u64 (mdU (state_+11400714819323198485)) ((mdU (state_+11400714819323198485)) / 2^30))*13787848793156543929)) ((mdU ((xorK .u64 (mdU (state_+11400714819323198485)) ((mdU (state_+11400714819323198485)) / 2^30))*13787848793156543929)) / 2^27))*10723151780598845931)) / 2^31)),(mdU (state_+11400714819323198485))))))
def zdr.s1 (n_:Int) (state62:Int):Option (Int⊕(Int×Int)) :=
 (zin state62).bind fun c73=>(cond (decide (((mdU (0-n_))%n_)=0)) (some true) (some (decide (c73.1<(mdU (0-((mdU (0-n_))%n_)))))):Option (Bool)).bind (fun (y77:Bool)=>cond (y77) (chk (((0:Int)≤(c73.1%n_)∧(c73.1%n_)≤18446744073709551615)∧(0:Int)≤c73.1∧(1:Int)≤n_) (chk (inR (c73.1%n_)) (some (.inr ((c73.1%n_),c73.2))))) (some (.inl c73.2)))
def zdr (state_:Int) (n_:Int):Option (Int×Int) :=
 chk ((0:Int)≤n_∧n_≤18446744073709551615) (chk (((0:Int)≤((mdU (0-n_))%n_)∧((mdU (0-n_))%n_)≤18446744073709551615)∧(0:Int)≤(mdU (0-n_))∧(1:Int)≤n_) (iter (fun (s:Int)=>zdr.s1 n_ s) fuel state_))
def zh3 (state_:Int) (n_:Int):Option (Int×Int×Int) :=
 (cond (decide (n_<1)) (some true) (some (decide (2147483648<n_))):Option (Bool)).bind (fun (y54:Bool)=>cond (y54) (some (0,0,2)) ((zdr state_ n_).bind fun c57=>some (c57.1,c57.2,0)))
def zfo (u_:zba) (a_:Int):Option (Int×Int×zba) :=
 cond ((!u_.Device.Ready)) (some (0,10,u_)) (chk (inR (u_.Device.M.Inputs-1)) ((zcq a_ (u_.Device.M.Inputs-1)).bind fun c53=>cond (c53) (some (0,2,u_)) (chk (inR (u_.Device.Steps+1)) (idx u_.Device.Latency.Step a_ fun e56=>chk (inR (u_.Device.Time+e56)) ((zda (⟨(⟨u_.Device.M,u_.Device.State,u_.Device.Ready,u_.Device.Latency,u_.Device.Faults,u_.Device.Seed,(u_.Device.Steps+1),u_.Device.Resets,(u_.Device.Time+e56)⟩:zad)⟩:zba)).bind fun c58=>cond ((!c58)) (some (0,11,u_)) ((zh3 u_.Device.Seed 10000).bind fun c60=>cond (decide (c60.2.2≠0)) (some (0,c60.2.2,u_)) (idx u_.Device.M.Next u_.Device.State fun e62=>idx e62 a_ fun e63=>idx u_.Device.M.Out u_.Device.State fun e64=>idx e64 a_ fun e65=>cond (decide (c60.1<u_.Device.Faults.Lost)) (some ((-1:Int),0,(⟨(⟨u_.Device.M,e63,u_.Device.Ready,u_.Device.Latency,u_.Device.Faults,c60.2.1,(u_.Device.Steps+1),u_.Device.Resets,(u_.Device.Time+e56)⟩:zad)⟩:zba))) ((chk (inR (u_.Device.Faults.Lost+u_.Device.Faults.Wrong)) (cond (decide (c60.1<(u_.Device.Faults.Lost+u_.Device.Faults.Wrong))) (some (decide (e65=1048576))) (some false)):Option (Bool)).bind (fun (y71:Bool)=>cond (y71) (chk (inR (e65-1)) (some ((e65-1),0,(⟨(⟨u_.Device.M,e63,u_.Device.Ready,u_.Device.Latency,u_.Device.Faults,c60.2.1,(u_.Device.Steps+1),u_.Device.Resets,(u_.Device.Time+e56)⟩:zad)⟩:zba)))) (chk (inR (u_.Device.Faults.Lost+u_.Device.Faults.Wrong)) (cond (decide (c60.1<(u_.Device.Faults.Lost+u_.Device.Faults.Wrong))) (chk (inR (e65+1)) (some ((e65+1),0,(⟨(⟨u_.Device.M,e63,u_.Device.Ready,u_.Device.Latency,u_.Device.Faults,c60.2.1,(u_.Device.Steps+1),u_.Device.Resets,(u_.Device.Time+e56)⟩:zad)⟩:zba)))) (chk (inR (u_.Device.Faults.Lost+u_.Device.Faults.Wrong)) (chk (inR ((u_.Device.Faults.Lost+u_.Device.Faults.Wrong)+u_.Device.Faults.Crash)) (cond (decide (c60.1<((u_.Device.Faults.Lost+u_.Device.Faults.Wrong)+u_.Device.Faults.Crash))) (some (e65,0,(⟨(⟨u_.Device.M,e63,false,u_.Device.Latency,u_.Device.Faults,c60.2.1,(u_.Device.Steps+1),u_.Device.Resets,(u_.Device.Time+e56)⟩:zad)⟩:zba))) (some (e65,0,(⟨(⟨u_.Device.M,e63,u_.Device.Ready,u_.Device.Latency,u_.Device.Faults,c60.2.1,(u_.Device.Steps+1),u_.Device.Resets,(u_.Device.Time+e56)⟩:zad)⟩:zba)))))))))))))))))
def zb6.s2 (w_:List Int) (y171:Int) (y172:Int) (y173:List (List Int)) (y174:List (List Int)) (y175:Int) (y176:Bool) (y177:List Int) (y178:Int) (y179:Int) (y180:Int) (y181:Int) (y182:Int) (y183:Int) (y184:Int) (y185:Int) (y186:List Int) (y187:Nat):Option ((Int×Int×List (List Int)×List (List Int)×Int×Bool×List Int×Int×Int×Int×Int×Int×Int×Int×Int×List Int×Nat)⊕((Int×Int×List (List Int)×List (List Int)×Int×Bool×List Int×Int×Int×Int×Int×Int×Int×Int×Int×List Int)⊕(zad×List Int×Int))) :=
 cond (decide ((↑y187:Int)<(↑(List.length w_):Int))) (idxn w_ y187 fun e208=>(zfo (⟨(⟨(⟨y171,y172,y173,y174⟩:zab),y175,y176,(⟨y177,y178⟩:zay),(⟨y179,y180,y181⟩:zbl),y182,y183,y184,y185⟩:zad)⟩:zba) e208).bind fun c209=>cond (decide (c209.2.1≠0)) (some (.inr (.inr (c209.2.2.Device,[],c209.2.1)))) ((cond (decide (c209.1<0)) (some true) (cond ((!c209.2.2.Device.Ready)) (some (decide (((↑y187:Int)+1)<(↑(List.length w_):Int)))) (some false)):Option (Bool)).bind (fun (y215:Bool)=>cond (y215) (some (.inr (.inr (c209.2.2.Device,[],14)))) (chk (zbt (List.length y186+1) 8) (some (.inl (c209.2.2.Device.M.Inputs,c209.2.2.Device.M.Start,c209.2.2.Device.M.Next,c209.2.2.Device.M.Out,c209.2.2.Device.State,c209.2.2.Device.Ready,c209.2.2.Device.Latency.Step,c209.2.2.Device.Latency.Reset,c209.2.2.Device.Faults.Lost,c209.2.2.Device.Faults.Wrong,c209.2.2.Device.Faults.Crash,c209.2.2.Device.Seed,c209.2.2.Device.Steps,c209.2.2.Device.Resets,c209.2.2.Device.Time,(y186++[c209.1]),(y187+1)))))))) (some (.inr (.inl (y171,y172,y173,y174,y175,y176,y177,y178,y179,y180,y181,y182,y183,y184,y185,y186))))
def zb6.k3 (y137:Int) (y138:Int) (y139:List (List Int)) (y140:List (List Int)) (y141:Int) (y142:Bool) (y143:List Int) (y144:Int) (y145:Int) (y146:Int) (y147:Int) (y148:Int) (y149:Int) (y150:Int) (y151:Int) (y152:List Int):Option (zad×List Int×Int) :=
 some ((⟨(⟨y137,y138,y139,y140⟩:zab),y141,y142,(⟨y143,y144⟩:zay),(⟨y145,y146,y147⟩:zbl),y148,y149,y150,y151⟩:zad),y152,0)
def zb6 (d_:zad) (w_:List Int):Option (zad×List Int×Int) :=
 (zht d_).bind fun c51=>cond (decide (c51≠0)) (some (d_,[],c51)) ((zfa w_ d_.M.Inputs).bind fun c53=>cond (decide (c53≠0)) (some (d_,[],c53)) ((zg4 d_).bind fun c55=>(ze6 (⟨c55⟩:zba)).bind fun c56=>cond (decide (c56.1≠0)) (some (d_,[],c56.1)) (chk ((0:Int)≤0∧0≤(↑(List.length w_):Int)∧zbt (Int.toNat (↑(List.length w_):Int)) 8) ((iter (fun (s:Int×Int×List (List Int)×List (List Int)×Int×Bool×List Int×Int×Int×Int×Int×Int×Int×Int×Int×List Int×Nat)=>zb6.s2 w_ s.1 s.2.1 s.2.2.1 s.2.2.2.1 s.2.2.2.2.1 s.2.2.2.2.2.1 s.2.2.2.2.2.2.1 s.2.2.2.2.2.2.2.1 s.2.2.2.2.2.2.2.2.1 s.2.2.2.2.2.2.2.2.2.1 s.2.2.2.2.2.2.2.2.2.2.1 s.2.2.2.2.2.2.2.2.2.2.2.1 s.2.2.2.2.2.2.2.2.2.2.2.2.1 s.2.2.2.2.2.2.2.2.2.2.2.2.2.1 s.2.2.2.2.2.2.2.2.2.2.2.2.2.2.1 s.2.2.2.2.2.2.2.2.2.2.2.2.2.2.2.1 s.2.2.2.2.2.2.2.2.2.2.2.2.2.2.2.2) fuel (c56.2.Device.M.Inputs,c56.2.Device.M.Start,c56.2.Device.M.Next,c56.2.Device.M.Out,c56.2.Device.State,c56.2.Device.Ready,c56.2.Device.Latency.Step,c56.2.Device.Latency.Reset,c56.2.Device.Faults.Lost,c56.2.Device.Faults.Wrong,c56.2.Device.Faults.Crash,c56.2.Device.Seed,c56.2.Device.Steps,c56.2.Device.Resets,c56.2.Device.Time,[],0):Option ((Int×Int×List (List Int)×List (List Int)×Int×Bool×List Int×Int×Int×Int×Int×Int×Int×Int×Int×List Int)⊕(zad×List Int×Int))).bind (Sum.elim (fun (s:Int×Int×List (List Int)×List (List Int)×Int×Bool×List Int×Int×Int×Int×Int×Int×Int×Int×Int×List Int)=>zb6.k3 s.1 s.2.1 s.2.2.1 s.2.2.2.1 s.2.2.2.2.1 s.2.2.2.2.2.1 s.2.2.2.2.2.2.1 s.2.2.2.2.2.2.2.1 s.2.2.2.2.2.2.2.2.1 s.2.2.2.2.2.2.2.2.2.1 s.2.2.2.2.2.2.2.2.2.2.1 s.2.2.2.2.2.2.2.2.2.2.2.1 s.2.2.2.2.2.2.2.2.2.2.2.2.1 s.2.2.2.2.2.2.2.2.2.2.2.2.2.1 s.2.2.2.2.2.2.2.2.2.2.2.2.2.2.1 s.2.2.2.2.2.2.2.2.2.2.2.2.2.2.2) some)))))
def zds.s2 (l_:List (List Int)) (y72:List (List Int)) (y73:Nat):Option ((List (List Int)×Nat)⊕List (List Int)) :=
 cond (decide ((↑y73:Int)<(↑(List.length l_):Int))) (idxn l_ y73 fun e80=>(zb2 e80).bind fun c81=>chk (zbt (List.length y72+1) 24) (some (.inl ((y72++[c81]),(y73+1))))) (some (.inr y72))
def zds (l_:List (List Int)):Option (List (List Int)) :=
 (iter (fun (s:List (List Int)×Nat)=>zds.s2 l_ s.1 s.2) fuel ([],0):Option (List (List Int))).bind (fun (y68:List (List Int))=>some y68)
def zc5.s2 (q_:zae) (y82:List zaa) (y83:Nat):Option ((List zaa×Nat)⊕List zaa) :=
 cond (decide ((↑y83:Int)<(↑(List.length q_.Obs.Traces):Int))) (idxn q_.Obs.Traces y83 fun e91=>(zb2 e91.In).bind fun c92=>(zb2 e91.Out).bind fun c93=>chk (zbt (List.length y82+1) 48) (some (.inl ((y82++[(⟨c92,c93⟩:zaa)]),(y83+1))))) (some (.inr y82))
def zc5 (q_:zae):Option (zae) :=
 (zds q_.Device.M.Next).bind fun c51=>(zds q_.Device.M.Out).bind fun c52=>(zb2 q_.Device.Latency.Step).bind fun c53=>(iter (fun (s:List zaa×Nat)=>zc5.s2 q_ s.1 s.2) fuel ([],0):Option (List zaa)).bind (fun (y77:List zaa)=>some (⟨(⟨(⟨q_.Device.M.Inputs,q_.Device.M.Start,c51,c52⟩:zab),q_.Device.State,q_.Device.Ready,(⟨c53,q_.Device.Latency.Reset⟩:zay),q_.Device.Faults,q_.Device.Seed,q_.Device.Steps,q_.Device.Resets,q_.Device.Time⟩:zad),(⟨q_.Obs.Inputs,y77⟩:zan),q_.Votes,q_.Tries,q_.Asked,q_.Hits⟩:zae))
def zft (t_:zaa):Option (zaa) :=
 (zb2 t_.In).bind fun c51=>(zb2 t_.Out).bind fun c52=>some (⟨c51,c52⟩:zaa)
def zc4.s2 (l_:List zaa) (y75:List zaa) (y76:Nat):Option ((List zaa×Nat)⊕List zaa) :=
 cond (decide ((↑y76:Int)<(↑(List.length l_):Int))) (idxn l_ y76 fun e83=>(zft e83).bind fun c84=>chk (zbt (List.length y75+1) 48) (some (.inl ((y75++[c84]),(y76+1))))) (some (.inr y75))
def zc4 (l_:List zaa):Option (List zaa) :=
 chk ((0:Int)≤0∧0≤((↑(List.length l_):Int)+1)∧zbt (Int.toNat ((↑(List.length l_):Int)+1)) 48) ((iter (fun (s:List zaa×Nat)=>zc4.s2 l_ s.1 s.2) fuel ([],0):Option (List zaa)).bind (fun (y70:List zaa)=>some y70))
def zam.s2 (x_:List zaa) (target_:zaa) (cmp_:zaa→zaa→Option Int) (i89:Int) (j90:Int):Option ((Int×Int)⊕Int) :=
 cond (decide (i89<j90)) (chk (inR (i89+j90)) (chk ((0:Int)≤(i89+j90)∧(i89+j90)≤18446744073709551615) (chk ((0:Int)≤(i89+j90)∧(i89+j90)≤18446744073709551615) (chk (inR ((i89+j90) / 2^1)) (idx x_ ((i89+j90) / 2^1) fun e106=>(cmp_ e106 target_).bind fun c107=>cond (decide (c107<0)) (chk (inR (((i89+j90) / 2^1)+1)) (some (.inl ((((i89+j90) / 2^1)+1),j90)))) (some (.inl (i89,((i89+j90) / 2^1))))))))) (some (.inr i89))
def zam (x_:List zaa) (target_:zaa) (cmp_:zaa→zaa→Option Int):Option (Int×Bool) :=
 (iter (fun (s:Int×Int)=>zam.s2 x_ target_ cmp_ s.1 s.2) fuel (0,(↑(List.length x_):Int)):Option (Int)).bind (fun (i81:Int)=>(cond (decide (i81<(↑(List.length x_):Int))) (idx x_ i81 fun e119=>(cmp_ e119 target_).bind fun c120=>some (decide (c120=0))) (some false):Option (Bool)).bind (fun (y117:Bool)=>some (i81,y117)))
def zgg (a_:zaa) (b_:zaa):Option (Int) :=
 (zc9 a_.In b_.In).bind fun c51=>chk ((0:Int)≤(min (min c51 (↑(List.length a_.Out):Int)) (↑(List.length b_.Out):Int))∧(min (min c51 (↑(List.length a_.Out):Int)) (↑(List.length b_.Out):Int))≤(↑(List.length a_.Out):Int)) (chk ((0:Int)≤(min (min c51 (↑(List.length a_.Out):Int)) (↑(List.length b_.Out):Int))∧(min (min c51 (↑(List.length a_.Out):Int)) (↑(List.length b_.Out):Int))≤(↑(List.length b_.Out):Int)) ((zc9 (List.take (Int.toNat (min (min c51 (↑(List.length a_.Out):Int)) (↑(List.length b_.Out):Int))) a_.Out) (List.take (Int.toNat (min (min c51 (↑(List.length a_.Out):Int)) (↑(List.length b_.Out):Int))) b_.Out)).bind fun c54=>cond (decide (c54<(min (min c51 (↑(List.length a_.Out):Int)) (↑(List.length b_.Out):Int)))) (some c54) (some (-1:Int))))
def zgz (u_:zaa) (p1_:zaa):Option (Bool) :=
 (zdy p1_.In u_.In).bind fun c51=>some c51
def zal.s2 (del_:zaa→Option Bool) (y94:List zaa) (i95:Int) (j96:Int):Option ((List zaa×Int×Int)⊕(List zaa×Int)) :=
 cond (decide (j96<(↑(List.length y94):Int))) (idx y94 j96 fun e107=>(del_ e107).bind fun c108=>cond ((!c108)) (idx y94 i95 fun e110=>chk (inR (i95+1)) (chk (inR (j96+1)) (some (.inl ((List.set y94 i95.toNat e107),(i95+1),(j96+1)))))) (chk (inR (j96+1)) (some (.inl (y94,i95,(j96+1)))))) (some (.inr (y94,i95)))
def zal.k3 (y84:List zaa) (i85:Int):Option (List zaa) :=
 chk ((0:Int)≤i85∧i85≤(↑(List.length y84):Int)∧0<List.length y84) (chk ((Int.toNat i85)≤List.length y84) (chk ((0:Int)≤i85∧i85≤(↑(List.length (List.take (Int.toNat i85) y84++List.replicate (List.length y84-(Int.toNat i85)) (⟨[],[]⟩:zaa))):Int)∧0<List.length (List.take (Int.toNat i85) y84++List.replicate (List.length y84-(Int.toNat i85)) (⟨[],[]⟩:zaa))) (some (List.take (Int.toNat i85) (List.take (Int.toNat i85) y84++List.replicate (List.length y84-(Int.toNat i85)) (⟨[],[]⟩:zaa))))))
def zal (s_:List zaa) (del_:zaa→Option Bool):Option (List zaa) :=
 (zap s_ del_).bind fun c51=>cond (decide (c51=(-1:Int))) (some s_) (chk (inR (c51+1)) ((iter (fun (s:List zaa×Int×Int)=>zal.s2 del_ s.1 s.2.1 s.2.2) fuel (s_,c51,(c51+1)):Option (List zaa×Int)).bind (fun (s:List zaa×Int)=>zal.k3 s.1 s.2)))
def zee (a_:zaa) (b_:zaa):Option (Int) :=
 (zff a_.In b_.In).bind fun c51=>some c51
def zeb.s2 (l_:List zaa) (t_:zaa) (inside79:Bool) (y80:Nat):Option ((Bool×Nat)⊕(Bool⊕(List zaa×Int))) :=
 cond (decide ((↑y80:Int)<(↑(List.length l_):Int))) (idxn l_ y80 fun e89=>(zgg e89 t_).bind fun c90=>cond (decide (0≤c90)) (some (.inr (.inr ([],13)))) (cond (inside79) (some (.inl (true,(y80+1)))) ((zdy e89.In t_.In).bind fun c93=>some (.inl (c93,(y80+1)))))) (some (.inr (.inl inside79)))
def zeb (l_:List zaa) (t_:zaa):Option (List zaa×Int) :=
 (iter (fun (s:Bool×Nat)=>zeb.s2 l_ t_ s.1 s.2) fuel (false,0):Option (Bool⊕(List zaa×Int))).bind (Sum.elim (fun (inside73:Bool)=>(cond (inside73) (some true) (some (decide ((↑(List.length t_.In):Int)=0))):Option (Bool)).bind (fun (y99:Bool)=>cond (y99) (some (l_,0)) ((zal l_ (fun u0=>zgz u0 t_)).bind fun c103=>cond (decide ((↑(List.length c103):Int)=10000)) (some ([],11)) ((zam c103 t_ (fun u0 u1=>zee u0 u1)).bind fun c105=>(zft t_).bind fun c106=>(zhm c103 c105.1 [c106]).bind fun c107=>some (c107,0))))) some)
def zfq (o_:Int):Option (Bool) :=
 (cond (decide (o_<0)) (some true) (some (decide (1048576<o_))):Option (Bool)).bind (fun (y54:Bool)=>some y54)
def zgi (t_:zaa) (inputs_:Int):Option (Int) :=
 (zfa t_.In inputs_).bind fun c51=>cond (decide (c51≠0)) (some c51) (cond (decide ((↑(List.length t_.Out):Int)≠(↑(List.length t_.In):Int))) (some 1) ((zcc t_.Out (fun u0=>zfq u0)).bind fun c54=>cond (c54) (some 2) (some 0)))
def zdu.s2 (o_:zan) (l_:List zaa) (y83:List zaa) (y84:Nat):Option ((List zaa×Nat)⊕(List zaa⊕(zan×Int))) :=
 cond (decide ((↑y84:Int)<(↑(List.length l_):Int))) (idxn l_ y84 fun e93=>(zgi e93 o_.Inputs).bind fun c94=>cond (decide (c94≠0)) (some (.inr (.inr (o_,c94)))) ((zeb y83 e93).bind fun c96=>cond (decide (c96.2≠0)) (some (.inr (.inr (o_,c96.2)))) (some (.inl (c96.1,(y84+1)))))) (some (.inr (.inl y83)))
def zdu (o_:zan) (l_:List zaa):Option (zan×Int) :=
 (zc4 o_.Traces).bind fun c51=>(iter (fun (s:List zaa×Nat)=>zdu.s2 o_ l_ s.1 s.2) fuel (c51,0):Option (List zaa⊕(zan×Int))).bind (Sum.elim (fun (y76:List zaa)=>some ((⟨o_.Inputs,y76⟩:zan),0)) some)
def zil (o_:zan) (t_:zaa):Option (zan×Int) :=
 (zdu o_ [t_]).bind fun c51=>some (c51.1,c51.2)
def zcw.s2 (l_:List (List Int)) (need_:Int) (y87:List (ByteArray×Int)) (y88:Nat):Option (((List (ByteArray×Int))×Nat)⊕(Unit⊕(List Int×Int×List (List Int)))) :=
 cond (decide ((↑y88:Int)<(↑(List.length l_):Int))) (idxn l_ y88 fun e97=>(zl9 e97).bind fun c98=>chk (inR (((mget c98 y87).getD 0)+1)) (cond (decide (((mget c98 (mset c98 (((mget c98 y87).getD 0)+1) y87)).getD 0)=need_)) ((zb2 e97).bind fun c101=>some (.inr (.inr (c101,0,l_)))) (some (.inl ((mset c98 (((mget c98 y87).getD 0)+1) y87),(y88+1)))))) (some (.inr (.inl ())))
def zcw (l_:List (List Int)) (need_:Int):Option (List Int×Int×List (List Int)) :=
 (cond (decide (need_<1)) (some true) (some (decide (9<need_))):Option (Bool)).bind (fun (y54:Bool)=>cond (y54) (some ([],2,l_)) ((iter (fun (s:(List (ByteArray×Int))×Nat)=>zcw.s2 l_ need_ s.1 s.2) fuel (([]:List (ByteArray×Int)),0):Option (Unit⊕(List Int×Int×List (List Int)))).bind (Sum.elim (fun (_:Unit)=>some ([],13,l_)) some)))
def zcm.k9 (y377:Int) (y381:Int) (y427:Int) (y428:Int) (y429:List (List Int)) (y430:List (List Int)) (y431:Int) (y432:Bool) (y433:List Int) (y434:Int) (y435:Int) (y436:Int) (y437:Int) (y438:Int) (y439:Int) (y440:Int) (y441:Int) (y442:List (List Int)) (answer443:List Int) (code444:Int):Option ((Int×Int×List (List Int)×List (List Int)×Int×Bool×List Int×Int×Int×Int×Int×Int×Int×Int×Int×Int×List (List Int)×List Int×Int×Int)⊕(Int×Int×List (List Int)×List (List Int)×Int×Bool×List Int×Int×Int×Int×Int×Int×Int×Int×Int×Int×List Int×Int)) :=
 some (.inl (y427,y428,y429,y430,y431,y432,y433,y434,y435,y436,y437,y438,y439,y440,y441,(mdI (y377+1)),y442,answer443,code444,(mdI (y381+1))))
def zcm.s10 (w_:List Int) (c53:zae) (y362:Int) (y363:Int) (y364:List (List Int)) (y365:List (List Int)) (y366:Int) (y367:Bool) (y368:List Int) (y369:Int) (y370:Int) (y371:Int) (y372:Int) (y373:Int) (y374:Int) (y375:Int) (y376:Int) (y377:Int) (y378:List (List Int)) (answer379:List Int) (code380:Int) (y381:Int):Option ((Int×Int×List (List Int)×List (List Int)×Int×Bool×List Int×Int×Int×Int×Int×Int×Int×Int×Int×Int×List (List Int)×List Int×Int×Int)⊕(Int×Int×List (List Int)×List (List Int)×Int×Bool×List Int×Int×Int×Int×Int×Int×Int×Int×Int×Int×List Int×Int)) :=
 cond (decide (y381<c53.Tries)) (((zb6 (⟨(⟨y362,y363,y364,y365⟩:zab),y366,y367,(⟨y368,y369⟩:zay),(⟨y370,y371,y372⟩:zbl),y373,y374,y375,y376⟩:zad) w_).bind fun c445=>cond (decide (c445.2.2≠0)) (some (.inl (c445.1.M.Inputs,c445.1.M.Start,c445.1.M.Next,c445.1.M.Out,c445.1.State,c445.1.Ready,c445.1.Latency.Step,c445.1.Latency.Reset,c445.1.Faults.Lost,c445.1.Faults.Wrong,c445.1.Faults.Crash,c445.1.Seed,c445.1.Steps,c445.1.Resets,c445.1.Time,y378,answer379,code380))) (chk (zbt (List.length y378+1) 24) ((zcw (y378++[c445.2.1]) c53.Votes).bind fun c448=>cond (decide (c448.2.1=0)) (some (.inr (.inr (c445.1.M.Inputs,c445.1.M.Start,c445.1.M.Next,c445.1.M.Out,c445.1.State,c445.1.Ready,c445.1.Latency.Step,c445.1.Latency.Reset,c445.1.Faults.Lost,c445.1.Faults.Wrong,c445.1.Faults.Crash,c445.1.Seed,c445.1.Steps,c445.1.Resets,c445.1.Time,(mdI (y377+1)),c448.1,c448.2.1)))) (some (.inl (c445.1.M.Inputs,c445.1.M.Start,c445.1.M.Next,c445.1.M.Out,c445.1.State,c445.1.Ready,c445.1.Latency.Step,c445.1.Latency.Reset,c445.1.Faults.Lost,c445.1.Faults.Wrong,c445.1.Faults.Crash,c445.1.Seed,c445.1.Steps,c445.1.Resets,c445.1.Time,c448.2.2,c448.1,c448.2.1))))):Option ((Int×Int×List (List Int)×List (List Int)×Int×Bool×List Int×Int×Int×Int×Int×Int×Int×Int×Int×List (List Int)×List Int×Int)⊕((Int×Int×List (List Int)×List (List Int)×Int×Bool×List Int×Int×Int×Int×Int×Int×Int×Int×Int×Int×List (List Int)×List Int×Int×Int)⊕(Int×Int×List (List Int)×List (List Int)×Int×Bool×List Int×Int×Int×Int×Int×Int×Int×Int×Int×Int×List Int×Int)))).bind (Sum.elim (fun (s:Int×Int×List (List Int)×List (List Int)×Int×Bool×List Int×Int×Int×Int×Int×Int×Int×Int×Int×List (List Int)×List Int×Int)=>zcm.k9 y377 y381 s.1 s.2.1 s.2.2.1 s.2.2.2.1 s.2.2.2.2.1 s.2.2.2.2.2.1 s.2.2.2.2.2.2.1 s.2.2.2.2.2.2.2.1 s.2.2.2.2.2.2.2.2.1 s.2.2.2.2.2.2.2.2.2.1 s.2.2.2.2.2.2.2.2.2.2.1 s.2.2.2.2.2.2.2.2.2.2.2.1 s.2.2.2.2.2.2.2.2.2.2.2.2.1 s.2.2.2.2.2.2.2.2.2.2.2.2.2.1 s.2.2.2.2.2.2.2.2.2.2.2.2.2.2.1 s.2.2.2.2.2.2.2.2.2.2.2.2.2.2.2.1 s.2.2.2.2.2.2.2.2.2.2.2.2.2.2.2.2.1 s.2.2.2.2.2.2.2.2.2.2.2.2.2.2.2.2.2) some)) (some (.inr (y362,y363,y364,y365,y366,y367,y368,y369,y370,y371,y372,y373,y374,y375,y376,y377,answer379,code380)))
def zcm.k11 (w_:List Int) (c53:zae) (y252:Int) (y253:Int) (y254:List (List Int)) (y255:List (List Int)) (y256:Int) (y257:Bool) (y258:List Int) (y259:Int) (y260:Int) (y261:Int) (y262:Int) (y263:Int) (y264:Int) (y265:Int) (y266:Int) (y267:Int) (answer268:List Int) (code269:Int):Option (zae×List Int×Int) :=
 cond (decide (code269≠0)) (some ((⟨(⟨(⟨y252,y253,y254,y255⟩:zab),y256,y257,(⟨y258,y259⟩:zay),(⟨y260,y261,y262⟩:zbl),y263,y264,y265,y266⟩:zad),c53.Obs,c53.Votes,c53.Tries,y267,c53.Hits⟩:zae),[],code269)) ((zb2 w_).bind fun c471=>(zb2 answer268).bind fun c472=>(zil c53.Obs (⟨c471,c472⟩:zaa)).bind fun c473=>cond (decide (c473.2≠0)) (some ((⟨(⟨(⟨y252,y253,y254,y255⟩:zab),y256,y257,(⟨y258,y259⟩:zay),(⟨y260,y261,y262⟩:zbl),y263,y264,y265,y266⟩:zad),c53.Obs,c53.Votes,c53.Tries,y267,c53.Hits⟩:zae),[],c473.2)) ((zb2 answer268).bind fun c475=>some ((⟨(⟨(⟨y252,y253,y254,y255⟩:zab),y256,y257,(⟨y258,y259⟩:zay),(⟨y260,y261,y262⟩:zbl),y263,y264,y265,y266⟩:zad),c473.1,c53.Votes,c53.Tries,y267,c53.Hits⟩:zae),c475,0)))
def zcm (q_:zae) (w_:List Int):Option (zae×List Int×Int) :=
 (zfa w_ q_.Device.M.Inputs).bind fun c51=>cond (decide (c51≠0)) (some (q_,[],c51)) ((zc5 q_).bind fun c53=>(zgh c53.Obs w_).bind fun c54=>cond (c54.2) ((zb2 c54.1).bind fun c56=>some ((⟨c53.Device,c53.Obs,c53.Votes,c53.Tries,c53.Asked,(mdI (c53.Hits+1))⟩:zae),c56,0)) ((iter (fun (s:Int×Int×List (List Int)×List (List Int)×Int×Bool×List Int×Int×Int×Int×Int×Int×Int×Int×Int×Int×List (List Int)×List Int×Int×Int)=>zcm.s10 w_ c53 s.1 s.2.1 s.2.2.1 s.2.2.2.1 s.2.2.2.2.1 s.2.2.2.2.2.1 s.2.2.2.2.2.2.1 s.2.2.2.2.2.2.2.1 s.2.2.2.2.2.2.2.2.1 s.2.2.2.2.2.2.2.2.2.1 s.2.2.2.2.2.2.2.2.2.2.1 s.2.2.2.2.2.2.2.2.2.2.2.1 s.2.2.2.2.2.2.2.2.2.2.2.2.1 s.2.2.2.2.2.2.2.2.2.2.2.2.2.1 s.2.2.2.2.2.2.2.2.2.2.2.2.2.2.1 s.2.2.2.2.2.2.2.2.2.2.2.2.2.2.2.1 s.2.2.2.2.2.2.2.2.2.2.2.2.2.2.2.2.1 s.2.2.2.2.2.2.2.2.2.2.2.2.2.2.2.2.2.1 s.2.2.2.2.2.2.2.2.2.2.2.2.2.2.2.2.2.2.1 s.2.2.2.2.2.2.2.2.2.2.2.2.2.2.2.2.2.2.2) fuel (c53.Device.M.Inputs,c53.Device.M.Start,c53.Device.M.Next,c53.Device.M.Out,c53.Device.State,c53.Device.Ready,c53.Device.Latency.Step,c53.Device.Latency.Reset,c53.Device.Faults.Lost,c53.Device.Faults.Wrong,c53.Device.Faults.Crash,c53.Device.Seed,c53.Device.Steps,c53.Device.Resets,c53.Device.Time,c53.Asked,[],[],14,0):Option (Int×Int×List (List Int)×List (List Int)×Int×Bool×List Int×Int×Int×Int×Int×Int×Int×Int×Int×Int×List Int×Int)).bind (fun (s:Int×Int×List (List Int)×List (List Int)×Int×Bool×List Int×Int×Int×Int×Int×Int×Int×Int×Int×Int×List Int×Int)=>zcm.k11 w_ c53 s.1 s.2.1 s.2.2.1 s.2.2.2.1 s.2.2.2.2.1 s.2.2.2.2.2.1 s.2.2.2.2.2.2.1 s.2.2.2.2.2.2.2.1 s.2.2.2.2.2.2.2.2.1 s.2.2.2.2.2.2.2.2.2.1 s.2.2.2.2.2.2.2.2.2.2.1 s.2.2.2.2.2.2.2.2.2.2.2.1 s.2.2.2.2.2.2.2.2.2.2.2.2.1 s.2.2.2.2.2.2.2.2.2.2.2.2.2.1 s.2.2.2.2.2.2.2.2.2.2.2.2.2.2.1 s.2.2.2.2.2.2.2.2.2.2.2.2.2.2.2.1 s.2.2.2.2.2.2.2.2.2.2.2.2.2.2.2.2.1 s.2.2.2.2.2.2.2.2.2.2.2.2.2.2.2.2.2)))
def zbc.s2 (q_:zae) (b_:za2) (y78:Nat):Option (Nat⊕(Unit⊕(zae×zag×Int))) :=
 cond (decide ((↑y78:Int)<(↑(List.length b_.Words):Int))) (idxn b_.Words y78 fun e85=>(zfa e85 b_.M.Inputs).bind fun c86=>cond (decide (c86≠0)) (some (.inr (.inr (q_,(⟨0,[]⟩:zag),c86)))) (some (.inl (y78+1)))) (some (.inr (.inl ())))
def zbc.k20 (c695:zae×List Int×Int) (y700:Int) (y701:Int) (y702:List (List Int)) (y703:List (List Int)) (y704:Int) (y705:List zaa) (e706:Int):Option ((Int×Int×List (List Int)×List (List Int)×Int×Bool×List Int×Int×Int×Int×Int×Int×Int×Int×Int×Int×List zaa×Int×Int×Int×Int×Int×Int×List (List Int)×List (List Int)×Int×List zaa)⊕((Int×Int×List (List Int)×List (List Int)×Int×Bool×List Int×Int×Int×Int×Int×Int×Int×Int×Int×Int×List zaa×Int×Int×Int×Int×Int×Int×List (List Int)×List (List Int)×Int×List zaa×Nat)⊕((Int×Int×List (List Int)×List (List Int)×Int×Bool×List Int×Int×Int×Int×Int×Int×Int×Int×Int×Int×List zaa×Int×Int×Int×Int×Int×Int×List (List Int)×List (List Int)×Int×List zaa)⊕(zae×zag×Int)))) :=
 cond (decide (e706≠0)) (some (.inr (.inr (.inr (c695.1,(⟨0,[]⟩:zag),e706))))) (some (.inl (c695.1.Device.M.Inputs,c695.1.Device.M.Start,c695.1.Device.M.Next,c695.1.Device.M.Out,c695.1.Device.State,c695.1.Device.Ready,c695.1.Device.Latency.Step,c695.1.Device.Latency.Reset,c695.1.Device.Faults.Lost,c695.1.Device.Faults.Wrong,c695.1.Device.Faults.Crash,c695.1.Device.Seed,c695.1.Device.Steps,c695.1.Device.Resets,c695.1.Device.Time,c695.1.Obs.Inputs,c695.1.Obs.Traces,c695.1.Votes,c695.1.Tries,c695.1.Asked,c695.1.Hits,y700,y701,y702,y703,y704,y705)))
def zbc.k21 (y546:Nat) (y665:Int) (y666:Int) (y667:List (List Int)) (y668:List (List Int)) (y669:Int) (y670:Bool) (y671:List Int) (y672:Int) (y673:Int) (y674:Int) (y675:Int) (y676:Int) (y677:Int) (y678:Int) (y679:Int) (y680:Int) (y681:List zaa) (y682:Int) (y683:Int) (y684:Int) (y685:Int) (y686:Int) (y687:Int) (y688:List (List Int)) (y689:List (List Int)) (y690:Int) (y691:List zaa):Option ((Int×Int×List (List Int)×List (List Int)×Int×Bool×List Int×Int×Int×Int×Int×Int×Int×Int×Int×Int×List zaa×Int×Int×Int×Int×Int×Int×List (List Int)×List (List Int)×Int×List zaa×Nat)⊕((Int×Int×List (List Int)×List (List Int)×Int×Bool×List Int×Int×Int×Int×Int×Int×Int×Int×Int×Int×List zaa×Int×Int×Int×Int×Int×Int×List (List Int)×List (List Int)×Int×List zaa)⊕(zae×zag×Int))) :=
 some (.inl (y665,y666,y667,y668,y669,y670,y671,y672,y673,y674,y675,y676,y677,y678,y679,y680,y681,y682,y683,y684,y685,y686,y687,y688,y689,y690,y691,(y546+1)))
def zbc.s22 (b_:za2) (y519:Int) (y520:Int) (y521:List (List Int)) (y522:List (List Int)) (y523:Int) (y524:Bool) (y525:List Int) (y526:Int) (y527:Int) (y528:Int) (y529:Int) (y530:Int) (y531:Int) (y532:Int) (y533:Int) (y534:Int) (y535:List zaa) (y536:Int) (y537:Int) (y538:Int) (y539:Int) (y540:Int) (y541:Int) (y542:List (List Int)) (y543:List (List Int)) (y544:Int) (y545:List zaa) (y546:Nat):Option ((Int×Int×List (List Int)×List (List Int)×Int×Bool×List Int×Int×Int×Int×Int×Int×Int×Int×Int×Int×List zaa×Int×Int×Int×Int×Int×Int×List (List Int)×List (List Int)×Int×List zaa×Nat)⊕((Int×Int×List (List Int)×List (List Int)×Int×Bool×List Int×Int×Int×Int×Int×Int×Int×Int×Int×Int×List zaa×Int×Int×Int×Int×Int×Int×List (List Int)×List (List Int)×Int×List zaa)⊕(zae×zag×Int))) :=
 cond (decide ((↑y546:Int)<(↑(List.length b_.Words):Int))) ((idxn b_.Words y546 fun e692=>(zdc (⟨(⟨y540,y541,y542,y543⟩:zab),(⟨y544,y545⟩:zag)⟩:zbf) e692).bind fun c693=>cond ((!c693.1)) (some (.inl (y519,y520,y521,y522,y523,y524,y525,y526,y527,y528,y529,y530,y531,y532,y533,y534,y535,y536,y537,y538,y539,y540,y541,y542,y543,y544,c693.2.report.Changes))) ((zcm (⟨(⟨(⟨y519,y520,y521,y522⟩:zab),y523,y524,(⟨y525,y526⟩:zay),(⟨y527,y528,y529⟩:zbl),y530,y531,y532,y533⟩:zad),(⟨y534,y535⟩:zan),y536,y537,y538,y539⟩:zae) e692).bind fun c695=>(cond (decide (c695.2.2=0)) ((zdw (⟨(⟨y540,y541,y542,y543⟩:zab),(⟨y544,c693.2.report.Changes⟩:zag)⟩:zbf) e692 c695.2.1).bind fun c708=>some (c708.2.m.Inputs,c708.2.m.Start,c708.2.m.Next,c708.2.m.Out,c708.2.report.Run,c708.2.report.Changes,c708.1)) (some (y540,y541,y542,y543,y544,c693.2.report.Changes,c695.2.2)):Option (Int×Int×List (List Int)×List (List Int)×Int×List zaa×Int)).bind (fun (s:Int×Int×List (List Int)×List (List Int)×Int×List zaa×Int)=>zbc.k20 c695 s.1 s.2.1 s.2.2.1 s.2.2.2.1 s.2.2.2.2.1 s.2.2.2.2.2.1 s.2.2.2.2.2.2)):Option ((Int×Int×List (List Int)×List (List Int)×Int×Bool×List Int×Int×Int×Int×Int×Int×Int×Int×Int×Int×List zaa×Int×Int×Int×Int×Int×Int×List (List Int)×List (List Int)×Int×List zaa)⊕((Int×Int×List (List Int)×List (List Int)×Int×Bool×List Int×Int×Int×Int×Int×Int×Int×Int×Int×Int×List zaa×Int×Int×Int×Int×Int×Int×List (List Int)×List (List Int)×Int×List zaa×Nat)⊕((Int×Int×List (List Int)×List (List Int)×Int×Bool×List Int×Int×Int×Int×Int×Int×Int×Int×Int×Int×List zaa×Int×Int×Int×Int×Int×Int×List (List Int)×List (List Int)×Int×List zaa)⊕(zae×zag×Int))))).bind (Sum.elim (fun (s:Int×Int×List (List Int)×List (List Int)×Int×Bool×List Int×Int×Int×Int×Int×Int×Int×Int×Int×Int×List zaa×Int×Int×Int×Int×Int×Int×List (List Int)×List (List Int)×Int×List zaa)=>zbc.k21 y546 s.1 s.2.1 s.2.2.1 s.2.2.2.1 s.2.2.2.2.1 s.2.2.2.2.2.1 s.2.2.2.2.2.2.1 s.2.2.2.2.2.2.2.1 s.2.2.2.2.2.2.2.2.1 s.2.2.2.2.2.2.2.2.2.1 s.2.2.2.2.2.2.2.2.2.2.1 s.2.2.2.2.2.2.2.2.2.2.2.1 s.2.2.2.2.2.2.2.2.2.2.2.2.1 s.2.2.2.2.2.2.2.2.2.2.2.2.2.1 s.2.2.2.2.2.2.2.2.2.2.2.2.2.2.1 s.2.2.2.2.2.2.2.2.2.2.2.2.2.2.2.1 s.2.2.2.2.2.2.2.2.2.2.2.2.2.2.2.2.1 s.2.2.2.2.2.2.2.2.2.2.2.2.2.2.2.2.2.1 s.2.2.2.2.2.2.2.2.2.2.2.2.2.2.2.2.2.2.1 s.2.2.2.2.2.2.2.2.2.2.2.2.2.2.2.2.2.2.2.1 s.2.2.2.2.2.2.2.2.2.2.2.2.2.2.2.2.2.2.2.2.1 s.2.2.2.2.2.2.2.2.2.2.2.2.2.2.2.2.2.2.2.2.2.1 s.2.2.2.2.2.2.2.2.2.2.2.2.2.2.2.2.2.2.2.2.2.2.1 s.2.2.2.2.2.2.2.2.2.2.2.2.2.2.2.2.2.2.2.2.2.2.2.1 s.2.2.2.2.2.2.2.2.2.2.2.2.2.2.2.2.2.2.2.2.2.2.2.2.1 s.2.2.2.2.2.2.2.2.2.2.2.2.2.2.2.2.2.2.2.2.2.2.2.2.2.1 s.2.2.2.2.2.2.2.2.2.2.2.2.2.2.2.2.2.2.2.2.2.2.2.2.2.2) some)) (some (.inr (.inl (y519,y520,y521,y522,y523,y524,y525,y526,y527,y528,y529,y530,y531,y532,y533,y534,y535,y536,y537,y538,y539,y540,y541,y542,y543,y544,y545))))
def zbc.k23 (y403:Int) (y404:Int) (y405:List (List Int)) (y406:List (List Int)) (y407:Int) (y408:Bool) (y409:List Int) (y410:Int) (y411:Int) (y412:Int) (y413:Int) (y414:Int) (y415:Int) (y416:Int) (y417:Int) (y418:Int) (y419:List zaa) (y420:Int) (y421:Int) (y422:Int) (y423:Int) (y424:Int) (y425:Int) (y426:List (List Int)) (y427:List (List Int)) (y428:Int) (y429:List zaa):Option (zae×zag×Int) :=
 some ((⟨(⟨(⟨y403,y404,y405,y406⟩:zab),y407,y408,(⟨y409,y410⟩:zay),(⟨y411,y412,y413⟩:zbl),y414,y415,y416,y417⟩:zad),(⟨y418,y419⟩:zan),y420,y421,y422,y423⟩:zae),(⟨y428,y429⟩:zag),0)
def zbc (q_:zae) (b_:za2):Option (zae×zag×Int) :=
 (za9 b_.M).bind fun c51=>cond (decide (c51≠0)) (some (q_,(⟨0,[]⟩:zag),c51)) (cond (decide (10000<(↑(List.length b_.Words):Int))) (some (q_,(⟨0,[]⟩:zag),11)) ((iter (fun (s:Nat)=>zbc.s2 q_ b_ s) fuel 0:Option (Unit⊕(zae×zag×Int))).bind (Sum.elim (fun (_:Unit)=>cond (decide (q_.Obs.Inputs≠b_.M.Inputs)) (some (q_,(⟨0,[]⟩:zag),15)) ((iter (fun (s:Int×Int×List (List Int)×List (List Int)×Int×Bool×List Int×Int×Int×Int×Int×Int×Int×Int×Int×Int×List zaa×Int×Int×Int×Int×Int×Int×List (List Int)×List (List Int)×Int×List zaa×Nat)=>zbc.s22 b_ s.1 s.2.1 s.2.2.1 s.2.2.2.1 s.2.2.2.2.1 s.2.2.2.2.2.1 s.2.2.2.2.2.2.1 s.2.2.2.2.2.2.2.1 s.2.2.2.2.2.2.2.2.1 s.2.2.2.2.2.2.2.2.2.1 s.2.2.2.2.2.2.2.2.2.2.1 s.2.2.2.2.2.2.2.2.2.2.2.1 s.2.2.2.2.2.2.2.2.2.2.2.2.1 s.2.2.2.2.2.2.2.2.2.2.2.2.2.1 s.2.2.2.2.2.2.2.2.2.2.2.2.2.2.1 s.2.2.2.2.2.2.2.2.2.2.2.2.2.2.2.1 s.2.2.2.2.2.2.2.2.2.2.2.2.2.2.2.2.1 s.2.2.2.2.2.2.2.2.2.2.2.2.2.2.2.2.2.1 s.2.2.2.2.2.2.2.2.2.2.2.2.2.2.2.2.2.2.1 s.2.2.2.2.2.2.2.2.2.2.2.2.2.2.2.2.2.2.2.1 s.2.2.2.2.2.2.2.2.2.2.2.2.2.2.2.2.2.2.2.2.1 s.2.2.2.2.2.2.2.2.2.2.2.2.2.2.2.2.2.2.2.2.2.1 s.2.2.2.2.2.2.2.2.2.2.2.2.2.2.2.2.2.2.2.2.2.2.1 s.2.2.2.2.2.2.2.2.2.2.2.2.2.2.2.2.2.2.2.2.2.2.2.1 s.2.2.2.2.2.2.2.2.2.2.2.2.2.2.2.2.2.2.2.2.2.2.2.2.1 s.2.2.2.2.2.2.2.2.2.2.2.2.2.2.2.2.2.2.2.2.2.2.2.2.2.1 s.2.2.2.2.2.2.2.2.2.2.2.2.2.2.2.2.2.2.2.2.2.2.2.2.2.2.1 s.2.2.2.2.2.2.2.2.2.2.2.2.2.2.2.2.2.2.2.2.2.2.2.2.2.2.2) fuel (q_.Device.M.Inputs,q_.Device.M.Start,q_.Device.M.Next,q_.Device.M.Out,q_.Device.State,q_.Device.Ready,q_.Device.Latency.Step,q_.Device.Latency.Reset,q_.Device.Faults.Lost,q_.Device.Faults.Wrong,q_.Device.Faults.Crash,q_.Device.Seed,q_.Device.Steps,q_.Device.Resets,q_.Device.Time,q_.Obs.Inputs,q_.Obs.Traces,q_.Votes,q_.Tries,q_.Asked,q_.Hits,b_.M.Inputs,b_.M.Start,b_.M.Next,b_.M.Out,0,[],0):Option ((Int×Int×List (List Int)×List (List Int)×Int×Bool×List Int×Int×Int×Int×Int×Int×Int×Int×Int×Int×List zaa×Int×Int×Int×Int×Int×Int×List (List Int)×List (List Int)×Int×List zaa)⊕(zae×zag×Int))).bind (Sum.elim (fun (s:Int×Int×List (List Int)×List (List Int)×Int×Bool×List Int×Int×Int×Int×Int×Int×Int×Int×Int×Int×List zaa×Int×Int×Int×Int×Int×Int×List (List Int)×List (List Int)×Int×List zaa)=>zbc.k23 s.1 s.2.1 s.2.2.1 s.2.2.2.1 s.2.2.2.2.1 s.2.2.2.2.2.1 s.2.2.2.2.2.2.1 s.2.2.2.2.2.2.2.1 s.2.2.2.2.2.2.2.2.1 s.2.2.2.2.2.2.2.2.2.1 s.2.2.2.2.2.2.2.2.2.2.1 s.2.2.2.2.2.2.2.2.2.2.2.1 s.2.2.2.2.2.2.2.2.2.2.2.2.1 s.2.2.2.2.2.2.2.2.2.2.2.2.2.1 s.2.2.2.2.2.2.2.2.2.2.2.2.2.2.1 s.2.2.2.2.2.2.2.2.2.2.2.2.2.2.2.1 s.2.2.2.2.2.2.2.2.2.2.2.2.2.2.2.2.1 s.2.2.2.2.2.2.2.2.2.2.2.2.2.2.2.2.2.1 s.2.2.2.2.2.2.2.2.2.2.2.2.2.2.2.2.2.2.1 s.2.2.2.2.2.2.2.2.2.2.2.2.2.2.2.2.2.2.2.1 s.2.2.2.2.2.2.2.2.2.2.2.2.2.2.2.2.2.2.2.2.1 s.2.2.2.2.2.2.2.2.2.2.2.2.2.2.2.2.2.2.2.2.2.1 s.2.2.2.2.2.2.2.2.2.2.2.2.2.2.2.2.2.2.2.2.2.2.1 s.2.2.2.2.2.2.2.2.2.2.2.2.2.2.2.2.2.2.2.2.2.2.2.1 s.2.2.2.2.2.2.2.2.2.2.2.2.2.2.2.2.2.2.2.2.2.2.2.2.1 s.2.2.2.2.2.2.2.2.2.2.2.2.2.2.2.2.2.2.2.2.2.2.2.2.2.1 s.2.2.2.2.2.2.2.2.2.2.2.2.2.2.2.2.2.2.2.2.2.2.2.2.2.2) some))) some)))
def ze9.s2 (r_:zag) (w_:List Int) (i71:Nat):Option (Nat⊕(Unit⊕Bool)) :=
 cond (decide ((↑i71:Int)<(↑(List.length r_.Changes):Int))) (idxn r_.Changes i71 fun e78=>(zdm w_ e78.In).bind fun c79=>cond (c79) (some (.inr (.inr true))) (some (.inl (i71+1)))) (some (.inr (.inl ())))
def ze9 (r_:zag) (w_:List Int):Option (Bool) :=
 (iter (fun (s:Nat)=>ze9.s2 r_ w_ s) fuel 0:Option (Unit⊕Bool)).bind (Sum.elim (fun (_:Unit)=>some false) some)
def ze2.s2 (parts_:List (List Int)) (y70:List Int) (i71:Nat):Option ((List Int×Nat)⊕List Int) :=
 cond (decide ((↑i71:Int)<(↑(List.length parts_):Int))) (idxn parts_ i71 fun e77=>chk (zbt (List.length y70+List.length e77) 8) (some (.inl ((y70++e77),(i71+1))))) (some (.inr y70))
def ze2 (parts_:List (List Int)):Option (List Int) :=
 (iter (fun (s:List Int×Nat)=>ze2.s2 parts_ s.1 s.2) fuel ([],0):Option (List Int)).bind (fun (y66:List Int)=>some y66)
def zd7.s2 (o_:zan) (w_:List Int) (i84:Nat):Option (Nat⊕(Unit⊕(List Int×Bool))) :=
 cond (decide ((↑i84:Int)<(↑(List.length o_.Traces):Int))) (idxn o_.Traces i84 fun e94=>(zdm e94.In w_).bind fun c95=>cond (c95) (idxn o_.Traces i84 fun e97=>chk ((0:Int)≤(↑(List.length w_):Int)∧(↑(List.length w_):Int)≤(↑(List.length e97.Out):Int)) ((ze2 [(List.take (List.length w_) e97.Out)]).bind fun c99=>some (.inr (.inr (c99,true))))) (some (.inl (i84+1)))) (some (.inr (.inl ())))
def zd7 (o_:zan) (w_:List Int):Option (List Int×Bool) :=
 cond (decide ((↑(List.length w_):Int)=0)) (some ([],true)) ((iter (fun (s:Nat)=>zd7.s2 o_ w_ s) fuel 0:Option (Unit⊕(List Int×Bool))).bind (Sum.elim (fun (_:Unit)=>some ([],false)) some))
def zla (d_:zad):Option (zad×Int) :=
 (ze3 d_).bind fun c51=>cond (decide (c51≠0)) ((ze3 d_).bind fun c53=>some (d_,c53)) ((chk (inR (d_.Resets+1)) ((zeo (d_.Resets+1)).bind fun c63=>cond ((!c63)) (some true) (chk (inR (d_.Time+d_.Latency.Reset)) ((zeo (d_.Time+d_.Latency.Reset)).bind fun c66=>some (!c66)))):Option (Bool)).bind (fun (y61:Bool)=>cond (y61) (some (d_,11)) (chk (inR (d_.Resets+1)) (chk (inR (d_.Time+d_.Latency.Reset)) (some ((⟨d_.M,d_.M.Start,true,d_.Latency,d_.Faults,d_.Seed,d_.Steps,(d_.Resets+1),(d_.Time+d_.Latency.Reset)⟩:zad),0))))))
def zme (state_:Int):Option (Int×Int) :=
 chk ((0:Int)≤(mdU (state_+11400714819323198485))∧(mdU (state_+11400714819323198485))≤18446744073709551615) (chk ((0:Int)≤(mdU ((xorK .u64 (mdU (state_+11400714819323198485)) ((mdU (state_+11400714819323198485)) / 2^30))*13787848793156543929))∧(mdU ((xorK .u64 (mdU (state_+11400714819323198485)) ((mdU (state_+11400714819323198485)) / 2^30))*13787848793156543929))≤18446744073709551615) (chk ((0:Int)≤(mdU ((xorK .u64 (mdU ((xorK .u64 (mdU (state_+11400714819323198485)) ((mdU (state_+11400714819323198485)) / 2^30))*13787848793156543929)) ((mdU ((xorK .u64 (mdU (state_+11400714819323198485)) ((mdU (state_+11400714819323198485)) / 2^30))*13787848793156543929)) / 2^27))*10723151780598845931))∧(mdU ((xorK .u64 (mdU ((xorK .u64 (mdU (state_+11400714819323198485)) ((mdU (state_+11400714819323198485)) / 2^30))*13787848793156543929)) ((mdU ((xorK .u64 (mdU (state_+11400714819323198485)) ((mdU (state_+11400714819323198485)) / 2^30))*13787848793156543929)) / 2^27))*10723151780598845931))≤18446744073709551615) (some ((xorK .u64 (mdU ((xorK .u64 (mdU ((xorK .u64 (mdU (state_+11400714819323198485)) ((mdU (state_+11400714819323198485)) / 2^30))*13787848793156543929)) ((mdU ((xorK .u64 (mdU (state_+11400714819323198485)) ((mdU (state_+11400714819323198485)) / 2^30))*13787848793156543929)) / 2^27))*10723151780598845931)) ((mdU ((xorK .u64 (mdU ((xorK .u64 (mdU (state_+11400714819323198485)) ((mdU (state_+11400714819323198485)) / 2^30))*13787848793156543929)) ((mdU ((xorK .u64 (mdU (state_+11400714819323198485)) ((mdU (state_+11400714819323198485)) / 2^30))*13787848793156543929)) / 2^27))*10723151780598845931)) / 2^31)),(mdU (state_+11400714819323198485))))))
def zd8.s2 (n_:Int) (x89:Int) (next90:Int):Option ((Int×Int)⊕(Int×Int)) :=
 (cond (decide (0<((mdU ((mdU (18446744073709551615-n_))+1))%n_))) (some (decide ((mdU (18446744073709551615-((mdU ((mdU (18446744073709551615-n_))+1))%n_)))<x89))) (some false):Option (Bool)).bind (fun (y102:Bool)=>cond (y102) ((zme next90).bind fun c105=>some (.inl (c105.1,c105.2))) (some (.inr (x89,next90))))
def zd8.k3 (n_:Int) (x80:Int) (next81:Int):Option (Int×Int) :=
 chk ((0:Int)≤n_∧n_≤18446744073709551615) (chk (((0:Int)≤(x80%n_)∧(x80%n_)≤18446744073709551615)∧(0:Int)≤x80∧(1:Int)≤n_) (chk (inR (x80%n_)) (some ((x80%n_),next81))))
def zd8 (state_:Int) (n_:Int):Option (Int×Int) :=
 chk ((0:Int)≤n_∧n_≤18446744073709551615) (chk ((0:Int)≤n_∧n_≤18446744073709551615) (chk (((0:Int)≤((mdU ((mdU (18446744073709551615-n_))+1))%n_)∧((mdU ((mdU (18446744073709551615-n_))+1))%n_)≤18446744073709551615)∧(0:Int)≤(mdU ((mdU (18446744073709551615-n_))+1))∧(1:Int)≤n_) ((zme state_).bind fun c54=>(iter (fun (s:Int×Int)=>zd8.s2 n_ s.1 s.2) fuel (c54.1,c54.2):Option (Int×Int)).bind (fun (s:Int×Int)=>zd8.k3 n_ s.1 s.2))))
def zle (state_:Int) (n_:Int):Option (Int×Int×Int) :=
 (cond (decide (n_<1)) (some true) (some (decide (2147483648<n_))):Option (Bool)).bind (fun (y54:Bool)=>cond (y54) (some (0,0,2)) ((zd8 state_ n_).bind fun c57=>some (c57.1,c57.2,0)))
def zoz (d_:zad) (a_:Int):Option (zad×Int×Int) :=
 (ze3 d_).bind fun c51=>cond (decide (c51≠0)) ((ze3 d_).bind fun c53=>some (d_,0,c53)) (cond ((!d_.Ready)) (some (d_,0,10)) ((cond (decide (a_<0)) (some true) (some (decide (d_.M.Inputs≤a_))):Option (Bool)).bind (fun (y58:Bool)=>cond (y58) (some (d_,0,2)) ((chk (inR (d_.Steps+1)) ((zeo (d_.Steps+1)).bind fun c74=>cond ((!c74)) (some true) (idx d_.Latency.Step a_ fun e76=>chk (inR (d_.Time+e76)) ((zeo (d_.Time+e76)).bind fun c78=>some (!c78)))):Option (Bool)).bind (fun (y72:Bool)=>cond (y72) (some (d_,0,11)) (idx d_.M.Out d_.State fun e83=>idx e83 a_ fun e84=>(zle d_.Seed 10000).bind fun c85=>idx d_.M.Next d_.State fun e86=>idx e86 a_ fun e87=>chk (inR (d_.Steps+1)) (idx d_.Latency.Step a_ fun e89=>chk (inR (d_.Time+e89)) (cond (decide (c85.1<d_.Faults.Lost)) (some ((⟨d_.M,e87,d_.Ready,d_.Latency,d_.Faults,c85.2.1,(d_.Steps+1),d_.Resets,(d_.Time+e89)⟩:zad),(-1:Int),0)) ((chk (inR (d_.Faults.Lost+d_.Faults.Wrong)) (cond (decide (c85.1<(d_.Faults.Lost+d_.Faults.Wrong))) (some (decide (e84=1048576))) (some false)):Option (Bool)).bind (fun (y96:Bool)=>cond (y96) (chk (inR (e84-1)) (some ((⟨d_.M,e87,d_.Ready,d_.Latency,d_.Faults,c85.2.1,(d_.Steps+1),d_.Resets,(d_.Time+e89)⟩:zad),(e84-1),0))) (chk (inR (d_.Faults.Lost+d_.Faults.Wrong)) (cond (decide (c85.1<(d_.Faults.Lost+d_.Faults.Wrong))) (chk (inR (e84+1)) (some ((⟨d_.M,e87,d_.Ready,d_.Latency,d_.Faults,c85.2.1,(d_.Steps+1),d_.Resets,(d_.Time+e89)⟩:zad),(e84+1),0))) (chk (inR (d_.Faults.Lost+d_.Faults.Wrong)) (chk (inR ((d_.Faults.Lost+d_.Faults.Wrong)+d_.Faults.Crash)) (cond (decide (c85.1<((d_.Faults.Lost+d_.Faults.Wrong)+d_.Faults.Crash))) (some ((⟨d_.M,e87,false,d_.Latency,d_.Faults,c85.2.1,(d_.Steps+1),d_.Resets,(d_.Time+e89)⟩:zad),e84,0)) (some ((⟨d_.M,e87,d_.Ready,d_.Latency,d_.Faults,c85.2.1,(d_.Steps+1),d_.Resets,(d_.Time+e89)⟩:zad),e84,0)))))))))))))))))
def zdb.s2 (w_:List Int) (y166:Int) (y167:Int) (y168:List (List Int)) (y169:List (List Int)) (y170:Int) (y171:Bool) (y172:List Int) (y173:Int) (y174:Int) (y175:Int) (y176:Int) (y177:Int) (y178:Int) (y179:Int) (y180:Int) (y181:List Int) (i182:Nat):Option ((Int×Int×List (List Int)×List (List Int)×Int×Bool×List Int×Int×Int×Int×Int×Int×Int×Int×Int×List Int×Nat)⊕((Int×Int×List (List Int)×List (List Int)×Int×Bool×List Int×Int×Int×Int×Int×Int×Int×Int×Int×List Int)⊕(zad×List Int×Int))) :=
 cond (decide ((↑i182:Int)<(↑(List.length w_):Int))) (idxn w_ i182 fun e203=>(zoz (⟨(⟨y166,y167,y168,y169⟩:zab),y170,y171,(⟨y172,y173⟩:zay),(⟨y174,y175,y176⟩:zbl),y177,y178,y179,y180⟩:zad) e203).bind fun c204=>cond (decide (c204.2.2≠0)) (some (.inr (.inr (c204.1,[],c204.2.2)))) ((cond (decide (c204.2.1=(-1:Int))) (some true) (cond ((!c204.1.Ready)) (some (decide ((↑i182:Int)<((↑(List.length w_):Int)-1)))) (some false)):Option (Bool)).bind (fun (y210:Bool)=>cond (y210) (some (.inr (.inr (c204.1,[],14)))) (chk (zbt (List.length y181+1) 8) (some (.inl (c204.1.M.Inputs,c204.1.M.Start,c204.1.M.Next,c204.1.M.Out,c204.1.State,c204.1.Ready,c204.1.Latency.Step,c204.1.Latency.Reset,c204.1.Faults.Lost,c204.1.Faults.Wrong,c204.1.Faults.Crash,c204.1.Seed,c204.1.Steps,c204.1.Resets,c204.1.Time,(y181++[c204.2.1]),(i182+1)))))))) (some (.inr (.inl (y166,y167,y168,y169,y170,y171,y172,y173,y174,y175,y176,y177,y178,y179,y180,y181))))
def zdb.k3 (y134:Int) (y135:Int) (y136:List (List Int)) (y137:List (List Int)) (y138:Int) (y139:Bool) (y140:List Int) (y141:Int) (y142:Int) (y143:Int) (y144:Int) (y145:Int) (y146:Int) (y147:Int) (y148:Int) (y149:List Int):Option (zad×List Int×Int) :=
 some ((⟨(⟨y134,y135,y136,y137⟩:zab),y138,y139,(⟨y140,y141⟩:zay),(⟨y142,y143,y144⟩:zbl),y145,y146,y147,y148⟩:zad),y149,0)
def zdb (d_:zad) (w_:List Int):Option (zad×List Int×Int) :=
 (ze3 d_).bind fun c51=>cond (decide (c51≠0)) ((ze3 d_).bind fun c53=>some (d_,[],c53)) ((zd1 w_ d_.M.Inputs).bind fun c54=>cond (decide (c54≠0)) (some (d_,[],c54)) ((zla d_).bind fun c56=>cond (decide (c56.2≠0)) (some (c56.1,[],c56.2)) ((iter (fun (s:Int×Int×List (List Int)×List (List Int)×Int×Bool×List Int×Int×Int×Int×Int×Int×Int×Int×Int×List Int×Nat)=>zdb.s2 w_ s.1 s.2.1 s.2.2.1 s.2.2.2.1 s.2.2.2.2.1 s.2.2.2.2.2.1 s.2.2.2.2.2.2.1 s.2.2.2.2.2.2.2.1 s.2.2.2.2.2.2.2.2.1 s.2.2.2.2.2.2.2.2.2.1 s.2.2.2.2.2.2.2.2.2.2.1 s.2.2.2.2.2.2.2.2.2.2.2.1 s.2.2.2.2.2.2.2.2.2.2.2.2.1 s.2.2.2.2.2.2.2.2.2.2.2.2.2.1 s.2.2.2.2.2.2.2.2.2.2.2.2.2.2.1 s.2.2.2.2.2.2.2.2.2.2.2.2.2.2.2.1 s.2.2.2.2.2.2.2.2.2.2.2.2.2.2.2.2) fuel (c56.1.M.Inputs,c56.1.M.Start,c56.1.M.Next,c56.1.M.Out,c56.1.State,c56.1.Ready,c56.1.Latency.Step,c56.1.Latency.Reset,c56.1.Faults.Lost,c56.1.Faults.Wrong,c56.1.Faults.Crash,c56.1.Seed,c56.1.Steps,c56.1.Resets,c56.1.Time,[],0):Option ((Int×Int×List (List Int)×List (List Int)×Int×Bool×List Int×Int×Int×Int×Int×Int×Int×Int×Int×List Int)⊕(zad×List Int×Int))).bind (Sum.elim (fun (s:Int×Int×List (List Int)×List (List Int)×Int×Bool×List Int×Int×Int×Int×Int×Int×Int×Int×Int×List Int)=>zdb.k3 s.1 s.2.1 s.2.2.1 s.2.2.2.1 s.2.2.2.2.1 s.2.2.2.2.2.1 s.2.2.2.2.2.2.1 s.2.2.2.2.2.2.2.1 s.2.2.2.2.2.2.2.2.1 s.2.2.2.2.2.2.2.2.2.1 s.2.2.2.2.2.2.2.2.2.2.1 s.2.2.2.2.2.2.2.2.2.2.2.1 s.2.2.2.2.2.2.2.2.2.2.2.2.1 s.2.2.2.2.2.2.2.2.2.2.2.2.2.1 s.2.2.2.2.2.2.2.2.2.2.2.2.2.2.1 s.2.2.2.2.2.2.2.2.2.2.2.2.2.2.2) some))))
def zfp.s2 (l_:List (List Int)) (w_:List Int) (n76:Nat) (i77:Nat):Option ((Nat×Nat)⊕Nat) :=
 cond (decide ((↑i77:Int)<(↑(List.length l_):Int))) (idxn l_ i77 fun e85=>(zeg e85 w_).bind fun c86=>cond (c86) (chk (inR ((↑n76:Int)+1)) (some (.inl ((n76+1),(i77+1))))) (some (.inl (n76,(i77+1))))) (some (.inr n76))
def zfp (l_:List (List Int)) (w_:List Int):Option (Int) :=
 (iter (fun (s:Nat×Nat)=>zfp.s2 l_ w_ s.1 s.2) fuel (0,0):Option (Nat)).bind (fun (n71:Nat)=>some (↑n71:Int))
def zhf (t_:zaa):Option (zaa) :=
 (ze2 [t_.In]).bind fun c51=>(ze2 [t_.Out]).bind fun c52=>some (⟨c51,c52⟩:zaa)
def zdi.s2 (o_:zan) (t_:zaa) (done72:Bool) (i73:Nat):Option ((Bool×Nat)⊕Bool) :=
 cond (decide ((↑i73:Int)<(↑(List.length o_.Traces):Int))) (cond (done72) (some (.inl (true,(i73+1)))) (idxn o_.Traces i73 fun e81=>(zdm e81.In t_.In).bind fun c82=>some (.inl (c82,(i73+1))))) (some (.inr done72))
def zdi.k9 (t_:zaa) (i277:Nat) (e328:zaa) (y344:List zaa) (done345:Bool):Option ((List zaa×Bool×Nat)⊕(List zaa×Bool)) :=
 ((zdm t_.In e328.In).bind fun c367=>cond ((!c367)) (some true) (some (decide ((↑(List.length t_.In):Int)=(↑(List.length e328.In):Int)))):Option (Bool)).bind (fun (y366:Bool)=>cond (y366) ((zhf e328).bind fun c373=>chk (zbt (List.length y344+1) 48) (some (.inl ((y344++[c373]),done345,(i277+1))))) (some (.inl (y344,done345,(i277+1)))))
def zdi.s10 (o_:zan) (t_:zaa) (y275:List zaa) (done276:Bool) (i277:Nat):Option ((List zaa×Bool×Nat)⊕(List zaa×Bool)) :=
 cond (decide ((↑i277:Int)<(↑(List.length o_.Traces):Int))) (idxn o_.Traces i277 fun e328=>((cond ((!done276)) ((zgr t_.In e328.In).bind fun c352=>some (decide (c352<0))) (some false):Option (Bool)).bind (fun (y350:Bool)=>cond (y350) ((zhf t_).bind fun c357=>chk (zbt (List.length y275+1) 48) (some ((y275++[c357]),true))) (some (y275,done276))):Option (List zaa×Bool)).bind (fun (s:List zaa×Bool)=>zdi.k9 t_ i277 e328 s.1 s.2)) (some (.inr (y275,done276)))
def zdi.k11 (o_:zan) (t_:zaa) (y229:List zaa) (done230:Bool):Option (zan) :=
 (cond ((!done230)) ((zhf t_).bind fun c384=>chk (zbt (List.length y229+1) 48) (some (y229++[c384]))) (some y229):Option (List zaa)).bind (fun (y382:List zaa)=>some (⟨o_.Inputs,y382⟩:zan))
def zdi (o_:zan) (t_:zaa):Option (zan) :=
 (iter (fun (s:Bool×Nat)=>zdi.s2 o_ t_ s.1 s.2) fuel (decide ((↑(List.length t_.In):Int)=0),0):Option (Bool)).bind (fun (done67:Bool)=>(iter (fun (s:List zaa×Bool×Nat)=>zdi.s10 o_ t_ s.1 s.2.1 s.2.2) fuel ([],done67,0):Option (List zaa×Bool)).bind (fun (s:List zaa×Bool)=>zdi.k11 o_ t_ s.1 s.2))
def zh6.s2 (o_:zan) (t_:zaa) (i72:Nat):Option (Nat⊕(Unit⊕(zan×Int))) :=
 cond (decide ((↑i72:Int)<(↑(List.length o_.Traces):Int))) (idxn o_.Traces i72 fun e79=>(zdd e79 t_).bind fun c80=>cond (decide (0≤c80)) (some (.inr (.inr (o_,13)))) (some (.inl (i72+1)))) (some (.inr (.inl ())))
def zh6 (o_:zan) (t_:zaa):Option (zan×Int) :=
 (zcz t_ o_.Inputs).bind fun c51=>cond (decide (c51≠0)) (some (o_,c51)) ((iter (fun (s:Nat)=>zh6.s2 o_ t_ s) fuel 0:Option (Unit⊕(zan×Int))).bind (Sum.elim (fun (_:Unit)=>(zdi o_ t_).bind fun c82=>cond (decide (10000<(↑(List.length c82.Traces):Int))) (some (o_,11)) (some (c82,0))) some))
def zet.k9 (y373:Int) (i375:Int) (y424:Int) (y425:Int) (y426:List (List Int)) (y427:List (List Int)) (y428:Int) (y429:Bool) (y430:List Int) (y431:Int) (y432:Int) (y433:Int) (y434:Int) (y435:Int) (y436:Int) (y437:Int) (y438:Int) (y439:List (List Int)):Option ((Int×Int×List (List Int)×List (List Int)×Int×Bool×List Int×Int×Int×Int×Int×Int×Int×Int×Int×Int×List (List Int)×Int)⊕((Int×Int×List (List Int)×List (List Int)×Int×Bool×List Int×Int×Int×Int×Int×Int×Int×Int×Int×Int×List (List Int))⊕(zae×List Int×Int))) :=
 some (.inl (y424,y425,y426,y427,y428,y429,y430,y431,y432,y433,y434,y435,y436,y437,y438,(mdI (y373+1)),y439,(mdI (i375+1))))
def zet.s10 (q_:zae) (w_:List Int) (y358:Int) (y359:Int) (y360:List (List Int)) (y361:List (List Int)) (y362:Int) (y363:Bool) (y364:List Int) (y365:Int) (y366:Int) (y367:Int) (y368:Int) (y369:Int) (y370:Int) (y371:Int) (y372:Int) (y373:Int) (y374:List (List Int)) (i375:Int):Option ((Int×Int×List (List Int)×List (List Int)×Int×Bool×List Int×Int×Int×Int×Int×Int×Int×Int×Int×Int×List (List Int)×Int)⊕((Int×Int×List (List Int)×List (List Int)×Int×Bool×List Int×Int×Int×Int×Int×Int×Int×Int×Int×Int×List (List Int))⊕(zae×List Int×Int))) :=
 cond (decide (i375<q_.Tries)) (((zdb (⟨(⟨y358,y359,y360,y361⟩:zab),y362,y363,(⟨y364,y365⟩:zay),(⟨y366,y367,y368⟩:zbl),y369,y370,y371,y372⟩:zad) w_).bind fun c440=>cond (decide (c440.2.2≠0)) (some (.inl (c440.1.M.Inputs,c440.1.M.Start,c440.1.M.Next,c440.1.M.Out,c440.1.State,c440.1.Ready,c440.1.Latency.Step,c440.1.Latency.Reset,c440.1.Faults.Lost,c440.1.Faults.Wrong,c440.1.Faults.Crash,c440.1.Seed,c440.1.Steps,c440.1.Resets,c440.1.Time,y374))) (chk (zbt (List.length y374+1) 24) ((zfp (y374++[c440.2.1]) c440.2.1).bind fun c443=>cond (decide (c443<q_.Votes)) (some (.inl (c440.1.M.Inputs,c440.1.M.Start,c440.1.M.Next,c440.1.M.Out,c440.1.State,c440.1.Ready,c440.1.Latency.Step,c440.1.Latency.Reset,c440.1.Faults.Lost,c440.1.Faults.Wrong,c440.1.Faults.Crash,c440.1.Seed,c440.1.Steps,c440.1.Resets,c440.1.Time,(y374++[c440.2.1])))) ((zh6 q_.Obs (⟨w_,c440.2.1⟩:zaa)).bind fun c445=>cond (decide (c445.2≠0)) (some (.inr (.inr (.inr ((⟨c440.1,q_.Obs,q_.Votes,q_.Tries,(mdI (y373+1)),q_.Hits⟩:zae),[],c445.2))))) (some (.inr (.inr (.inr ((⟨c440.1,c445.1,q_.Votes,q_.Tries,(mdI (y373+1)),q_.Hits⟩:zae),c440.2.1,0)))))))):Option ((Int×Int×List (List Int)×List (List Int)×Int×Bool×List Int×Int×Int×Int×Int×Int×Int×Int×Int×List (List Int))⊕((Int×Int×List (List Int)×List (List Int)×Int×Bool×List Int×Int×Int×Int×Int×Int×Int×Int×Int×Int×List (List Int)×Int)⊕((Int×Int×List (List Int)×List (List Int)×Int×Bool×List Int×Int×Int×Int×Int×Int×Int×Int×Int×Int×List (List Int))⊕(zae×List Int×Int))))).bind (Sum.elim (fun (s:Int×Int×List (List Int)×List (List Int)×Int×Bool×List Int×Int×Int×Int×Int×Int×Int×Int×Int×List (List Int))=>zet.k9 y373 i375 s.1 s.2.1 s.2.2.1 s.2.2.2.1 s.2.2.2.2.1 s.2.2.2.2.2.1 s.2.2.2.2.2.2.1 s.2.2.2.2.2.2.2.1 s.2.2.2.2.2.2.2.2.1 s.2.2.2.2.2.2.2.2.2.1 s.2.2.2.2.2.2.2.2.2.2.1 s.2.2.2.2.2.2.2.2.2.2.2.1 s.2.2.2.2.2.2.2.2.2.2.2.2.1 s.2.2.2.2.2.2.2.2.2.2.2.2.2.1 s.2.2.2.2.2.2.2.2.2.2.2.2.2.2.1 s.2.2.2.2.2.2.2.2.2.2.2.2.2.2.2) some)) (some (.inr (.inl (y358,y359,y360,y361,y362,y363,y364,y365,y366,y367,y368,y369,y370,y371,y372,y373,y374))))
def zet.k11 (q_:zae) (y249:Int) (y250:Int) (y251:List (List Int)) (y252:List (List Int)) (y253:Int) (y254:Bool) (y255:List Int) (y256:Int) (y257:Int) (y258:Int) (y259:Int) (y260:Int) (y261:Int) (y262:Int) (y263:Int) (y264:Int) (y265:List (List Int)):Option (zae×List Int×Int) :=
 cond (decide (0<(↑(List.length y265):Int))) (some ((⟨(⟨(⟨y249,y250,y251,y252⟩:zab),y253,y254,(⟨y255,y256⟩:zay),(⟨y257,y258,y259⟩:zbl),y260,y261,y262,y263⟩:zad),q_.Obs,q_.Votes,q_.Tries,y264,q_.Hits⟩:zae),[],13)) (some ((⟨(⟨(⟨y249,y250,y251,y252⟩:zab),y253,y254,(⟨y255,y256⟩:zay),(⟨y257,y258,y259⟩:zbl),y260,y261,y262,y263⟩:zad),q_.Obs,q_.Votes,q_.Tries,y264,q_.Hits⟩:zae),[],14))
def zet (q_:zae) (w_:List Int):Option (zae×List Int×Int) :=
 (zd1 w_ q_.Device.M.Inputs).bind fun c51=>cond (decide (c51≠0)) (some (q_,[],c51)) ((zd7 q_.Obs w_).bind fun c53=>cond (c53.2) (some ((⟨q_.Device,q_.Obs,q_.Votes,q_.Tries,q_.Asked,(mdI (q_.Hits+1))⟩:zae),c53.1,0)) ((iter (fun (s:Int×Int×List (List Int)×List (List Int)×Int×Bool×List Int×Int×Int×Int×Int×Int×Int×Int×Int×Int×List (List Int)×Int)=>zet.s10 q_ w_ s.1 s.2.1 s.2.2.1 s.2.2.2.1 s.2.2.2.2.1 s.2.2.2.2.2.1 s.2.2.2.2.2.2.1 s.2.2.2.2.2.2.2.1 s.2.2.2.2.2.2.2.2.1 s.2.2.2.2.2.2.2.2.2.1 s.2.2.2.2.2.2.2.2.2.2.1 s.2.2.2.2.2.2.2.2.2.2.2.1 s.2.2.2.2.2.2.2.2.2.2.2.2.1 s.2.2.2.2.2.2.2.2.2.2.2.2.2.1 s.2.2.2.2.2.2.2.2.2.2.2.2.2.2.1 s.2.2.2.2.2.2.2.2.2.2.2.2.2.2.2.1 s.2.2.2.2.2.2.2.2.2.2.2.2.2.2.2.2.1 s.2.2.2.2.2.2.2.2.2.2.2.2.2.2.2.2.2) fuel (q_.Device.M.Inputs,q_.Device.M.Start,q_.Device.M.Next,q_.Device.M.Out,q_.Device.State,q_.Device.Ready,q_.Device.Latency.Step,q_.Device.Latency.Reset,q_.Device.Faults.Lost,q_.Device.Faults.Wrong,q_.Device.Faults.Crash,q_.Device.Seed,q_.Device.Steps,q_.Device.Resets,q_.Device.Time,q_.Asked,[],0):Option ((Int×Int×List (List Int)×List (List Int)×Int×Bool×List Int×Int×Int×Int×Int×Int×Int×Int×Int×Int×List (List Int))⊕(zae×List Int×Int))).bind (Sum.elim (fun (s:Int×Int×List (List Int)×List (List Int)×Int×Bool×List Int×Int×Int×Int×Int×Int×Int×Int×Int×Int×List (List Int))=>zet.k11 q_ s.1 s.2.1 s.2.2.1 s.2.2.2.1 s.2.2.2.2.1 s.2.2.2.2.2.1 s.2.2.2.2.2.2.1 s.2.2.2.2.2.2.2.1 s.2.2.2.2.2.2.2.2.1 s.2.2.2.2.2.2.2.2.2.1 s.2.2.2.2.2.2.2.2.2.2.1 s.2.2.2.2.2.2.2.2.2.2.2.1 s.2.2.2.2.2.2.2.2.2.2.2.2.1 s.2.2.2.2.2.2.2.2.2.2.2.2.2.1 s.2.2.2.2.2.2.2.2.2.2.2.2.2.2.1 s.2.2.2.2.2.2.2.2.2.2.2.2.2.2.2.1 s.2.2.2.2.2.2.2.2.2.2.2.2.2.2.2.2) some)))
def zev.s2 (m_:zab) (w_:List Int) (s90:Int) (y91:List Int) (i92:Nat):Option ((Int×List Int×Nat)⊕(Int×List Int)) :=
 cond (decide ((↑i92:Int)<(↑(List.length w_):Int))) (idx m_.Out s90 fun e103=>idxn w_ i92 fun e104=>idx e103 e104 fun e105=>chk (zbt (List.length y91+1) 8) (idx m_.Next s90 fun e107=>idxn w_ i92 fun e108=>idx e107 e108 fun e109=>some (.inl (e109,(y91++[e105]),(i92+1))))) (some (.inr (s90,y91)))
def zev.k3 (s81:Int) (y82:List Int):Option (List Int×Int) :=
 some (y82,s81)
def zev (m_:zab) (s_:Int) (w_:List Int):Option (List Int×Int) :=
 (iter (fun (s:Int×List Int×Nat)=>zev.s2 m_ w_ s.1 s.2.1 s.2.2) fuel (s_,[],0):Option (Int×List Int)).bind (fun (s:Int×List Int)=>zev.k3 s.1 s.2)
def znw (r_:zag) (m_:zab) (w_:List Int) (out_:List Int):Option (zag) :=
 chk (inR (r_.Run+1)) ((zev m_ m_.Start w_).bind fun c52=>(zdt c52.1 out_).bind fun c53=>(cond (decide (c53<(↑(List.length c52.1):Int))) (chk (inR (c53+1)) (chk ((0:Int)≤(c53+1)∧(c53+1)≤(↑(List.length w_):Int)) ((ze2 [(List.take (Int.toNat (c53+1)) w_)]).bind fun c68=>chk (inR (c53+1)) (chk ((0:Int)≤(c53+1)∧(c53+1)≤(↑(List.length out_):Int)) ((ze2 [(List.take (Int.toNat (c53+1)) out_)]).bind fun c71=>chk (zbt (List.length r_.Changes+1) 48) (some (r_.Changes++[(⟨c68,c71⟩:zaa)]))))))) (some r_.Changes):Option (List zaa)).bind (fun (y64:List zaa)=>some (⟨(r_.Run+1),y64⟩:zag)))
def zem.s2 (b_:za2) (i73:Nat):Option (Nat⊕(Unit⊕Int)) :=
 cond (decide ((↑i73:Int)<(↑(List.length b_.Words):Int))) (idxn b_.Words i73 fun e80=>(zd1 e80 b_.M.Inputs).bind fun c81=>cond (decide (c81≠0)) (some (.inr (.inr c81))) (some (.inl (i73+1)))) (some (.inr (.inl ())))
def zem (b_:za2):Option (Int) :=
 (zde b_.M).bind fun c51=>cond (decide (c51≠0)) (some c51) (cond (decide (10000<(↑(List.length b_.Words):Int))) (some 11) ((iter (fun (s:Nat)=>zem.s2 b_ s) fuel 0:Option (Unit⊕Int)).bind (Sum.elim (fun (_:Unit)=>some 0) some)))
def zep.k7 (i315:Nat) (y373:Int) (y374:Int) (y375:List (List Int)) (y376:List (List Int)) (y377:Int) (y378:Bool) (y379:List Int) (y380:Int) (y381:Int) (y382:Int) (y383:Int) (y384:Int) (y385:Int) (y386:Int) (y387:Int) (y388:Int) (y389:List zaa) (y390:Int) (y391:Int) (y392:Int) (y393:Int) (y394:Int) (y395:List zaa):Option ((Int×Int×List (List Int)×List (List Int)×Int×Bool×List Int×Int×Int×Int×Int×Int×Int×Int×Int×Int×List zaa×Int×Int×Int×Int×Int×List zaa×Nat)⊕((Int×Int×List (List Int)×List (List Int)×Int×Bool×List Int×Int×Int×Int×Int×Int×Int×Int×Int×Int×List zaa×Int×Int×Int×Int×Int×List zaa)⊕(zae×zag×Int))) :=
 some (.inl (y373,y374,y375,y376,y377,y378,y379,y380,y381,y382,y383,y384,y385,y386,y387,y388,y389,y390,y391,y392,y393,y394,y395,(i315+1)))
def zep.s8 (b_:za2) (y292:Int) (y293:Int) (y294:List (List Int)) (y295:List (List Int)) (y296:Int) (y297:Bool) (y298:List Int) (y299:Int) (y300:Int) (y301:Int) (y302:Int) (y303:Int) (y304:Int) (y305:Int) (y306:Int) (y307:Int) (y308:List zaa) (y309:Int) (y310:Int) (y311:Int) (y312:Int) (y313:Int) (y314:List zaa) (i315:Nat):Option ((Int×Int×List (List Int)×List (List Int)×Int×Bool×List Int×Int×Int×Int×Int×Int×Int×Int×Int×Int×List zaa×Int×Int×Int×Int×Int×List zaa×Nat)⊕((Int×Int×List (List Int)×List (List Int)×Int×Bool×List Int×Int×Int×Int×Int×Int×Int×Int×Int×Int×List zaa×Int×Int×Int×Int×Int×List zaa)⊕(zae×zag×Int))) :=
 cond (decide ((↑i315:Int)<(↑(List.length b_.Words):Int))) ((idxn b_.Words i315 fun e396=>(ze9 (⟨y313,y314⟩:zag) e396).bind fun c397=>cond (c397) (some (.inl (y292,y293,y294,y295,y296,y297,y298,y299,y300,y301,y302,y303,y304,y305,y306,y307,y308,y309,y310,y311,y312,y313,y314))) (idxn b_.Words i315 fun e399=>(zet (⟨(⟨(⟨y292,y293,y294,y295⟩:zab),y296,y297,(⟨y298,y299⟩:zay),(⟨y300,y301,y302⟩:zbl),y303,y304,y305,y306⟩:zad),(⟨y307,y308⟩:zan),y309,y310,y311,y312⟩:zae) e399).bind fun c400=>cond (decide (c400.2.2≠0)) (some (.inr (.inr (.inr (c400.1,(⟨0,[]⟩:zag),c400.2.2))))) (idxn b_.Words i315 fun e402=>(znw (⟨y313,y314⟩:zag) b_.M e402 c400.2.1).bind fun c403=>some (.inl (c400.1.Device.M.Inputs,c400.1.Device.M.Start,c400.1.Device.M.Next,c400.1.Device.M.Out,c400.1.Device.State,c400.1.Device.Ready,c400.1.Device.Latency.Step,c400.1.Device.Latency.Reset,c400.1.Device.Faults.Lost,c400.1.Device.Faults.Wrong,c400.1.Device.Faults.Crash,c400.1.Device.Seed,c400.1.Device.Steps,c400.1.Device.Resets,c400.1.Device.Time,c400.1.Obs.Inputs,c400.1.Obs.Traces,c400.1.Votes,c400.1.Tries,c400.1.Asked,c400.1.Hits,c403.Run,c403.Changes)))):Option ((Int×Int×List (List Int)×List (List Int)×Int×Bool×List Int×Int×Int×Int×Int×Int×Int×Int×Int×Int×List zaa×Int×Int×Int×Int×Int×List zaa)⊕((Int×Int×List (List Int)×List (List Int)×Int×Bool×List Int×Int×Int×Int×Int×Int×Int×Int×Int×Int×List zaa×Int×Int×Int×Int×Int×List zaa×Nat)⊕((Int×Int×List (List Int)×List (List Int)×Int×Bool×List Int×Int×Int×Int×Int×Int×Int×Int×Int×Int×List zaa×Int×Int×Int×Int×Int×List zaa)⊕(zae×zag×Int))))).bind (Sum.elim (fun (s:Int×Int×List (List Int)×List (List Int)×Int×Bool×List Int×Int×Int×Int×Int×Int×Int×Int×Int×Int×List zaa×Int×Int×Int×Int×Int×List zaa)=>zep.k7 i315 s.1 s.2.1 s.2.2.1 s.2.2.2.1 s.2.2.2.2.1 s.2.2.2.2.2.1 s.2.2.2.2.2.2.1 s.2.2.2.2.2.2.2.1 s.2.2.2.2.2.2.2.2.1 s.2.2.2.2.2.2.2.2.2.1 s.2.2.2.2.2.2.2.2.2.2.1 s.2.2.2.2.2.2.2.2.2.2.2.1 s.2.2.2.2.2.2.2.2.2.2.2.2.1 s.2.2.2.2.2.2.2.2.2.2.2.2.2.1 s.2.2.2.2.2.2.2.2.2.2.2.2.2.2.1 s.2.2.2.2.2.2.2.2.2.2.2.2.2.2.2.1 s.2.2.2.2.2.2.2.2.2.2.2.2.2.2.2.2.1 s.2.2.2.2.2.2.2.2.2.2.2.2.2.2.2.2.2.1 s.2.2.2.2.2.2.2.2.2.2.2.2.2.2.2.2.2.2.1 s.2.2.2.2.2.2.2.2.2.2.2.2.2.2.2.2.2.2.2.1 s.2.2.2.2.2.2.2.2.2.2.2.2.2.2.2.2.2.2.2.2.1 s.2.2.2.2.2.2.2.2.2.2.2.2.2.2.2.2.2.2.2.2.2.1 s.2.2.2.2.2.2.2.2.2.2.2.2.2.2.2.2.2.2.2.2.2.2) some)) (some (.inr (.inl (y292,y293,y294,y295,y296,y297,y298,y299,y300,y301,y302,y303,y304,y305,y306,y307,y308,y309,y310,y311,y312,y313,y314))))
def zep.k9 (y223:Int) (y224:Int) (y225:List (List Int)) (y226:List (List Int)) (y227:Int) (y228:Bool) (y229:List Int) (y230:Int) (y231:Int) (y232:Int) (y233:Int) (y234:Int) (y235:Int) (y236:Int) (y237:Int) (y238:Int) (y239:List zaa) (y240:Int) (y241:Int) (y242:Int) (y243:Int) (y244:Int) (y245:List zaa):Option (zae×zag×Int) :=
 some ((⟨(⟨(⟨y223,y224,y225,y226⟩:zab),y227,y228,(⟨y229,y230⟩:zay),(⟨y231,y232,y233⟩:zbl),y234,y235,y236,y237⟩:zad),(⟨y238,y239⟩:zan),y240,y241,y242,y243⟩:zae),(⟨y244,y245⟩:zag),0)
def zep (q_:zae) (b_:za2):Option (zae×zag×Int) :=
 (zem b_).bind fun c51=>cond (decide (c51≠0)) (some (q_,(⟨0,[]⟩:zag),c51)) (cond (decide (b_.M.Inputs≠q_.Obs.Inputs)) (some (q_,(⟨0,[]⟩:zag),15)) ((iter (fun (s:Int×Int×List (List Int)×List (List Int)×Int×Bool×List Int×Int×Int×Int×Int×Int×Int×Int×Int×Int×List zaa×Int×Int×Int×Int×Int×List zaa×Nat)=>zep.s8 b_ s.1 s.2.1 s.2.2.1 s.2.2.2.1 s.2.2.2.2.1 s.2.2.2.2.2.1 s.2.2.2.2.2.2.1 s.2.2.2.2.2.2.2.1 s.2.2.2.2.2.2.2.2.1 s.2.2.2.2.2.2.2.2.2.1 s.2.2.2.2.2.2.2.2.2.2.1 s.2.2.2.2.2.2.2.2.2.2.2.1 s.2.2.2.2.2.2.2.2.2.2.2.2.1 s.2.2.2.2.2.2.2.2.2.2.2.2.2.1 s.2.2.2.2.2.2.2.2.2.2.2.2.2.2.1 s.2.2.2.2.2.2.2.2.2.2.2.2.2.2.2.1 s.2.2.2.2.2.2.2.2.2.2.2.2.2.2.2.2.1 s.2.2.2.2.2.2.2.2.2.2.2.2.2.2.2.2.2.1 s.2.2.2.2.2.2.2.2.2.2.2.2.2.2.2.2.2.2.1 s.2.2.2.2.2.2.2.2.2.2.2.2.2.2.2.2.2.2.2.1 s.2.2.2.2.2.2.2.2.2.2.2.2.2.2.2.2.2.2.2.2.1 s.2.2.2.2.2.2.2.2.2.2.2.2.2.2.2.2.2.2.2.2.2.1 s.2.2.2.2.2.2.2.2.2.2.2.2.2.2.2.2.2.2.2.2.2.2.1 s.2.2.2.2.2.2.2.2.2.2.2.2.2.2.2.2.2.2.2.2.2.2.2) fuel (q_.Device.M.Inputs,q_.Device.M.Start,q_.Device.M.Next,q_.Device.M.Out,q_.Device.State,q_.Device.Ready,q_.Device.Latency.Step,q_.Device.Latency.Reset,q_.Device.Faults.Lost,q_.Device.Faults.Wrong,q_.Device.Faults.Crash,q_.Device.Seed,q_.Device.Steps,q_.Device.Resets,q_.Device.Time,q_.Obs.Inputs,q_.Obs.Traces,q_.Votes,q_.Tries,q_.Asked,q_.Hits,0,[],0):Option ((Int×Int×List (List Int)×List (List Int)×Int×Bool×List Int×Int×Int×Int×Int×Int×Int×Int×Int×Int×List zaa×Int×Int×Int×Int×Int×List zaa)⊕(zae×zag×Int))).bind (Sum.elim (fun (s:Int×Int×List (List Int)×List (List Int)×Int×Bool×List Int×Int×Int×Int×Int×Int×Int×Int×Int×Int×List zaa×Int×Int×Int×Int×Int×List zaa)=>zep.k9 s.1 s.2.1 s.2.2.1 s.2.2.2.1 s.2.2.2.2.1 s.2.2.2.2.2.1 s.2.2.2.2.2.2.1 s.2.2.2.2.2.2.2.1 s.2.2.2.2.2.2.2.2.1 s.2.2.2.2.2.2.2.2.2.1 s.2.2.2.2.2.2.2.2.2.2.1 s.2.2.2.2.2.2.2.2.2.2.2.1 s.2.2.2.2.2.2.2.2.2.2.2.2.1 s.2.2.2.2.2.2.2.2.2.2.2.2.2.1 s.2.2.2.2.2.2.2.2.2.2.2.2.2.2.1 s.2.2.2.2.2.2.2.2.2.2.2.2.2.2.2.1 s.2.2.2.2.2.2.2.2.2.2.2.2.2.2.2.2.1 s.2.2.2.2.2.2.2.2.2.2.2.2.2.2.2.2.2.1 s.2.2.2.2.2.2.2.2.2.2.2.2.2.2.2.2.2.2.1 s.2.2.2.2.2.2.2.2.2.2.2.2.2.2.2.2.2.2.2.1 s.2.2.2.2.2.2.2.2.2.2.2.2.2.2.2.2.2.2.2.2.1 s.2.2.2.2.2.2.2.2.2.2.2.2.2.2.2.2.2.2.2.2.2.1 s.2.2.2.2.2.2.2.2.2.2.2.2.2.2.2.2.2.2.2.2.2.2) some)))
def zoy (a_:List Int) (b_:List Int):Option (Bool) :=
 (cond (decide ((↑(List.length a_):Int)=(↑(List.length b_):Int))) ((zdt a_ b_).bind fun c57=>some (decide (c57=(↑(List.length a_):Int)))) (some false):Option (Bool)).bind (fun (y55:Bool)=>some y55)
def zn3 (a_:zab) (b_:zab):Option (Bool) :=
 (cond (decide (a_.Inputs=b_.Inputs)) (cond (decide (a_.Start=b_.Start)) ((zeu a_.Next b_.Next).bind fun c61=>cond (c61) ((zeu a_.Out b_.Out).bind fun c63=>some c63) (some false)) (some false)) (some false):Option (Bool)).bind (fun (y58:Bool)=>some y58)
def zok (a_:zad) (b_:zad):Option (Bool) :=
 ((zn3 a_.M b_.M).bind fun c65=>cond (c65) (cond (decide (a_.State=b_.State)) (cond ((a_.Ready==b_.Ready)) ((zoy a_.Latency.Step b_.Latency.Step).bind fun c69=>cond (c69) (cond (decide (a_.Latency.Reset=b_.Latency.Reset)) (cond ((decide (a_.Faults.Lost=b_.Faults.Lost)&&(decide (a_.Faults.Wrong=b_.Faults.Wrong)&&(decide (a_.Faults.Crash=b_.Faults.Crash)&&true)))) (cond (decide (a_.Seed=b_.Seed)) (cond (decide (a_.Steps=b_.Steps)) (cond (decide (a_.Resets=b_.Resets)) (some (decide (a_.Time=b_.Time))) (some false)) (some false)) (some false)) (some false)) (some false)) (some false)) (some false)) (some false)) (some false):Option (Bool)).bind (fun (y64:Bool)=>some y64)
def zch.s2 (a_:List zaa) (b_:List zaa) (i141:Nat):Option (Nat⊕(Unit⊕Bool)) :=
 cond (decide ((↑i141:Int)<(↑(List.length a_):Int))) ((idxn a_ i141 fun e175=>idxn b_ i141 fun e176=>(zeg e175.In e176.In).bind fun c177=>cond ((!c177)) (some true) (idxn a_ i141 fun e179=>idxn b_ i141 fun e180=>(zeg e179.Out e180.Out).bind fun c181=>some (!c181)):Option (Bool)).bind (fun (y174:Bool)=>cond (y174) (some (.inr (.inr false))) (some (.inl (i141+1))))) (some (.inr (.inl ())))
def zch (a_:List zaa) (b_:List zaa):Option (Bool) :=
 cond (decide ((↑(List.length a_):Int)≠(↑(List.length b_):Int))) (some false) ((iter (fun (s:Nat)=>zch.s2 a_ b_ s) fuel 0:Option (Unit⊕Bool)).bind (Sum.elim (fun (_:Unit)=>some true) some))
def zn0 (a_:zan) (b_:zan):Option (Bool) :=
 (cond (decide (a_.Inputs=b_.Inputs)) ((zch a_.Traces b_.Traces).bind fun c57=>some c57) (some false):Option (Bool)).bind (fun (y55:Bool)=>some y55)
def zos (a_:zae) (b_:zae):Option (Bool) :=
 ((zok a_.Device b_.Device).bind fun c61=>cond (c61) ((zn0 a_.Obs b_.Obs).bind fun c63=>cond (c63) (cond (decide (a_.Votes=b_.Votes)) (cond (decide (a_.Tries=b_.Tries)) (cond (decide (a_.Asked=b_.Asked)) (some (decide (a_.Hits=b_.Hits))) (some false)) (some false)) (some false)) (some false)) (some false):Option (Bool)).bind (fun (y60:Bool)=>some y60)
def zgj (a_:zag) (b_:zag):Option (Bool) :=
 (cond (decide (a_.Run=b_.Run)) ((zch a_.Changes b_.Changes).bind fun c57=>some c57) (some false):Option (Bool)).bind (fun (y55:Bool)=>some y55)
def zfy (q_:zae) (b_:za2):Option (Bool) :=
 ((zli q_).bind fun c61=>cond (c61) (some true) ((zlx b_.M).bind fun c63=>cond (c63) (some true) ((zf6 b_.Words).bind fun c65=>cond (c65) (some true) ((zln q_).bind fun c67=>some (!c67)))):Option (Bool)).bind (fun (y60:Bool)=>cond (y60) ((zlu).bind fun c69=>some c69) ((zbc q_ b_).bind fun c70=>(zep q_ b_).bind fun c71=>((zos c70.1 c71.1).bind fun c81=>cond (c81) ((zgj c70.2.1 c71.2.1).bind fun c83=>cond (c83) (cond (decide (c70.2.2=c71.2.2)) ((zlu).bind fun c86=>some c86) (some false)) (some false)) (some false):Option (Bool)).bind (fun (y80:Bool)=>some y80)))
end
section
section
variable {S R A B α β:Type}
theorem zc2 {step:S→Option (S⊕R)} (I:S→Prop) (m:S→Nat) (Q:R→Prop) (h:∀ s,I s→(∃ s',step s=some (.inl s')∧I s'∧m s'<m s)∨∃ r,step s=some (.inr r)∧Q r) :
  ∀ (n:Nat) (s:S),I s→m s<n→∃ r,iter step n s=some r∧Q r
 | 0,_,_,hm=>absurd hm (Nat.not_lt_zero _)
 | n+1,s,hi,hm=>by
  unfold iter;rcases h s hi with ⟨s',e,hi',hm'⟩ | ⟨r,e,hq⟩
  ·rw [e];exact zc2 I m Q h n s' hi' (by omega)
  ·rw [e];exact ⟨r,rfl,hq⟩
theorem zpa {step:S→Option (S⊕R)} {r:R} (I:S→Prop) (m:S→Nat) (h:∀ s,I s→(∃ s',step s=some (.inl s')∧I s'∧m s'<m s)∨step s=some (.inr r)) {n:Nat} {s:S} (hi:I s) (hm:m s<n):iter step n s=some r:=by
 obtain ⟨r',e,rfl⟩:=zc2 I m (fun r'=>r'=r) (fun s hs=>(h s hs).imp id fun e=>⟨r,e,rfl⟩) n s hi hm;exact e
def walk (g:A→Nat→α→Option (A⊕R)) (fin:A→Option R):A→Nat→List α→Option R
 | a,_,[]=>fin a
 | a,i,x::l=>(g a i x).bind (Sum.elim (fun a'=>walk g fin a' (i+1) l) some)
theorem za3 {l:List α} {i:Nat} {x:α} {k:α→Option β} (h:l[i]?=some x):idxn l i k=k x:=by unfold idxn;rw [h]
theorem zd0 {l:List α} {n:Int} {i:Nat} {x:α} {k:α→Option β} (hn:n=(i:Int)) (h:l[i]?=some x):idx l n k=k x:=by
 subst hn;unfold idx;rw [if_pos (by omega),Int.toNat_natCast,h]
theorem zau {c:Prop} [Decidable c] {k:Option α} (h:c):chk c k=k:=by unfold chk;rw [if_pos h]
theorem zaq {a:α} {f:α→Option β}:(some a).bind f=f a:=(Option.bind_some a f).trans (Eq.trans rfl rfl)
theorem zcb:100000000000000<fuel:=by unfold fuel;omega
theorem zdj {l:List α} {i:Nat} {x:α} (h:l[i]?=some x):decide ((↑i:Int)<(↑l.length:Int))=true:=by
 have:=(zkI.1 h).1;simpa using this
theorem zc8 (l:List α):decide ((↑l.length:Int)<(↑l.length:Int))=false:=by simp
def scan (g:Nat→α→Option R):Nat→List α→Option R
 | _,[]=>none
 | i,x::l=>match g i x with | some r=>some r | none=>scan g (i+1) l
theorem zis {g:Nat→α→Option R}:∀ {l:List α} {j:Nat},scan g j l=none↔∀ i x,l[i]?=some x→g (j+i) x=none
 | [],j=>by simp [scan]
 | y::l,j=>by
  constructor
  ·intro h i x hx;unfold scan at h;cases e:g j y with
   | some r=>rw [e] at h;cases h
   | none =>
    rw [e] at h
    match i,hx with
    | 0,hx =>
     simp at hx;subst hx;exact e
    | i+1,hx =>
     have:=(zis (g:=g) (l:=l) (j:=j+1)).1 h i x (by simpa using hx)
     rwa [show j+1+i=j+(i+1) by omega] at this
  ·intro h;unfold scan;have h0:=h 0 y rfl;rw [Nat.add_zero] at h0;rw [h0]
   exact (zis (g:=g) (l:=l) (j:=j+1)).2 fun i x hx=>by
    have:=h (i+1) x (by simpa using hx)
    rwa [show j+(i+1)=j+1+i by omega] at this
theorem zdl {step:Nat→Option (Nat⊕(Unit⊕R))} {l:List α} (g:Nat→α→Option R) (h1:∀ i x,l[i]?=some x→step i=some (match g i x with | some r=>.inr (.inr r) | none=>.inl (i+1))) (h2:step l.length=some (.inr (.inl ()))) (hl:l.length≤100000000000000) :
  iter step fuel 0=some (match scan g 0 l with | some r=>.inr r | none=>.inl ()):=by
 have key:∀ (n i:Nat),i≤l.length→l.length-i<n→iter step n i=some (match scan g i (l.drop i) with | some r=>.inr r | none=>.inl ()):=by
  intro n
  induction n with
  | zero=>intro i _ h;omega
  | succ n ih =>
   intro i hi hn;rcases Nat.lt_or_ge i l.length with h | h
   ·rw [List.drop_eq_getElem_cons h];unfold iter scan;rw [h1 i _ (zkM h)];cases g i l[i] with
    | some r=>rfl
    | none=>exact ih (i+1) h (by omega)
   ·have e:i=l.length:=by omega
    subst e;rw [List.drop_length];unfold iter scan;rw [h2]
 exact key fuel 0 (Nat.zero_le _) (by have:=zcb;omega)
end
end
section
open Go.RowKit
set_option maxRecDepth 100000
theorem zi7 (x y:Int):cmp_Compare_int x y=some (cmpI x y):=by
 unfold cmp_Compare_int cmp_isNaN_int cmpI;by_cases h1:x<y
 ·simp [h1]
 ·by_cases h2:y<x<;>simp [h1,h2]
theorem zj1 (s t:List Int) (hs:s.length≤100000000000000):zbh s t=some (lexI s t):=by
 have key:=zc2 (step:=fun k=>zbh.s2 s t k) (fun k=>k≤s.length∧k≤t.length∧lexI s t=lexI (s.drop k) (t.drop k)) (fun k=>s.length-k)
  (fun r=>Sum.elim (fun (_:Unit)=>cond (decide ((↑(List.length s):Int)<(↑(List.length t):Int))) (some (-1:Int)) (some 0)) some r=some (lexI s t)) (fun k ⟨h1,h2,h3⟩=>by
   unfold zbh.s2
   rcases Nat.lt_or_ge k s.length with h | h
   ·have hx:=zkM h
    rw [zdj hx,zkD,za3 hx]
    by_cases h4:t.length≤k
    ·right
     refine ⟨.inr 1,by simp [h4],?_⟩
     rw [h3,lexI_long h h4]
     rfl
    ·have hy:=zkM (show k<t.length by omega)
     have hst:=lexI_step hx hy
     have d4:decide ((↑(List.length t):Int)≤(↑k:Int))=false:=by simp;omega
     rw [d4,zkC,za3 hy,zi7]
     by_cases h5:cmpI s[k] t[k]=0
     ·left
      rw [if_pos h5] at hst
      exact ⟨k+1,by simp [h5],⟨by omega,by omega,by rw [h3,hst]⟩,by omega⟩
     ·right
      rw [if_neg h5] at hst
      exact ⟨.inr (cmpI s[k] t[k]),by simp [h5],by rw [h3,hst];rfl⟩
   ·right
    have e:k=s.length:=by omega
    subst e
    rw [zc8,zkC]
    refine ⟨.inl (),rfl,?_⟩
    rw [h3,lexI_end (Nat.le_refl _)]
    by_cases h4:s.length<t.length<;>simp [h4]) fuel 0 ⟨Nat.zero_le _,Nat.zero_le _,rfl⟩ (by have:=zcb;simp only [Nat.sub_zero];omega)
 obtain ⟨r,e,hq⟩:=key;unfold zbh;rw [e];exact hq
theorem cmp_Or_two (x y:Int):zd6 [x,y]=some (if x≠0 then x else y):=by
 unfold zd6;have e:fuel=(fuel-3)+1+1+1:=by unfold fuel;omega
 rw [e];by_cases h1:x=0
 ·by_cases h2:y=0
  ·simp [iter,zd6.s2,idxn,h1,h2]
  ·simp [iter,zd6.s2,idxn,h1,h2]
 ·simp [iter,zd6.s2,idxn,h1]
theorem word_Lex_eq (s t:List Int) (hs:s.length≤100000000000000):zkg s t=some (lexI s t):=by
 unfold zkg;rw [zj1 s t hs];rfl
theorem zlp (s t:List Int) (hs:s.length≤100000000000000):zff s t=some (cmpW s t):=by
 unfold zff;rw [zj1 s t hs,zi7];show (zd6 [cmpI s.length t.length,lexI s t]).bind some=_;rw [cmp_Or_two];show some _=some _;congr 1;unfold cmpI cmpW;by_cases h1:s.length<t.length
 ·simp [h1]
 ·by_cases h2:t.length<s.length
  ·simp [h1,h2]
  ·simp [h1,h2]
theorem cmpE_word_Lex:CmpE Tryz.prog 122 (fun x=>nL cI x) (fun x y=>zkg x y) :=
 ⟨fun args w=>zgk rfl rfl rfl args w,cmpG_lex fun x y r hx h=>by rw [word_Lex_eq x y (by omega)] at h;injection h with h;exact h.symm⟩
theorem zpm:CmpE Tryz.prog 135 (fun x=>nL cI x) (fun x y=>zff x y) :=
 ⟨fun args w=>zgk rfl rfl rfl args w,cmpG_compare fun x y r hx h=>by rw [zlp x y (by omega)] at h;injection h with h;exact h.symm⟩
end
end Go.Proofs.YtcneaiejdidooaaGreatDoor.Sym

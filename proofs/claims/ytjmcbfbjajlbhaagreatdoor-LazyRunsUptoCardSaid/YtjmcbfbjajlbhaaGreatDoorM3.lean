/- Parts of the proof. -/
import Derived.Test.YtjmcbfbjajlbhaaGreatDoorM2
import Derived.WalkSmall
import Derived.Shelf.SlSortCmp.Whole1
import Derived.Shelf.SlSortCmp.WholeK
import Derived.Shelf.SlGeneric
import Derived.Ground.SlsfProg
import Derived.Lib.AppendZerosOnto
import Derived.Lib.Overlaps
import Derived.Lib.Walk
import Derived.Shelf.RegionOpenPlain
import Derived.Laws.NewBlocks
import Derived.Deep.WholeRow
set_option linter.all false
set_option maxRecDepth 100000
set_option maxHeartbeats 4000000
open Go.RowKit
namespace Go.Proofs.YtjmcbfbjajlbhaaGreatDoor
def cmpI(x y:Int):Int:=if x<y then -1 else if y<x then 1 else 0
def FT(x y:Int)(w:World) :
  Calls Tryz.prog 128 #[.int .i64 x,.int .i64 y] w λe w'=>e=.returned (.int .i64 (cmpI x y))/\w=w':=by
 by_cases h1:x<y
 ·go_enter Tryz.func128,Tryz.ntmps128
  go_wp2
  go_ret
  exact⟨jN (by unfold cmpI;rw[if_pos h1]),rfl⟩
 ·by_cases h2:y<x
  ·go_enter Tryz.func128,Tryz.ntmps128
   go_wp2
   go_ret
   exact⟨jN (by unfold cmpI;rw[if_neg (by omega),if_pos h2]),rfl⟩
  ·go_enter Tryz.func128,Tryz.ntmps128
   go_wp2
   go_ret
   exact⟨jN (by unfold cmpI;rw[if_neg (by omega),if_neg (by omega)]),rfl⟩
def lexI_step{xs ys:List Int}{k:Nat}{x y:Int}(hx:xs[k]?=some x)(hy:ys[k]?=some y) :
  lexI (xs.drop k) (ys.drop k)=if cmpI x y=0 then lexI (xs.drop (k+1)) (ys.drop (k+1)) else cmpI x y:=by
 obtain⟨h1,a3⟩:=List.getElem?_eq_some_iff.1 hx;obtain⟨h2,a2⟩:=List.getElem?_eq_some_iff.1 hy;rw[List.drop_eq_getElem_cons h1,List.drop_eq_getElem_cons h2,a3,a2];simp only[lexI,cmpI];by_cases a:x<y
 ·simp[a]
 ·by_cases b:y<x
  ·simp[a,b]
  ·simp[a,b]
def lexI_long{xs ys:List Int}{k:Nat}(h1:k<xs.length)(h2:ys.length<=k):lexI (xs.drop k) (ys.drop k)=1:=by
 rw[List.drop_eq_getElem_cons h1,List.drop_eq_nil_of_le h2];rfl
def lexI_end{xs ys:List Int}{k:Nat}(h1:xs.length<=k):lexI (xs.drop k) (ys.drop k)=if k<ys.length then -1 else 0:=by
 rw[List.drop_eq_nil_of_le h1];by_cases h2:k<ys.length
 ·rw[if_pos h2,List.drop_eq_getElem_cons h2];rfl
 ·rw[if_neg h2,List.drop_eq_nil_of_le (by omega)];rfl
set_option maxHeartbeats 800000 in
def KW{A B:Option Addr}{n c m c':Nat}{xs ys:List Int}{w:World}(hx:T0 w cU A n c xs)(hy:T0 w cU B m c' ys) :
  Calls Tryz.prog 129 #[.slice A n c,.slice B m c'] w λe w'=>e=.returned (.int .i64 (lexI xs ys))/\w=w':=by
 have hn:=hx.small;have hm:=hy.small;have HL:=Lib.hid (And.intro hx.len hy.len)
 go_enter Tryz.func129,Tryz.ntmps129
 go_wp2
 go_loop [5,6,7,8,11] (λ_ _ _ _ i=>∃k:Nat,k<=n/\k<=m/\i=.int .i64 k/\Hid (lexI xs ys=lexI (xs.drop k) (ys.drop k))) (λ_ _ _ _ i=>n-(intOf i).toNat)
 case atStart=>exact⟨0,by omega,by omega,rfl,Lib.hid (by simp)⟩
 case round =>
  obtain⟨k,hk,a8,rfl,HT⟩:=hrel;by_cases h1:k<n
  ·obtain⟨b,o,x,rfl,a5,a7⟩:=hx.int_at h1;have HX:=Lib.hid a5;clear a5;by_cases h2:k<m
   ·obtain⟨b',o',y,rfl,a4,a6⟩:=hy.int_at h2;have HY:=Lib.hid a4;clear a4;have a2:=lexI_step HX.out HY.out;by_cases h3:cmpI x y=0
    ·rw[if_pos h3]at a2;have a3:=Lib.hid a2;have d3:(cmpI x y != 0)=false:=by simp[h3]
     have H3:=Lib.hid h3;clear h3 a2
     go_wp2_with (go_at_call 128;refine(FT _ _ _).mono ?_;rintro e w' ⟨rfl,rfl⟩)
     go_round
     case rel=>exact⟨k+1,by omega,by omega,by go_num,Lib.hid (by rw[HT.out,a3.out])⟩
     case measure=>simp[intOf];omega
    ·rw[if_neg h3]at a2;have a3:=Lib.hid a2;have d3:(cmpI x y != 0)=true:=by simp[h3]
     clear h3 a2
     go_wp2_with (go_at_call 128;refine(FT _ _ _).mono ?_;rintro e w' ⟨rfl,rfl⟩)
     go_ret
     exact⟨jN (by rw[HT.out,a3.out]),rfl⟩
   ·go_wp2
    go_ret
    obtain⟨h3,h4⟩:=HL.out;exact⟨jN (by rw[HT.out,lexI_long (by omega) (by omega)]),rfl⟩
  ·obtain⟨h3,h4⟩:=HL.out;have HE:=Lib.hid (lexI_end (xs:=xs) (ys:=ys) (k:=k) (by omega));clear h3 h4;by_cases h2:n<m
   ·go_wp2
    go_ret
    obtain⟨h3,h4⟩:=HL.out;exact⟨jN (by rw[HT.out,HE.out,if_pos (by omega)]),rfl⟩
   ·go_wp2
    go_ret
    obtain⟨h3,h4⟩:=HL.out;exact⟨jN (by rw[HT.out,HE.out,if_neg (by omega)]),rfl⟩
def zq39{A B:Option Addr}{n c m c':Nat}{xs ys:List Int}{w:World}(hx:T0 w cU A n c xs)(hy:T0 w cU B m c' ys) :
  Calls Tryz.prog 89 #[.slice A n c,.slice B m c'] w λe w'=>e=.returned (.int .i64 (lexI xs ys))/\w=w':=by
 go_enter Tryz.func89,Tryz.ntmps89
 go_wp2_with (go_at_call 129;refine(KW hx hy).mono ?_;rintro e w' ⟨rfl,rfl⟩)
 go_ret
 exact⟨rfl,rfl⟩
def orI(xs:List Int):Int:=(xs.find? λa=>a != 0).getD 0
set_option maxHeartbeats 400000 in
def cmpOr_any{A:Option Addr}{n c:Nat}{xs:List Int}{w:World}(hx:T0 w cU A n c xs) :
  Calls Tryz.prog 127 #[.slice A n c] w λe w'=>e=.returned (.int .i64 (orI xs))/\w=w':=by
 have a5:=hx.small;have HL:=Lib.hid hx.len
 go_enter Tryz.func127,Tryz.ntmps127
 go_wp2
 go_loop [5,8] (λ_ i=>∃k:Nat,k<=n/\i=.int .i64 k/\Hid (((xs.take k).find? λa=>a != 0)=none)) (λ_ i=>n-(intOf i).toNat)
 case atStart=>exact⟨0,by omega,rfl,Lib.hid (by simp)⟩
 case round =>
  obtain⟨k,hk,rfl,HT⟩:=hrel;by_cases h1:k<n
  ·obtain⟨b,o,x,rfl,a2,a4⟩:=hx.int_at h1;have HX:=Lib.hid a2;clear a2;by_cases h2:x=0
   ·have d2:(x != 0)=false:=by simp[h2]
    have H2:=Lib.hid h2;clear h2
    go_wp2
    go_round
    case rel=>exact⟨k+1,by omega,by go_num,Lib.hid (by rw[L9 HX.out,List.find?_append,HT.out,H2.out];rfl)⟩
    case measure=>simp[intOf]<;>omega
   ·have d2:(x != 0)=true:=by simp[h2]
    go_wp2
    go_ret
    refine⟨jN ?_,rfl⟩;have a3:=List.take_append_drop (k+1) xs;unfold orI;rw[<- a3,List.find?_append,L9 HX.out,List.find?_append,HT.out];simp[h2]
  ·go_wp2
   go_ret
   have ht:=HT.out;rw[List.take_of_length_le (by rw[HL.out];omega)]at ht;exact⟨jN (by unfold orI;rw[ht];rfl),rfl⟩
def orI_cmp(xs ys:List Int):orI [cmpI xs.length ys.length,lexI xs ys]=cmpW xs ys:=by
 unfold orI cmpI cmpW;by_cases h1:xs.length<ys.length
 ·rw[if_pos (by omega),if_pos h1];rfl
 ·by_cases h2:ys.length<xs.length
  ·rw[if_neg (by omega),if_pos (by omega),if_neg h1,if_pos h2];rfl
  ·rw[if_neg (by omega),if_neg (by omega),if_neg h1,if_neg h2];by_cases h3:lexI xs ys=0
   ·simp[h3]
   ·simp[h3]
def src_two{w:World}(x y:Value)(t:TypeId):Src (w.alloc (.cells #[x,y] t)) (some ⟨w.heap.size,0,none⟩) 2 [x,y] :=
 ⟨rfl,λ_=>⟨_,_,rfl,λj u hu=>by
  have:=cell_two_new w x y t j u hu
  rwa [addr_add]at this⟩⟩
def ints_row{w:World}(x y:Int)(t:TypeId):T0 (w.alloc (.cells #[.int .i64 x,.int .i64 y] t)) cU (some ⟨w.heap.size,0,none⟩) 2 2 [x,y]:=by
 refine⟨rfl,Nat.le_refl _,by omega,λ_=>⟨_,_,rfl,λi z hz=>?_⟩⟩;obtain⟨_,hc⟩:=src_two (w:=w) (.int .i64 x) (.int .i64 y) t;obtain⟨b,o,e,a2⟩:=hc (by omega);injection e with e
 injection e with e1 e2
 subst e1 e2
 match i,hz with
 |0,hz =>
  simp at hz;subst hz;exact⟨_,a2 0 _ rfl,rfl⟩
 |1,hz =>
  simp at hz;subst hz;exact⟨_,a2 1 _ rfl,rfl⟩
set_option maxHeartbeats 400000 in
def zz2{A B:Option Addr}{n c m c':Nat}{xs ys:List Int}{w:World}(hx:T0 w cU A n c xs)(hy:T0 w cU B m c' ys) :
  Calls Tryz.prog 72 #[.slice A n c,.slice B m c'] w λe w'=>e=.returned (.int .i64 (cmpW xs ys))/\w.alloc (.cells #[.int .i64 (cmpI xs.length ys.length),.int .i64 (lexI xs ys)] 3)=w':=by
 have hn:=hx.small;have hm:=hy.small;have a2:=Lib.hid (KW hx hy);have HE:=Lib.hid (orI_cmp xs ys);have h1:=hx.len;have h2:=hy.len;have HO:=Lib.hid (λt=>cmpOr_any (ints_row (w:=w) (cmpI xs.length ys.length) (lexI xs ys) t));rw[h1,h2]at HE HO;rw[h1,h2];clear h1 h2 hx hy
 go_enter Tryz.func72,Tryz.ntmps72
 go_wp2_with (first|(go_at_call 128;refine(FT _ _ _).mono ?_;rintro e w' ⟨rfl,rfl⟩)|(go_at_call 129;refine a2.out.mono ?_;rintro e w' ⟨rfl,rfl⟩)|(go_at_call 127;refine(HO.out _).mono ?_;rintro e w' ⟨rfl,rfl⟩))
 go_ret
 exact⟨jN HE.out,rfl⟩
end Go.Proofs.YtjmcbfbjajlbhaaGreatDoor
namespace Go.Proofs
section
open Go.Shelf
def Tryz.sortW_ren:Go.Shelf.Ren:=⟨fun|6=>142|15=>182|14=>191|28=>218|29=>219|20=>221|21=>222|22=>223|23=>224|24=>225|25=>226|26=>227|27=>228|46=>239|47=>234|48=>235|49=>240|50=>241|57=>248|n=>n,fun|22=>22|24=>46|25=>142|3=>3|39=>199|0=>0|53=>267|55=>269|4=>4|46=>261|45=>260|50=>140|5=>5|9=>9|66=>278|70=>282|76=>287|77=>252|n=>n,fun|n=>n⟩
def Tryz.sortW:Go.Proofs.SlLaysF.n6 Tryz.prog Tryz.sortW_ren:={
 mixed:=by kernel_rfl
 f6:=⟨Tryz.f142.name,by decide,Tryz.func142.trans (congrArg some (by kernel_rfl))⟩
 f14:=⟨Tryz.f191.name,by decide,Tryz.func191.trans (congrArg some (by kernel_rfl))⟩
 f15:=Tryz.func182.trans (congrArg some (by kernel_rfl))
 f20:=⟨Tryz.f221.name,by decide,Tryz.func221.trans (congrArg some (by kernel_rfl))⟩
 f21:=⟨Tryz.f222.name,by decide,Tryz.func222.trans (congrArg some (by kernel_rfl))⟩
 f22:=⟨Tryz.f223.name,by decide,Tryz.func223.trans (congrArg some (by kernel_rfl))⟩
 f23:=⟨Tryz.f224.name,by decide,Tryz.func224.trans (congrArg some (by kernel_rfl))⟩
 f24:=⟨Tryz.f225.name,by decide,Tryz.func225.trans (congrArg some (by kernel_rfl))⟩
 f25:=⟨Tryz.f226.name,by decide,Tryz.func226.trans (congrArg some (by kernel_rfl))⟩
 f26:=⟨Tryz.f227.name,by decide,Tryz.func227.trans (congrArg some (by kernel_rfl))⟩
 f27:=⟨Tryz.f228.name,by decide,Tryz.func228.trans (congrArg some (by kernel_rfl))⟩
 f28:=Tryz.func218.trans (congrArg some (by kernel_rfl))
 f29:=Tryz.func219.trans (congrArg some (by kernel_rfl))
 f46:=⟨Tryz.f239.name,by decide,Tryz.func239.trans (congrArg some (by kernel_rfl))⟩
 f47:=Tryz.func234.trans (congrArg some (by kernel_rfl))
 f48:=Tryz.func235.trans (congrArg some (by kernel_rfl))
 f49:=⟨Tryz.f240.name,by decide,Tryz.func240.trans (congrArg some (by kernel_rfl))⟩
 f50:=⟨Tryz.f241.name,by decide,Tryz.func241.trans (congrArg some (by kernel_rfl))⟩
 f57:=⟨Tryz.f248.name,by decide,Tryz.func248.trans (congrArg some (by kernel_rfl))⟩
 t0:=Tryz.underlying0
 a0:=Tryz.isAgg0
 z0:=Tryz.sizeOf0
 v0:=Tryz.zeroValue0
 t3:=Tryz.underlying3
 a3:=Tryz.isAgg3
 z3:=Tryz.sizeOf3
 v3:=Tryz.zeroValue3
 t4:=Tryz.underlying4
 a4:=Tryz.isAgg4
 z4:=Tryz.sizeOf4
 v4:=Tryz.zeroValue4
 t5:=Tryz.underlying5
 a5:=Tryz.isAgg5
 z5:=Tryz.sizeOf5
 v5:=Tryz.zeroValue5
 t9:=Tryz.underlying9
 a9:=Tryz.isAgg9
 z9:=Tryz.sizeOf9
 v9:=Tryz.zeroValue9
 t22:=Tryz.underlying22
 a22:=Tryz.isAgg22
 z22:=Tryz.sizeOf22
 v22:=Tryz.zeroValue22
 a24:=Tryz.isAgg46
 z24:=Tryz.sizeOf46
 t25:=Tryz.underlying142
 a25:=Tryz.isAgg142
 z25:=Tryz.sizeOf142
 v25:=Tryz.zeroValue142
 t39:=Tryz.underlying199
 a39:=Tryz.isAgg199
 z39:=Tryz.sizeOf199
 v39:=Tryz.zeroValue199
 t45:=Tryz.underlying260
 a45:=Tryz.isAgg260
 z45:=Tryz.sizeOf260
 v45:=Tryz.zeroValue260
 t46:=Tryz.underlying261
 a46:=Tryz.isAgg261
 z46:=Tryz.sizeOf261
 v46:=Tryz.zeroValue261
 t50:=Tryz.underlying140
 a50:=Tryz.isAgg140
 z50:=Tryz.sizeOf140
 v50:=Tryz.zeroValue140
 t53:=Tryz.underlying267
 a53:=Tryz.isAgg267
 z53:=Tryz.sizeOf267
 v53:=Tryz.zeroValue267
 t55:=Tryz.underlying269
 a55:=Tryz.isAgg269
 z55:=Tryz.sizeOf269
 v55:=Tryz.zeroValue269
 t66:=Tryz.underlying278
 a66:=Tryz.isAgg278
 z66:=Tryz.sizeOf278
 v66:=Tryz.zeroValue278
 t70:=Tryz.underlying282
 a70:=Tryz.isAgg282
 z70:=Tryz.sizeOf282
 v70:=Tryz.zeroValue282
 t76:=Tryz.underlying287
 a76:=Tryz.isAgg287
 z76:=Tryz.sizeOf287
 v76:=Tryz.zeroValue287
 t77:=Tryz.underlying252
 a77:=Tryz.isAgg252
 z77:=Tryz.sizeOf252
 v77:=Tryz.zeroValue252 }
def Tryz.sortF_ren:Go.Shelf.Ren:=⟨fun|14=>181|20=>210|21=>211|22=>212|23=>213|24=>214|25=>215|26=>216|27=>217|46=>233|47=>234|48=>235|49=>236|50=>237|15=>182|57=>243|28=>218|29=>219|n=>n,fun|24=>48|22=>29|3=>3|25=>175|4=>4|0=>0|46=>261|45=>260|50=>140|66=>278|39=>199|55=>269|70=>282|76=>287|77=>252|53=>267|5=>5|9=>9|n=>n,fun|n=>n⟩
def Tryz.sortF:Go.Proofs.SlLaysF0.n14 Tryz.prog Tryz.sortF_ren:={
 mixed:=by kernel_rfl
 f14:=⟨Tryz.f181.name,by decide,Tryz.func181.trans (congrArg some (by kernel_rfl))⟩
 f15:=Tryz.func182.trans (congrArg some (by kernel_rfl))
 f20:=⟨Tryz.f210.name,by decide,Tryz.func210.trans (congrArg some (by kernel_rfl))⟩
 f21:=⟨Tryz.f211.name,by decide,Tryz.func211.trans (congrArg some (by kernel_rfl))⟩
 f22:=⟨Tryz.f212.name,by decide,Tryz.func212.trans (congrArg some (by kernel_rfl))⟩
 f23:=⟨Tryz.f213.name,by decide,Tryz.func213.trans (congrArg some (by kernel_rfl))⟩
 f24:=⟨Tryz.f214.name,by decide,Tryz.func214.trans (congrArg some (by kernel_rfl))⟩
 f25:=⟨Tryz.f215.name,by decide,Tryz.func215.trans (congrArg some (by kernel_rfl))⟩
 f26:=⟨Tryz.f216.name,by decide,Tryz.func216.trans (congrArg some (by kernel_rfl))⟩
 f27:=⟨Tryz.f217.name,by decide,Tryz.func217.trans (congrArg some (by kernel_rfl))⟩
 f28:=Tryz.func218.trans (congrArg some (by kernel_rfl))
 f29:=Tryz.func219.trans (congrArg some (by kernel_rfl))
 f46:=⟨Tryz.f233.name,by decide,Tryz.func233.trans (congrArg some (by kernel_rfl))⟩
 f47:=Tryz.func234.trans (congrArg some (by kernel_rfl))
 f48:=Tryz.func235.trans (congrArg some (by kernel_rfl))
 f49:=⟨Tryz.f236.name,by decide,Tryz.func236.trans (congrArg some (by kernel_rfl))⟩
 f50:=⟨Tryz.f237.name,by decide,Tryz.func237.trans (congrArg some (by kernel_rfl))⟩
 f57:=⟨Tryz.f243.name,by decide,Tryz.func243.trans (congrArg some (by kernel_rfl))⟩
 t0:=Tryz.underlying0
 a0:=Tryz.isAgg0
 z0:=Tryz.sizeOf0
 v0:=Tryz.zeroValue0
 t3:=Tryz.underlying3
 a3:=Tryz.isAgg3
 z3:=Tryz.sizeOf3
 v3:=Tryz.zeroValue3
 t4:=Tryz.underlying4
 a4:=Tryz.isAgg4
 z4:=Tryz.sizeOf4
 v4:=Tryz.zeroValue4
 t5:=Tryz.underlying5
 a5:=Tryz.isAgg5
 z5:=Tryz.sizeOf5
 v5:=Tryz.zeroValue5
 t9:=Tryz.underlying9
 a9:=Tryz.isAgg9
 z9:=Tryz.sizeOf9
 v9:=Tryz.zeroValue9
 t22:=Tryz.underlying29
 a22:=Tryz.isAgg29
 z22:=Tryz.sizeOf29
 v22:=Tryz.zeroValue29
 t25:=Tryz.underlying175
 a25:=Tryz.isAgg175
 z25:=Tryz.sizeOf175
 v25:=Tryz.zeroValue175
 t39:=Tryz.underlying199
 a39:=Tryz.isAgg199
 z39:=Tryz.sizeOf199
 v39:=Tryz.zeroValue199
 t45:=Tryz.underlying260
 a45:=Tryz.isAgg260
 z45:=Tryz.sizeOf260
 v45:=Tryz.zeroValue260
 t46:=Tryz.underlying261
 a46:=Tryz.isAgg261
 z46:=Tryz.sizeOf261
 v46:=Tryz.zeroValue261
 t50:=Tryz.underlying140
 a50:=Tryz.isAgg140
 z50:=Tryz.sizeOf140
 v50:=Tryz.zeroValue140
 t53:=Tryz.underlying267
 a53:=Tryz.isAgg267
 z53:=Tryz.sizeOf267
 v53:=Tryz.zeroValue267
 t55:=Tryz.underlying269
 a55:=Tryz.isAgg269
 z55:=Tryz.sizeOf269
 v55:=Tryz.zeroValue269
 t66:=Tryz.underlying278
 a66:=Tryz.isAgg278
 z66:=Tryz.sizeOf278
 v66:=Tryz.zeroValue278
 t70:=Tryz.underlying282
 a70:=Tryz.isAgg282
 z70:=Tryz.sizeOf282
 v70:=Tryz.zeroValue282
 t76:=Tryz.underlying287
 a76:=Tryz.isAgg287
 z76:=Tryz.sizeOf287
 v76:=Tryz.zeroValue287
 t77:=Tryz.underlying252
 a77:=Tryz.isAgg252
 z77:=Tryz.sizeOf252
 v77:=Tryz.zeroValue252 }
end
end Go.Proofs
namespace Go.Proofs.YtjmcbfbjajlbhaaGreatDoor.Sym
section
open Go.RowKit Go.Sort
def putRow_map{E:Type}[Inhabited E](enc:E->Value)(w:World)(blk off:Nat)(d:Array E):putRow enc w blk off d=putRow id w blk off (d.map enc):=by
 unfold putRow;congr 1;funext c;unfold putCells;congr 1;funext k x;rw[Array.size_map];by_cases h:off<=k/\k<off+d.size
 ·have h1:k-off<d.size:=by omega
  rw[if_pos h,if_pos h,getElem!_pos d _ h1,getElem!_pos (d.map enc) _ (by simpa using h1)];simp
 ·rw[if_neg h,if_neg h]
def holds_map{E:Type}[Inhabited E]{enc:E->Value}{w:World}{blk off:Nat}{d:Array E}(h:Go.Sort.Holds id w blk off (d.map enc)):Go.Sort.Holds enc w blk off d:=λj hj=>by
 have:=h j (by simpa using hj);rw[getElem!_pos (d.map enc) _ (by simpa using hj)]at this;rw[getElem!_pos d _ hj];simpa using this
def one1(us:List Value):Value:=us.headD undef
def flat_one1{E:Type}[Inhabited E]{enc:E->List Value}(hk:∀x,(enc x).length=1)(d:Array E):Go.Sort.flatK enc 1 d=d.map λx=>one1 (enc x):=by
 rw[flatK_list hk]
 have:(d.toList.map enc).flatten=d.toList.map λx=>one1 (enc x):=by
  generalize d.toList=l
  induction l with
  |nil=>rfl
  |cons x l ih =>
   rw[L0,V6,ih,L0];have:=hk x
   match h:enc x,this with
   |[v],_=>rfl
 rw[this];apply Array.ext';simp
def sortC_words:SortC Tryz.prog 142 1 one1:=by
 refine⟨λp a2 fv w=>AnyF.slices_SortFunc_none { Tryz.sortW with } p a2 fv w,?_⟩;intro E _ enc cf g a3 a2 d w hk h1 hO eg a5 hH a6 a7;have e1:∀m (dk:Array E),putRow (λx=>one1 (enc x)) (Sort.ahead w m) a3 0 dk=putRow id (Sort.ahead w m) a3 0 (Go.Sort.flatK enc 1 dk):=λm dk=>by rw[flat_one1 hk,putRow_map]
 have a4:OneCell λx=>one1 (enc x):=λx=>by
  have h2:=hk x;have h3:=h1 x
  match h:enc x,h2 with
  |[v],_ =>
   show(one1 (enc x)).oneCell'=true;rw[h]at h3 ⊢;exact h3 v (by simp)
 refine(Any.slices_SortFunc Tryz.sortW (λx=>one1 (enc x)) a4 cf hO g #[] a3 0 a2 d w eg (λm os dk hs x y=>?_) (holds_map (by rw[<- flat_one1 hk];exact hH)) a6 a7).mono ?_
 ·have:=a5 m os dk hs x y;unfold sortWorld;rw[e1];simpa using this
 ·rintro e w' ⟨he,d',n,os,hp,hs,hw⟩;exact⟨he,d',n,os,hp,hs,by rw[hw];unfold sortWorld;rw[e1]⟩
def aggF:∀w,(isAgg (Tryz.sortF_ren.t 24)).run Tryz.prog w=.ok true w:=Tryz.isAgg48
def sizF:∀w,(Go.sizeOf (Tryz.sortF_ren.t 24)).run Tryz.prog w=.ok 2 w:=Tryz.sizeOf48
set_option maxHeartbeats 2000000 in
def sortC_finder:SortC Tryz.prog 121 2 (λus=>.agg us.toArray):=by
 refine⟨λp a4 fv w=>?_,?_⟩
 ·have hp:=λa9 W=>AnyF.pdqsortCmpFunc_none (P:=Tryz.prog) (ρ:=Tryz.sortF_ren) Tryz.sortF p a4 a9 fv W
  have hl:∀W,Calls Tryz.prog 182 #[.int .u64 0] W λe w'=>e=.returned (.int .i64 (Lib.bitLen 0:Nat))/\w'=W:=λW=>by
   have h:=Any.bits_Len (SlLaysF0.n15.bits (P:=Tryz.prog) (ρ:=Tryz.sortF_ren) { Tryz.sortF with }) 0 W (by omega) (by omega);exact h
  go_enter Tryz.func121,Tryz.ntmps121
  go_wp2_with (first|(go_at_call 182;refine(hl _).mono ?_;rintro e w' ⟨rfl,rfl⟩)|(go_at_call 181;refine(hp _ _).mono ?_;rintro e w' ⟨rfl,rfl⟩))
  go_end0
  exact⟨rfl,rfl⟩
 ·intro E _ enc cf g a6 a4 d w hk h1 hO eg a3 hH a7 b0;have a8:Lib.bitLen d.size<4611686018427387904:=Nat.lt_of_le_of_lt (Lib.bitLen_le d.size 62 (by omega) (by omega)) (by omega)
  have a2:CmpLays Tryz.prog g #[] enc 2 cf a6 0 d.size w:=λm os dk hs x y=>by
   unfold sortWorldK putRowK;simpa using a3 m os dk hs x y
  have hp:=AnyQ.pdqsortCmpFunc_all (P:=Tryz.prog) (ρ:=Tryz.sortF_ren) Tryz.sortF 2 aggF sizF enc cf g #[] hO a6 0 a4 d w eg a2 ⟨hk,h1,hH,a7⟩ (d.size+1) 0 d.size (Lib.bitLen d.size) d w (by omega) rfl (SWK.start hH) (F8 _) (H4 _) b0 a8 (Or.inl rfl)
  have hl:Calls Tryz.prog 182 #[.int .u64 (d.size:Int)] w λe w'=>e=.returned (.int .i64 (Lib.bitLen d.size:Nat))/\w'=w:=by
   have h:=Any.bits_Len (SlLaysF0.n15.bits (P:=Tryz.prog) (ρ:=Tryz.sortF_ren) { Tryz.sortF with }) (d.size:Int) w (by omega) (by omega)
   rwa [P0]at h
  have wr:IntKind.u64.wrap (d.size:Int)=d.size:=by simp[IntKind.wrap,IntKind.bits,IntKind.signed];omega
  have a5:=pdq_sorts (ltOf cf) hO d 0 d.size (Lib.bitLen d.size) true true (F8 _) (H4 _) (Or.inl rfl);clear hH a3 a2 hk h1
  go_enter Tryz.func121,Tryz.ntmps121
  go_wp2_with (first|(go_at_call 182;refine hl.mono ?_;rintro e w' ⟨rfl,rfl⟩)|(go_at_call 181;refine hp.mono ?_;rintro e w' ⟨rfl,n,os,rfl⟩))
  go_end0
  exact⟨rfl,_,n,os,a5.1,a5.2,rfl⟩
def cmpG_lex{f:A2->A2->Option Int}(hf:∀x y r,x.length<=17592186044416->f x y=some r->r=lexI x y):CmpG Tryz.prog 89 (nL cI) f:=by
 intro W S u u' x y r h hu a2;obtain⟨A,n,c,rfl,h1⟩:=lN hu;have:=hf x y r (by rw[h1.len];exact h1.small) h;subst this;obtain⟨B,m,c',rfl,h2⟩:=lN a2;refine(zq39 h1 h2).mono λe w' ⟨he,hw⟩=>⟨he,0,#[],?_⟩;rw[<- hw,Sort.grow_empty];rfl
def cmpG_compare{f:A2->A2->Option Int}(hf:∀x y r,x.length<=17592186044416->f x y=some r->r=cmpW x y):CmpG Tryz.prog 72 (nL cI) f:=by
 intro W S u u' x y r h hu a2;obtain⟨A,n,c,rfl,h1⟩:=lN hu;have:=hf x y r (by rw[h1.len];exact h1.small) h;subst this;obtain⟨B,m,c',rfl,h2⟩:=lN a2;refine(zz2 h1 h2).mono λe w' ⟨he,hw⟩=>⟨he,0,#[.cells #[.int .i64 (cmpI x.length y.length),.int .i64 (lexI x y)] 3],?_⟩;rw[<- hw,Sort.alloc_eq_grow];rfl
def rep_two{w:World}{S:Nat->Prop}{u:Value}{x y:IV}(h:RepI w S u (.agg [x,y])):∃a b,u=.agg #[a,b]/\RepI w S a x/\RepI w S b y:=by
 generalize hz:IV.agg [x,y]=z at h;cases h with
 |agg us cs hl h1 hr =>
  injection hz with hz
  subst hz
  match us,hl with
  |[a,b],_=>exact⟨a,b,rfl,hr 0 a x rfl rfl,hr 1 b y rfl rfl⟩
 |_=>cases hz
set_option maxHeartbeats 400000 in
def find1_any{A A' B B':Option Addr}{n c m c' p q p' q':Nat}{xs ys:A2}{w:World}(hx:T0 w cU A n c xs)(hy:T0 w cU B m c' ys) :
  Calls Tryz.prog 122 #[.agg #[.slice A n c,.slice A' p q],.agg #[.slice B m c',.slice B' p' q']] w λe w'=>e=.returned (.int .i64 (lexI xs ys))/\∃q os,w'=Sort.grow (w.drewN q) os:=by
 have key:∀o o',∃q os,(w.alloc o).alloc o'=Sort.grow (w.drewN q) os:=λo o'=>⟨0,#[o]++#[o'],by
  rw[Sort.alloc_eq_grow,Sort.alloc_eq_grow,Sort.grow_grow]
  rfl⟩
 have a2:∀o o',T0 ((w.alloc o).alloc o') cU A n c xs:=λo o'=>(hx.kept (pA (World.grownBy_alloc w o none))).kept (pA (World.grownBy_alloc _ o' none));have a3:∀o o',T0 ((w.alloc o).alloc o') cU B m c' ys:=λo o'=>(hy.kept (pA (World.grownBy_alloc w o none))).kept (pA (World.grownBy_alloc _ o' none))
 go_enter Tryz.func122,Tryz.ntmps122
 go_wp2_with (go_at_call 89;refine(zq39 (a2 _ _) (a3 _ _)).mono ?_;rintro e w' ⟨rfl,rfl⟩)
 go_ret
 exact⟨rfl,key _ _⟩
def cmpG_find1{T:Type}{X:T->IV}{i o:T->A2}(hX:∀x,X x=.agg [nL cI (i x),nL cI (o x)]){f:T->T->Option Int}(hf:∀x y r,(i x).length<=17592186044416->f x y=some r->r=lexI (i x) (i y)):CmpG Tryz.prog 122 X f:=by
 intro W S u u' x y r h hu a2;rw[hX]at hu a2;obtain⟨a,b,rfl,ha,hb⟩:=rep_two hu;obtain⟨a',b',rfl,a4,a3⟩:=rep_two a2;obtain⟨A,n,c,rfl,h1⟩:=lN ha;have:=hf x y r (by rw[h1.len];exact h1.small) h;subst this;obtain⟨B,m,c',rfl,h2⟩:=lN a4;obtain⟨_,_,_,rfl,_⟩:=lN hb;obtain⟨_,_,_,rfl,_⟩:=lN a3;exact find1_any h1 h2
def rep_of_one{W:World}{S:Nat->Prop}{us:List Value}{x:IV}(hl:us.length=1)(hr:W9 W S us [x]):RepI W S (one1 us) x:=by
 match us,hl with
 |[u],_=>exact hr.2 0 u x rfl rfl
def CmpE{T:Type}(P:Program)(g:FuncId)(X:T->IV)(f:T->T->Option Int):Prop:=(∀args w,(callFunc g args).run P w=.ok (.enter g args) w)/\CmpG P g X f
end
section
def Tryz.infoI_traces:(Tryz.prog.info? 48).map (λi=>(i.zero,i.size,i.bytes))=some (some (.agg #[.slice none 0 0,.slice none 0 0]),2,48):=by kernel_rfl
section
variable {P:Program}
def wp_copy_at(w:World){o:Oper}{a:Act}{K:Act->World->Prop}{Q:Exit->Act->World->Prop}(d s:Operand)(t t':TypeId)
  (ho:o.op=.call { callee:=.builtin .copy,args:=#[d,s],argTypes:=#[t,t'] }) (v u:Value) (hd:a.eval d=v) (hs:a.eval s=u) {v':Value} {w':World}
  (hr:(Builtin.copy_ #[t,t'] o.type #[v,u]).run P w=.ok v' w') (h:K (a.put o.dst v') w'):o.wp P a w K Q:=by
 unfold Oper.wp execOp;simp only[ho,resolve,invoke,builtin,Sem.run_bind,Sem.run_pure,Result.andThen_ok,List.map_toArray,L0,mD,hd,hs,hr];exact h
def JX(w:World){ops:Array Oper}{rest:List Oper}{o:Oper}{a:Act}{Q:Exit->Act->World->Prop}(hgd:o.guard=none)(d s:Operand)(t t':TypeId)
  (ho:o.op=.call { callee:=.builtin .copy,args:=#[d,s],argTypes:=#[t,t'] }) (v u:Value) (hd:a.eval d=v) (hs:a.eval s=u) {v':Value} {w':World}
  (hr:(Builtin.copy_ #[t,t'] o.type #[v,u]).run P w=.ok v' w') (h:wpList P ops Q rest (a.put o.dst v') w'):wpList P ops Q (o::rest) a w :=
 wpList_plain hgd λ_ hK=>wp_copy_at w d s t t' ho v u hd hs hr (hK _ _ h)
def IL{ops:Array Oper}{o:Oper}{a:Act}{w:World}{K:Act->World->Prop}{Q:Exit->Act->World->Prop}{E:Prop}
  (hg:o.guard=none) (d x:Operand) (dT sT:TypeId) (hop:o.op=Op.call { callee:=Callee.builtin Builtin.copy,args:=#[d,x],argTypes:=#[dT,sT] })
  (v u:Value) (hd:a.eval d=v) (hx:a.eval x=u) {v':Value} {w':World} (hr:(Builtin.copy_ #[dT,sT] o.type #[v,u]).run P w=.ok v' w') (hK:K (a.put o.dst v') w') :
  if Region.wanted o (yielded ops a.tmps)=true then Oper.wp P o a w K Q else E:=by
 have hw:Region.wanted o (yielded ops a.tmps)=true:=by simp[Region.wanted,hg]
 rw[if_pos hw];exact wp_copy_at w d x dT sT hop v u hd hx hr hK
end
def InsPost(t:TypeId)(k n:Nat)(us:List Value)(v:Value)(w:World)(e:Ending)(w':World):Prop :=
 ∃v',e=.returned v'/\w'.ownsRow 0 t k v' (n+1) us/\w.grownBy w' v.ownBlock/\(v'.ownBlock=v.ownBlock\/v'.ownBlock=some w.heap.size)
set_option maxRecDepth 100000 in
set_option maxHeartbeats 400000 in
def insert_end(w:World)(v:Value)(n vb vc:Nat)(us news:List Value)(ho:w.ownsRow 0 48 2 v n us)(hl:news.length=1*2)(hb:∀(j:Nat) u,news[j]?=some u->w.cell? ⟨vb,0+j,none⟩=some u)
  (h1:∀u∈news,u.oneCell'=true) (hn:n<=1000000):Calls Tryz.prog 200 #[v,.int .i64 n,.slice (some ⟨vb,0,none⟩) 1 vc] w (InsPost 48 2 n (us++news) v w):=by
 obtain⟨j0,ji,a7,a5,a6⟩:=info_parts Tryz.infoI_traces;have a4:n+1<=maxLen:=by unfold maxLen;omega
 have a8:(n+1)*48<=140737488355328:=by omega
 rcases ho.2 with⟨hv,h0⟩|⟨g,a9,cur,hv,_,hg,b3,b4,b2,b0⟩
 ·subst hv h0
  go_enter Tryz.func200,Tryz.ntmps200
  go_wp2_with (at_builtin;refine wC rfl (.tmp 23) (.tmp 24) 29 rfl 0 48 j0 (.agg #[.slice none 0 0,.slice none 0 0]) 2 48 Tryz.underlying29 ji a7 a5 a6 rfl (by decide) _ _ _ rfl ho _ _ _ _ rfl hl (λ_=>⟨vb,0,rfl,hb⟩) h1 a4 a8 (F8 _) ?_;intro v1 w1 a2 a3 hb1)
  all_goals (go_ret;exact⟨v1,rfl,a2,a3,hb1⟩)
 ·subst hv
  go_enter Tryz.func200,Tryz.ntmps200
  go_wp2_with (at_builtin;refine wC rfl (.tmp 23) (.tmp 24) 29 rfl 0 48 j0 (.agg #[.slice none 0 0,.slice none 0 0]) 2 48 Tryz.underlying29 ji a7 a5 a6 rfl (by decide) _ _ _ rfl ho _ _ _ _ rfl hl (λ_=>⟨vb,0,rfl,hb⟩) h1 a4 a8 (F8 _) ?_;intro v1 w1 a2 a3 hb1)
  all_goals (go_ret;exact⟨v1,rfl,a2,a3,hb1⟩)
set_option maxRecDepth 100000 in
set_option maxHeartbeats 800000 in
def insert_shift(w:World)(g cap n i vb vc:Nat)(cur cur2:Array Value)(us news:List Value)(hg:w.heap[g]?=some (.cells cur 48 (0,0)))(hcz:cur.size=cap*2)(hct:cur.toList.take (n*2)=us)
  (hcm:cap<=maxLen) (hne:vb≠g) (hvb:w.heap[vb]?=some (.cells cur2 48 (0,0))) (hvz:cur2.toList.take 2=news) (hl:news.length=2) (h1:∀u∈us,u.oneCell'=true) (h2:∀u∈news,u.oneCell'=true) (hi:i<n) (hr:n<cap) (hn:n<=1000000) :
  Calls Tryz.prog 200 #[.slice (some ⟨g,0,none⟩) n cap,.int .i64 i,.slice (some ⟨vb,0,none⟩) 1 vc] w (InsPost 48 2 n (us.take (i*2)++news++us.drop (i*2)) (.slice (some ⟨g,0,none⟩) n cap) w):=by
 obtain⟨j0,ji,e0,b5,d9⟩:=info_parts Tryz.infoI_traces;have d8:¬((i:Int)=(n:Int)):=by omega
 have d3:∀lb cb,(callFunc 229 #[.slice (some ⟨vb,0,none⟩) 1 vc,.slice (some ⟨g,(i+1)*2,none⟩) lb cb]).run Tryz.prog w=.ok (.value (.bool false)) w:=λlb cb=>by
  rw[run_callFunc_extern Tryz.func229 (by kernel_rfl) (by kernel_rfl) (by kernel_rfl) (e:=Extern.SlicesOverlaps.overlaps #[29,29] #[4]) (by kernel_rfl),
   Lib.run_overlaps_apart w 29 4 48 Tryz.underlying29 2 Tryz.sizeOf48 ⟨vb,0,none⟩ ⟨g,(i+1)*2,none⟩ 1 vc lb cb hne 48 48 cur2.size cur.size (by simp[World.shape?,hvb]) (by simp[World.shape?,hg]) (by omega) (by simp[World.frozen?,hvb]) (by simp[World.frozen?,hvb])]
  rfl
 have a9:∀(j:Nat),j<n*2->cur[j]?=us[j]?:=λj hj=>by
  rw[<- hct,R3,if_pos hj,T7]
 have a3:us.length=n*2:=by
  rw[<- hct,H6,mG];omega
 have a2:(us.drop (i*2)).length=(n-i)*2:=by rw[O5,a3];omega
 obtain⟨R1,a4⟩:∃R1,R1=(cur.toList.take ((i+1)*2)++us.drop (i*2)++cur.toList.drop ((i+1)*2+(us.drop (i*2)).length)).toArray:=⟨_,rfl⟩
 have b7:∀ty dl dc sl sc,dl=n-i->sl=n+1-i->(Builtin.copy_ #[29,29] ty #[.slice (some ⟨g,(i+1)*2,none⟩) dl dc,.slice (some ⟨g,i*2,none⟩) sl sc]).run Tryz.prog w.drew=.ok (goInt ((n-i:Nat):Int)) (w.drew.setRow g R1):=λty dl dc sl sc hd hs=>by
  have hm:Nat.min sl dl=n-i:=by rw[hd,hs];simp only[BI];split<;>omega
  have:=zC (P:=Tryz.prog) w.drew 29 29 ty 48 g ((i+1)*2) dl dc ⟨g,i*2,none⟩ sl sc cur 48 (us.drop (i*2)) 2 Tryz.underlying29 (by rw[ji];simp[b5]) hg (by rw[hm,a2]) (λj v hj=>by
   rw[Addr.add_lit]
   rw[W6]at hj
   have d5:=(G4.1 hj).1
   show w.cell? _=_
   simp only[World.cell?,hg]
   rw[a9 _ (by omega)]
   simpa using hj) (by rw[a2];omega) (λv hv=>h1 v (V7 hv))
  rw[hm,<- a4]at this;exact this
 have d6:R1.size=cap*2:=by
  rw[a4];simp only[kX,D7,H6,O5,mG];omega
 have b8:(w.drew.setRow g R1).heap[g]?=some (.cells R1 48 (0,0)):=setRow_heap w.drew g cur R1 _ _ hg
 have a6:(w.drew.setRow g R1).heap[vb]?=some (.cells cur2 48 (0,0)):=by
  rw[setRow_other _ _ _ _ hne];exact hvb
 obtain⟨R2,b0⟩:∃R2,R2=(R1.toList.take (i*2)++news++R1.toList.drop (i*2+news.length)).toArray:=⟨_,rfl⟩
 have a8:∀(W:World) ty dl dc,W.heap[g]?=some (.cells R1 48 (0,0))->W.heap[vb]?=some (.cells cur2 48 (0,0))->1<=dl->(Builtin.copy_ #[29,29] ty #[.slice (some ⟨g,i*2,none⟩) dl dc,.slice (some ⟨vb,0,none⟩) 1 vc]).run Tryz.prog W=.ok (goInt ((1:Nat):Int)) (W.setRow g R2):=λW ty dl dc hW hV hd=>by
  have hm:Nat.min 1 dl=1:=by simp only[BI];split<;>omega
  have:=zC (P:=Tryz.prog) W 29 29 ty 48 g (i*2) dl dc ⟨vb,0,none⟩ 1 vc R1 48 news 2 Tryz.underlying29 (by rw[ji];simp[b5]) hW (by rw[hm,hl]) (λj v hj=>by
   rw[Addr.add_lit]
   have d5:=(G4.1 hj).1
   simp only[World.cell?,hV]
   rw[<- hvz,R3,if_pos (by omega),T7]at hj
   simpa using hj) (by rw[hl];omega) h2
  rw[hm,<- b0]at this;exact this
 obtain⟨US,b2⟩:∃US,US=us.take (i*2)++news++us.drop (i*2):=⟨_,rfl⟩;rw[<- b2];have b9:=Lib.hid b2;have d2:=Lib.hid a4;have d0:=Lib.hid b0;have c7:=Lib.hid a2;have c6:=Lib.hid a3;have d4:=Lib.hid hct;have HL:=Lib.hid hl;have e4:=Lib.hid hvz;clear b2 a4 b0 a2 a3 hct a9 hl hvz h1 h2;have c0:=λty dl dc=>a8 (w.drew.setRow g R1) ty dl dc b8 a6;have c9:1<=n+1-i:=by omega
 clear a8 b8 a6;have d1:Tryz.prog.follows Departure.mixedOrders=true:=by kernel_rfl
 have e3:IntKind.i64.wrap ((i:Int)+1)=(i:Int)+1:=by rw[IntKind.wrap_i64];omega
 have hb1:(0:Int)<=(i:Int)+1:=by omega
 have d7:i<=n:=by omega
 have e5:((i:Int)+1).toNat=i+1:=by omega
 have hb2:¬(cap=i+1):=by omega
 have e1:(i:Int)<=(n:Int)+1:=by omega
 have e2:¬(cap=i):=by omega
 go_enter Tryz.func200,Tryz.ntmps200
 go_wp2_with (simp only[d3])
 go_region_law_o (refine IL rfl _ _ 29 29 rfl _ _ (by simp[Act.eval,Act.put]) (by simp[Act.eval,Act.put]) (b7 _ _ _ _ _ (by omega) (by omega)) ?_)
 go_wp2_with (at_builtin;refine JX _ rfl _ _ 29 29 rfl _ _ rfl rfl (c0 3 (n+1-i) (cap-i) c9) ?_)
 go_ret
 have hl:=HL.out;have a3:=c6.out;have hct:=d4.out;have a2:=c7.out;have a7:R1.toList=cur.toList.take ((i+1)*2)++us.drop (i*2)++cur.toList.drop ((i+1)*2+(us.drop (i*2)).length):=by rw[d2.out]
 have b3:(cur.toList.take ((i+1)*2)).length=(i+1)*2:=by rw[H6,mG];omega
 have hT:R1.toList.take (i*2)=us.take (i*2):=by
  rw[a7,U8,gS (by rw[b3];omega),lA,<- hct,lA];congr 1;omega
 have hD:R1.toList.drop (i*2+2)=us.drop (i*2)++cur.toList.drop ((i+1)*2+(us.drop (i*2)).length):=by
  rw[a7,U8,xK (by rw[b3];omega),jG (by rw[b3];omega),Y9]
 have a5:R2.toList=US++cur.toList.drop ((i+1)*2+(us.drop (i*2)).length):=by
  rw[d0.out,b9.out,hl,hT,hD];simp
 have b4:US.length=(n+1)*2:=by
  rw[b9.out,D7,D7,a2,hl,H6,a3];omega
 refine⟨_,rfl,⟨b4,.inr ⟨g,cap,R2,rfl,F8 _,?_,by omega,hcm,?_,?_⟩⟩,⟨rfl,rfl,rfl,?_,λk hk c8=>?_⟩,.inl rfl⟩
 ·exact setRow_heap _ g R1 R2 _ _ (setRow_heap w.drew g cur R1 _ _ hg)
 ·rw[<- mG,a5,D7,b4,O5,mG,a2];omega
 ·rw[a5,gS (by omega),X6 (by omega)]
 ·simp
 ·have b6:k≠g:=λe=>c8 (by rw[e];rfl);rw[setRow_other _ _ _ _ b6,setRow_other _ _ _ _ b6];rfl
set_option maxRecDepth 100000 in
set_option maxHeartbeats 800000 in
def insert_grow(w:World)(g n i vb vc:Nat)(cur cur2:Array Value)(us news:List Value)(hg:w.heap[g]?=some (.cells cur 48 (0,0)))(hcz:cur.size=n*2)(hct:cur.toList.take (n*2)=us)
  (hvb:w.heap[vb]?=some (.cells cur2 48 (0,0))) (hvz:cur2.toList.take 2=news) (hl:news.length=2) (h1:∀u∈us,u.oneCell'=true) (h2:∀u∈news,u.oneCell'=true) (hi:i<n) (hn:n<=1000000) :
  Calls Tryz.prog 200 #[.slice (some ⟨g,0,none⟩) n n,.int .i64 i,.slice (some ⟨vb,0,none⟩) 1 vc] w (InsPost 48 2 n (us.take (i*2)++news++us.drop (i*2)) (.slice (some ⟨g,0,none⟩) n n) w):=by
 obtain⟨j0,ji,e3,c0,d0⟩:=info_parts Tryz.infoI_traces;have f6:¬((i:Int)=(n:Int)):=by omega
 have f9:(n:Int)<(n:Int)+1:=by omega
 have a9:∀(j:Nat),j<n*2->cur[j]?=us[j]?:=λj hj=>by
  rw[<- hct,R3,if_pos hj,T7]
 have b9:us.length=n*2:=by
  rw[<- hct,H6,mG];omega
 have b4:(us.drop (i*2)).length=(n-i)*2:=by rw[O5,b9];omega
 have a4:(us.take (i*2)).length=i*2:=by rw[H6,b9];omega
 have d9:g<w.heap.size:=by
  rcases L8 g w.heap.size with h|h
  ·exact h
  ·rw[HJ h]at hg;cases hg
 have d7:vb<w.heap.size:=by
  rcases L8 vb w.heap.size with h|h
  ·exact h
  ·rw[HJ h]at hvb;cases hvb
 obtain⟨N,hN⟩:∃N,N=w.heap.size:=⟨_,rfl⟩
 have b5:(Builtin.firstCells j0.size i (.slice (some ⟨g,0,none⟩) i n)).run Tryz.prog w.drew=.ok (us.take (i*2)).toArray w.drew:=by
  rw[c0]
  exact run_firstCells_some w.drew 2 i ⟨g,0,none⟩ i n (us.take (i*2)) a4 (λj v hj=>by
   rw[Addr.add_lit]
   rw[R3]at hj
   split at hj
   ·show w.cell? _=_
    simp only[World.cell?,hg]
    rw[J9,a9 _ (by omega)]
    exact hj
   ·cases hj)
 obtain⟨G,hG⟩:∃G,G=grownCap w (n+1) n 48:=⟨_,rfl⟩;obtain⟨a2,a5⟩:∃a2:Array Value,a2=(us.take (i*2)).toArray++Builtin.zeroCells (Value.agg #[.slice none 0 0,.slice none 0 0]).cells (n+1-i)++Builtin.zeroCells (Value.agg #[.slice none 0 0,.slice none 0 0]).cells (G-(n+1)):=⟨_,rfl⟩;have e5:n+1<=G:=by rw[hG];exact grownCap_ge w _ _ _
 have d1:G<=maxLen:=by rw[hG];exact grownCap_le_maxLen w (n+1) n 48 (by unfold maxLen;omega)
 have f3:G<=9223372036854775807:=by unfold maxLen at d1;omega
 obtain⟨W1,a6⟩:∃W1,W1=w.drew.alloc (.cells a2 48):=⟨_,rfl⟩
 have d6:∀ty,(Builtin.append_ #[29,3] ty #[.slice (some ⟨g,0,none⟩) i n,.int .i64 ((n:Int)+1-(i:Int))]).run Tryz.prog w=.ok (.slice (some ⟨N,0,none⟩) (n+1) G) W1:=λty=>by
  have h:=Lib.run_append_grow_zeros w 29 3 ty 48 j0 _ .i64 .i64 Tryz.underlying29 Tryz.underlying3 ji e3 (some ⟨g,0,none⟩) i n (us.take (i*2)) b5 (n+1-i) (by omega) (by omega) (by omega) (by omega) (by rw[d0];omega) (by rw[d0,show i+(n+1-i)=n+1 by omega];exact growslice_fits (by omega) (by omega));rw[show i+(n+1-i)=n+1 by omega,<- hG,<- a5,<- hN,<- a6]at h;rw[show(n:Int)+1-(i:Int)=((n+1-i:Nat):Int) by omega];exact h
 have d8:a2.size=G*2:=by
  rw[a5];simp only[HM,kX,a4,Builtin.zeroCells,Value.cells,Array.size_map,Array.size_range];simp;omega
 have a8:a2.toList.take (i*2)=us.take (i*2):=by
  rw[a5,BR,BR,U8,gS (by simp[a4]),X6 (by simp[a4])]
 have c7:W1.heap[N]?=some (.cells a2 48 (0,0)):=by
  rw[a6,hN];exact heap_alloc_new w.drew _
 have a3:∀k,k<w.heap.size->W1.heap[k]?=w.heap[k]?:=λk hk=>by
  rw[a6];exact heap_alloc_old w.drew _ hk
 obtain⟨R1,a7⟩:∃R1,R1=(a2.toList.take (i*2)++news++a2.toList.drop (i*2+news.length)).toArray:=⟨_,rfl⟩
 have b7:∀(W:World) ty dl dc,W.heap[N]?=some (.cells a2 48 (0,0))->W.heap[vb]?=some (.cells cur2 48 (0,0))->1<=dl->(Builtin.copy_ #[29,29] ty #[.slice (some ⟨N,i*2,none⟩) dl dc,.slice (some ⟨vb,0,none⟩) 1 vc]).run Tryz.prog W=.ok (goInt ((1:Nat):Int)) (W.setRow N R1):=λW ty dl dc hW hV hd=>by
  have hm:Nat.min 1 dl=1:=by simp only[BI];split<;>omega
  have:=zC (P:=Tryz.prog) W 29 29 ty 48 N (i*2) dl dc ⟨vb,0,none⟩ 1 vc a2 48 news 2 Tryz.underlying29 (by rw[ji];simp[c0]) hW (by rw[hm,hl]) (λj v hj=>by
   rw[Addr.add_lit]
   have e8:=(G4.1 hj).1
   simp only[World.cell?,hV]
   rw[<- hvz,R3,if_pos (by omega),T7]at hj
   simpa using hj) (by rw[hl];omega) h2
  rw[hm,<- a7]at this;exact this
 have b8:R1.size=G*2:=by
  rw[a7];simp only[kX,D7,H6,O5,mG,hl];omega
 obtain⟨R2,b0⟩:∃R2,R2=(R1.toList.take ((i+1)*2)++us.drop (i*2)++R1.toList.drop ((i+1)*2+(us.drop (i*2)).length)).toArray:=⟨_,rfl⟩
 have b6:∀(W:World) ty dl dc sl sc,W.heap[N]?=some (.cells R1 48 (0,0))->W.heap[g]?=some (.cells cur 48 (0,0))->dl=n-i->sl=n-i->(Builtin.copy_ #[29,29] ty #[.slice (some ⟨N,(i+1)*2,none⟩) dl dc,.slice (some ⟨g,i*2,none⟩) sl sc]).run Tryz.prog W=.ok (goInt ((n-i:Nat):Int)) (W.setRow N R2):=λW ty dl dc sl sc hW hV hd hs=>by
  have hm:Nat.min sl dl=n-i:=by rw[hd,hs];simp only[BI];split<;>omega
  have:=zC (P:=Tryz.prog) W 29 29 ty 48 N ((i+1)*2) dl dc ⟨g,i*2,none⟩ sl sc R1 48 (us.drop (i*2)) 2 Tryz.underlying29 (by rw[ji];simp[c0]) hW (by rw[hm,b4]) (λj v hj=>by
   rw[Addr.add_lit]
   rw[W6]at hj
   have e8:=(G4.1 hj).1
   simp only[World.cell?,hV]
   rw[a9 _ (by omega)]
   simpa using hj) (by rw[b4,b8];omega) (λv hv=>h1 v (V7 hv))
  rw[hm,<- b0]at this;exact this
 have c8:1<=n+1-i:=by omega
 have f4:vb≠N:=by omega
 have e2:g≠N:=by omega
 have e6:=λty dc=>b7 W1 ty (n+1-i) dc c7 (by rw[a3 vb d7];exact hvb) c8;have d5:(W1.setRow N R1).heap[N]?=some (.cells R1 48 (0,0)):=setRow_heap W1 N a2 R1 _ _ c7
 have e0:(W1.setRow N R1).drew.heap[g]?=some (.cells cur 48 (0,0)):=by
  show(W1.setRow N R1).heap[g]?=_;rw[setRow_other _ _ _ _ e2,a3 g d9];exact hg
 have e4:=λty dl dc sl sc h3 h4=>b6 (W1.setRow N R1).drew ty dl dc sl sc d5 e0 h3 h4;obtain⟨US,b3⟩:∃US,US=us.take (i*2)++news++us.drop (i*2):=⟨_,rfl⟩;rw[<- b3]
 have d2:∃REST,R2.toList=US++REST:=by
  refine⟨R1.toList.drop ((i+1)*2+(us.drop (i*2)).length),?_⟩
  have hT:R1.toList.take ((i+1)*2)=us.take (i*2)++news:=by
   have hz:(us.take (i*2)++news).length=(i+1)*2:=by rw[D7,a4,hl];omega
   rw[a7,a8,<- hz,gS (H4 _),M4]
  rw[b0,hT,b3]
 have e1:US.length=(n+1)*2:=by
  rw[b3,D7,D7,b4,hl,a4];omega
 have d3:R2.size=G*2:=by
  rw[b0];simp only[kX,D7,H6,O5,mG];omega
 have g4:=Lib.hid a7;have HN:=Lib.hid hN;have HG:=Lib.hid hG;have b2:=Lib.hid a6;have d4:=Lib.hid a3;clear b3 a7 b0 b4 b9 hct a9 hl hvz h1 h2 b5 a5 a8 a4 b7 b6 d8 b8 hG hN a6 a3;have e7:Tryz.prog.follows Departure.mixedOrders=true:=by kernel_rfl
 have g3:IntKind.i64.wrap ((i:Int)+1)=(i:Int)+1:=by rw[IntKind.wrap_i64];omega
 have hb1:(0:Int)<=(i:Int)+1:=by omega
 have f5:i<=n:=by omega
 have g5:((i:Int)+1).toNat=i+1:=by omega
 have f8:(i:Int)<=(n:Int):=by omega
 have g1:¬(G=i):=by omega
 have e9:¬(G=i+1):=by omega
 have f7:¬(n=i):=by omega
 go_enter Tryz.func200,Tryz.ntmps200
 go_wp2_with (first
  |(at_builtin;refine Lib.wpList_append_run _ rfl _ _ _ _ rfl _ _ rfl rfl _ _ (d6 _) ?_)
  |(at_builtin;refine JX _ rfl _ _ 29 29 rfl _ _ rfl rfl (e6 _ _) ?_))
 go_region_law_o (refine IL rfl _ _ 29 29 rfl _ _ (by simp[Act.eval,Act.put]) (by simp[Act.eval,Act.put]) (e4 _ _ _ _ _ (by omega) (by omega)) ?_)
 go_wp2
 go_ret
 obtain⟨REST,c6⟩:=d2;have hN:=HN.out;refine⟨_,rfl,⟨e1,.inr ⟨N,G,R2,rfl,F8 _,?_,e5,d1,d3,?_⟩⟩,⟨?_,?_,?_,?_,λk hk g2=>?_⟩,.inr (by rw[<- hN];rfl)⟩
 ·exact setRow_heap _ N R1 R2 _ _ d5
 ·rw[c6,gS (by omega),X6 (by omega)]
 ·rw[b2.out];rfl
 ·rw[b2.out];rfl
 ·rw[b2.out];rfl
 ·simp[b2.out]
 ·have c9:k≠N:=by omega
  rw[setRow_other _ _ _ _ c9];show(W1.setRow N R1).heap[k]?=_;rw[setRow_other _ _ _ _ c9,d4.out k hk]
def zq44{V:Type}{k:Nat}:∀{es:List (List V)} (i:Nat),(∀e∈es,e.length=k)->(es.take i).flatten=es.flatten.take (i*k)/\(es.drop i).flatten=es.flatten.drop (i*k)
 |[],i,_=>by simp
 |e::es,0,_=>by simp
 |e::es,i+1,h=>by
  have he:=h e (by simp);obtain⟨h1,h2⟩:=zq44 (es:=es) i λx hx=>h x (by simp[hx]);have hz:(i+1)*k=e.length+i*k:=by rw[he,mC,cP]
  constructor
  ·rw[wZ,V6,V6,h1,hz,BO (l₁:=e),X6 (l:=e) (by omega),xC]
  ·rw[List.drop_succ_cons,V6,h2,hz,GX (l₁:=e),jG (l:=e) (by omega),Y9,xC]
def RelW(R:Value->IV->Prop)(us:List Value)(xs:List IV):Prop:=∀(i:Nat) u x,us[i]?=some u->xs[i]?=some x->R u x
def RelW.append{R:Value->IV->Prop}{us vs:List Value}{xs ys:List IV}(hl:us.length=xs.length)(h1:RelW R us xs)(h2:RelW R vs ys):RelW R (us++vs) (xs++ys):=λi u x hu hx=>by
 rcases L8 i us.length with h|h
 ·rw[jI h]at hu;rw[jI (by omega)]at hx;exact h1 i u x hu hx
 ·rw[lB h]at hu;rw[lB (by omega),<- hl]at hx;exact h2 _ u x hu hx
def RelW.take{R:Value->IV->Prop}{us:List Value}{xs:List IV}(k:Nat)(h:RelW R us xs):RelW R (us.take k) (xs.take k):=λi u x hu hx=>by
 rw[R3]at hu hx;split at hu
 ·rename_i g;rw[if_pos g]at hx;exact h i u x hu hx
 ·cases hu
def RelW.drop{R:Value->IV->Prop}{us:List Value}{xs:List IV}(k:Nat)(h:RelW R us xs):RelW R (us.drop k) (xs.drop k):=λi u x hu hx=>by
 rw[W6]at hu hx;exact h _ u x hu hx
set_option maxRecDepth 100000 in
def sp_of_insert{es:List (List IV)}{e:List IV}{i:Int}(hk:∀x∈es,x.length=2)(hke:e.length=2)(h0:0<=i)(h1:i<=(es.length:Int))(hn:es.length<=1000000) :
  Sp Tryz.prog 200 [.row 48 2 es,.im (nI i),.row 48 2 [e]] (.row 48 2 (es.take i.toNat++[e]++es.drop i.toNat)):=by
 refine⟨λargs w=>fY rfl rfl rfl args w,λw S vs F hS hv b9 hF=>?_⟩
 match vs,hv with
 |[v,vi,va],⟨F1,F2,⟨hv1,inn,hrow,e1⟩,⟨F3,F4,⟨h4,e2⟩,⟨F5,F6,⟨hva1,inn2,hrow2,e5⟩,h6,e6⟩,e3⟩,e4⟩ =>
  have h6:F6=[]:=h6;have e1:F1=(G3 v).toList:=e1;have e5:F5=(G3 va).toList:=e5;subst e1 e2 e5 h6;have e6:F4=(G3 va).toList:=by rw[e6];simp
  subst e6;have e3:F2=(G3 va).toList:=by rw[e3];simp
  subst e3;subst e4;cases h4;obtain⟨us,_,_,f4,a3,b4,b2,hr⟩:=hrow;obtain⟨news,_,_,_,a6,a9,b0,d9⟩:=hrow2;have d4:([e]:List (List IV)).length=1:=rfl;rw[d4]at a6
  have c9:news.length=2:=by
   rw[a9];simp[hke]
  obtain⟨vb,vc,a2,rfl,_,b6,f9,f8,f7,b8⟩:∃vb vc a2,va=.slice (some ⟨vb,0,none⟩) 1 vc/\0<=vb/\w.heap[vb]?=some (.cells a2 48 (0,0))/\1<=vc/\vc<=maxLen/\a2.size=vc*2/\a2.toList.take (1*2)=news:=by
   rcases a6.2 with⟨_,h⟩|h
   ·cases h
   ·exact h
  have c8:G3 (.slice (some ⟨vb,0,none⟩) 1 vc)=some vb:=rfl;rw[c8]at b9 hF ⊢;have d5:¬S vb/\vb<w.heap.size:=hF vb (by simp);have f5:us.length=es.length*2:=a3.1;have ei:i=(i.toNat:Int):=by omega
  have b7:Calls Tryz.prog 200 #[v,.int .i64 i,.slice (some ⟨vb,0,none⟩) 1 vc] w (InsPost 48 2 es.length (us.take (i.toNat*2)++news++us.drop (i.toNat*2)) v w):=by
   rw[ei];simp only[P0];by_cases d0:i.toNat=es.length
   ·have:=insert_end w v es.length vb vc us news a3 (by omega) (λj u hj=>by
     have d7:=(G4.1 hj).1
     simp only[World.cell?,b6]
     rw[<- b8,R3,if_pos (by omega),T7]at hj
     simpa using hj) b0 hn
    rw[d0,X6 (by omega),jG (by omega),S5];exact this
   ·rcases a3.2 with⟨_,h⟩|⟨g,a5,cur,hv,_,hg,f6,d8,d1,d6⟩
    ·omega
    ·subst hv
     have e0:vb≠g:=λe=>by
      have:G3 (.slice (some ⟨g,0,none⟩) es.length a5)=some g:=rfl;rw[this,e]at b9;simp at b9
     by_cases c6:es.length<a5
     ·exact insert_shift w g a5 es.length i.toNat vb vc cur a2 us news hg d1 d6 d8 e0 b6 b8 c9 b2 b0 (by omega) c6 hn
     ·have hc:a5=es.length:=by omega
      subst hc;exact insert_grow w g es.length i.toNat vb vc cur a2 us news hg d1 d6 b6 b8 c9 b2 b0 (by omega) hn
  refine b7.mono ?_;rintro ex w' ⟨v',rfl,ho,a4,f3⟩;have e9:=a3
  have b5:v.ownBlock=G3 v:=by
   rcases a3.2 with⟨rfl,_⟩|⟨g,a5,cur,rfl,_⟩<;>rfl
  have b3:v'.ownBlock=G3 v':=by
   rcases ho.2 with⟨rfl,_⟩|⟨g,a5,cur,rfl,_⟩<;>rfl
  have d7:=ho.lt
  have c7:∀b∈(G3 v').toList,(w.heap.size<=b\/b∈(G3 v).toList)/\b<w'.heap.size:=λb hb=>by
   have h2:G3 v'=some b:=by simpa using hb
   refine⟨?_,?_⟩
   ·rcases f3 with h|h
    ·rw[b5,b3,h2]at h;exact .inr (by rw[<- h];simp)
    ·rw[b3,h2]at h;injection h with h
     exact .inl (by omega)
   ·refine(d7 b ?_).2;rw[nX ho];simpa using hb
  have e7:Belo (λb=>b∈(G3 v).toList++[vb]) w.heap.size w w':=⟨a4.os,a4.tape,a4.output,a4.size,λb hb e8=>a4.block b hb λh=>e8 (by
   rw[b5]at h
   rw[<- h]
   simp)⟩
  have d2:∀b,S b->b<w.heap.size/\b∉(G3 v).toList/\b≠vb:=λb hb=>⟨hS b hb,λhm=>(hF b (by simp[hm])).1 hb,λe=>d5.1 (e ▸ hb)⟩
  have c0:∀u x,RepI w S u x->RepI w' (λb=>(S b\/w.heap.size<=b\/b∈(G3 v).toList++[vb])/\b<w'.heap.size/\b∉(G3 v').toList) u x:=λu x h=>h.mono (λb hb=>⟨.inl hb,kY (hS b hb) a4.size,λhm=>by
    rcases (c7 b hm).1 with h2|h2
    ·have:=hS b hb
     omega
    ·exact(d2 b hb).2.1 h2⟩) λp y hp hy=>by
   have h6:=a4.block p.block (hS _ hp) λh=>(d2 _ hp).2.1 (by
    rw[b5]at h
    rw[<- h]
    simp)
   have h7:w'.cell? p=w.cell? p:=by
    unfold World.cell?;rw[h6]
   rw[h7];exact hy
  have d3:=zq44 (es:=es) (k:=2) i.toNat hk
  have a7:(es.take i.toNat++[e]++es.drop i.toNat).flatten=es.flatten.take (i.toNat*2)++[e].flatten++es.flatten.drop (i.toNat*2):=by
   rw[nU,nU,d3.1,d3.2]
  have a8:(es.take i.toNat++[e]++es.drop i.toNat).length=es.length+1:=by
   rw[D7,D7,H6,O5,S6];omega
  refine⟨v',(G3 v').toList,rfl,e7,⟨[v'],(G3 v').toList,[],rfl,⟨(G3 v').toList,[],⟨row_one ho,[],⟨_,by decide,λx hx=>?_,by rw[a8];omega,by rw[a8];exact ho,?_,λu hu=>?_,?_⟩,rfl⟩,rfl,by simp⟩,rfl,by simp⟩,?_,λb hb=>⟨?_,(c7 b hb).2⟩⟩
  ·rcases K0.1 hx with hx|hx
   ·rcases K0.1 hx with hx|hx
    ·exact hk x (Q1 hx)
    ·rw[K2.1 hx];exact hke
   ·exact hk x (V7 hx)
  ·rw[a7];simp only[D7,H6,O5,<- b4,<- a9]
  ·rcases K0.1 hu with hu|hu
   ·rcases K0.1 hu with hu|hu
    ·exact b2 u (Q1 hu)
    ·exact b0 u hu
   ·exact b2 u (V7 hu)
  ·rw[a7];have q1:RelW (RepI w S) us es.flatten:=hr;have q2:RelW (RepI w S) news [e].flatten:=d9;have:=RelW.append (by simp only[D7,H6,<- b4,<- a9]) (RelW.append (by simp only[H6,<- b4]) (q1.take (i.toNat*2)) q2) (q1.drop (i.toNat*2));exact λj u x hu hx=>c0 u x (this j u x hu hx)
  ·cases G3 v'<;>simp
  ·rcases (c7 b hb).1 with h|h
   ·exact .inl h
   ·exact .inr (by simp[h])
end
def qR{V:Type}(by_:Nat)(l:List V):Option (List V):=chk (E5 l.length by_) (some l)
def cH(l:A2):Option (A2):=qR 8 l
def iZ(l r:A2)(h:cH l=some r):Sp Tryz.prog 73 [.im (nL cI l)] (.row 3 1 (List.map cI r)):=by
 obtain⟨h1,h⟩:=J0 h;injection h with h
 subst h;exact DU (by_:=8) (λargs w=>fY rfl rfl rfl args w) (by decide) clone_int (λe he=>by obtain⟨y,_,rfl⟩:=D8.1 he;rfl) (by rw[E1];exact h1)
def AR(l:A3):Option (A3):=qR 24 l
def zvo(l r:A3)(h:AR l=some r):Sp Tryz.prog 141 [.im (nL (cL cI) l)] (.row 46 1 (List.map (cL cI) r)):=by
 obtain⟨h1,h⟩:=J0 h;injection h with h
 subst h;exact DU (by_:=24) (λargs w=>fY rfl rfl rfl args w) (by decide) clone_words (λe he=>by obtain⟨y,_,rfl⟩:=D8.1 he;rfl) (by rw[E1];exact h1)
def GG(l:A3)(f:(A2)->(A2)->Option Int):Option (A3):=qC l f
def zsm(l:A3)(f:(A2)->(A2)->Option Int)(g:FuncId)(hd:CmpE Tryz.prog g (λx=>nL cI x) f)(r:A3)(h:GG l f=some r):Sp Tryz.prog 142 [.lent (.row 46 1 (List.map (cL cI) l)),.im (.fn g [])] (.mk true [] [.lent (.row 46 1 (List.map (cL cI) r))]) :=
 sp_of_sort (λargs w=>fY rfl rfl rfl args w) sortC_words (by decide) (λ_=>rfl) (λW S us x hl h1 hr=>rep_of_one hl hr) hd.1 hd.2 h
def GA(l:List A8):Option (List A8):=qR 48 l
def zud(l r:List A8)(h:GA l=some r):Sp Tryz.prog 120 [.im (nL C4 l)] (.row 48 2 (List.map C4 r)):=by
 obtain⟨h1,h⟩:=J0 h;injection h with h
 subst h;exact DU (by_:=48) (λargs w=>fY rfl rfl rfl args w) (by decide) clone_traces (λe he=>by obtain⟨y,_,rfl⟩:=D8.1 he;rfl) (by rw[E1];exact h1)
def GI(l:List A8)(i:Int)(v:List A8):Option (List A8):=chk (0<=i/\i<=(l.length:Int)/\v.length=1/\l.length<=1000000) (some (l.take i.toNat++v++l.drop i.toNat))
def ztn(l:List A8)(i:Int)(v r:List A8)(h:GI l i v=some r):Sp Tryz.prog 200 [.row 48 2 (List.map C4 l),.im (nI i),.row 48 2 (List.map C4 v)] (.row 48 2 (List.map C4 r)):=by
 obtain⟨h1,h⟩:=J0 h;injection h with h
 subst h
 match v,h1 with
 |[x],h1 =>
  have:=sp_of_insert (es:=l.map C4) (e:=C4 x) (i:=i) (λe he=>by obtain⟨y,_,rfl⟩:=D8.1 he;rfl) rfl h1.1 (by rw[E1];exact h1.2.1) (by rw[E1];exact h1.2.2.2);simpa[N3,wT,List.map_drop]using this
def GK(l:List A8)(f:A8->A8->Option Int):Option (List A8):=qC l f
def zq8(l:List A8)(f:A8->A8->Option Int)(g:FuncId)(hd:CmpE Tryz.prog g (λx=>.agg (C4 x)) f)(r:List A8)(h:GK l f=some r):Sp Tryz.prog 121 [.lent (.row 48 2 (List.map C4 l)),.im (.fn g [])] (.mk true [] [.lent (.row 48 2 (List.map C4 r))]) :=
 sp_of_sort (λargs w=>fY rfl rfl rfl args w) sortC_finder (by decide) (λ_=>rfl) (λW S us x hl h1 hr=>.agg _ _ hr.1 h1 hr.2) hd.1 hd.2 h
def tU(m_:B7):Option Bool:=(cond (decide ((m_.N.length:Int)<=12)) (cond (decide ((m_.O.length:Int)<=12)) (some (decide (m_.I<=4))) (some false)) (some false)).bind (λa2=>some a2)
def gD.s2(a_ b_:A2)(a2:Nat):Option (Nat⊕Nat):=(cond (decide ((a2:Int)<(a_.length:Int))) (cond (decide ((a2:Int)<(b_.length:Int))) (idxn a_ a2 λa6=>idxn b_ a2 λa7=>some (decide (a6=a7))) (some false)) (some false)).bind (λa8=>cond (a8) (chk (inR ((a2:Int)+1)) (some (.inl (a2+1)))) (some (.inr a2)))
def gD(a_ b_:A2):Option Int:=(iter (λ(s:Nat)=>gD.s2 a_ b_ s) fuel 0).bind (λa2=>some (a2:Int))
def mV(a_ b_:A2):Option Bool:=(cond (decide ((a_.length:Int)=(b_.length:Int))) ((gD a_ b_).bind λa2=>some (decide (a2=(a_.length:Int)))) (some false)).bind (λa6=>some a6)
def nG.s2(a_ b_:A3)(a2:Nat):Option (Nat⊕(Unit⊕Bool)):=cond (decide ((a2:Int)<(a_.length:Int))) (idxn a_ a2 λa6=>idxn b_ a2 λa7=>(mV a6 a7).bind λa8=>cond ((!a8)) (some (.inr (.inr false))) (some (.inl (a2+1)))) (some (.inr (.inl ())))
def nG(a_ b_:A3):Option Bool:=cond (decide ((a_.length:Int)≠(b_.length:Int))) (some false) ((iter (λ(s:Nat)=>nG.s2 a_ b_ s) fuel 0).bind (Sum.elim (λ_=>some true) some))
def jX.s2(inputs_:Int)(a6:A3)(a2:Nat):Option ((A3×Nat)⊕A3):=cond (decide ((a2:Int)<inputs_)) (chk (E5 (List.length a6+1) 24) (chk (inR ((a2:Int)+1)) (some (.inl ((a6++[[(a2:Int)]]),(a2+1)))))) (some (.inr a6))
def jX(inputs_:Int):Option (B8×Int):=(cond (decide (inputs_<1)) (some true) (some (decide (64<inputs_)))).bind (λa2=>cond (a2) (some ((⟨0,[],[]⟩:B8),2)) ((iter (λ(s:A3×Nat)=>jX.s2 inputs_ s.1 s.2) fuel ([],0)).bind (λa6=>some ((⟨inputs_,[[]],a6⟩:B8),0))))
def oE(inputs_:Int):Option (C7×Int):=(jX inputs_).bind λa2=>cond (decide (a2.2≠0)) (some ((⟨0,[],[]⟩:C7),a2.2)) (some ((⟨inputs_,a2.1.P,a2.1.X⟩:C7),0))
def L23_Gate:Option A6:=some (⟨2,[(⟨[0,0],[1,1]⟩:A8),(⟨[0,1],[1,2]⟩:A8),(⟨[1,0],[0,1]⟩:A8),(⟨[1,1],[0,0]⟩:A8)]⟩:A6)
def jB.s2(x_:A3)(target_:A2)(cmp_:(A2)->(A2)->Option Int)(a2 a6:Int):Option ((Int×Int)⊕Int):=cond (decide (a2<a6)) (chk (inR (a2+a6)) (chk ((0:Int)<=(a2+a6)/\(a2+a6)<=18446744073709551615) (chk ((0:Int)<=(a2+a6)/\(a2+a6)<=18446744073709551615) (chk (inR ((a2+a6) / 2^1)) (idx x_ ((a2+a6) / 2^1) λa7=>(cmp_ a7 target_).bind λa8=>cond (decide (a8<0)) (chk (inR (((a2+a6) / 2^1)+1)) (some (.inl ((((a2+a6) / 2^1)+1),a6)))) (some (.inl (a2,((a2+a6) / 2^1))))))))) (some (.inr a2))
def jB(x_:A3)(target_:A2)(cmp_:(A2)->(A2)->Option Int):Option (Int×Bool):=(iter (λ(s:Int×Int)=>jB.s2 x_ target_ cmp_ s.1 s.2) fuel (0,(x_.length:Int))).bind (λa2=>(cond (decide (a2<(x_.length:Int))) (idx x_ a2 λa6=>(cmp_ a6 target_).bind λa7=>some (decide (a7=0))) (some false)).bind (λa8=>some (a2,a8)))
def cmp_isNaN_int(x_:Int):Option Bool:=some (decide (x_≠x_))
def cmp_Compare_int(x_ y_:Int):Option Int:=(cmp_isNaN_int x_).bind λa6=>(cmp_isNaN_int y_).bind λa2=>cond (a6) (cond (a2) (some 0) (some (-1:Int))) (cond (a2) (some 1) (cond (decide (x_<y_)) (some (-1:Int)) (cond (decide (y_<x_)) (some 1) (some 0))))
def jA.s2(s1_ s2_:A2)(a2:Nat):Option (Nat⊕(Unit⊕Int)):=cond (decide ((a2:Int)<(s1_.length:Int))) (idxn s1_ a2 λa7=>cond (decide ((s2_.length:Int)<=(a2:Int))) (some (.inr (.inr 1))) (idxn s2_ a2 λa8=>(cmp_Compare_int a7 a8).bind λa6=>cond (decide (a6≠0)) (some (.inr (.inr a6))) (some (.inl (a2+1))))) (some (.inr (.inl ())))
def jA(s1_ s2_:A2):Option Int:=(iter (λ(s:Nat)=>jA.s2 s1_ s2_ s) fuel 0).bind (Sum.elim (λ_=>cond (decide ((s1_.length:Int)<(s2_.length:Int))) (some (-1:Int)) (some 0)) some)
def gB.s2(vals_:A2)(a2:Nat):Option (Nat⊕(Unit⊕Int)):=cond (decide ((a2:Int)<(vals_.length:Int))) (idxn vals_ a2 λa6=>cond (decide (a6≠0)) (some (.inr (.inr a6))) (some (.inl (a2+1)))) (some (.inr (.inl ())))
def gB(vals_:A2):Option Int:=(iter (λ(s:Nat)=>gB.s2 vals_ s) fuel 0).bind (Sum.elim (λ_=>some 0) some)
def cJ(a_ b_:A2):Option Int:=(cmp_Compare_int (a_.length:Int) (b_.length:Int)).bind λa2=>(jA a_ b_).bind λa6=>(gB [a2,a6]).bind λa7=>some a7
def oN(l_:A3)(w_:A2):Option A3:=(jB l_ w_ (λu0 u1=>cJ u0 u1)).bind λa2=>cond (a2.2) (some l_) (chk ((0:Int)<=a2.1/\a2.1<=(l_.length:Int)) ((cH w_).bind λa6=>chk (E5 (List.length (List.take (Int.toNat a2.1) l_)+1) 24) (chk ((0:Int)<=a2.1/\a2.1<=(l_.length:Int)) (chk (E5 (List.length ((List.take (Int.toNat a2.1) l_)++[a6])+List.length (List.drop (Int.toNat a2.1) l_)) 24) (some (((List.take (Int.toNat a2.1) l_)++[a6])++(List.drop (Int.toNat a2.1) l_)))))))
def bS.s2(s1_ s2_:A2)(a2:Nat):Option (Nat⊕(Unit⊕Bool)):=cond (decide ((a2:Int)<(s1_.length:Int))) (idxn s1_ a2 λa6=>idxn s2_ a2 λa7=>cond (decide (a6≠a7)) (some (.inr (.inr false))) (some (.inl (a2+1)))) (some (.inr (.inl ())))
def bS(s1_ s2_:A2):Option Bool:=cond (decide ((s1_.length:Int)≠(s2_.length:Int))) (some false) ((iter (λ(s:Nat)=>bS.s2 s1_ s2_ s) fuel 0).bind (Sum.elim (λ_=>some true) some))
def rY(v_ p1_:A2):Option Bool:=(bS v_ p1_).bind λa2=>some a2
def kS.s2(s_:A3)(f_:(A2)->Option Bool)(a2:Nat):Option (Nat⊕(Unit⊕Int)):=cond (decide ((a2:Int)<(s_.length:Int))) (idxn s_ a2 λa6=>(f_ a6).bind λa7=>cond (a7) (some (.inr (.inr (a2:Int)))) (some (.inl (a2+1)))) (some (.inr (.inl ())))
def kS(s_:A3)(f_:(A2)->Option Bool):Option Int:=(iter (λ(s:Nat)=>kS.s2 s_ f_ s) fuel 0).bind (Sum.elim (λ_=>some (-1:Int)) some)
def BH(s_:A3)(f_:(A2)->Option Bool):Option Bool:=(kS s_ f_).bind λa2=>some (decide (0<=a2))
def vA(l_:A3)(w_:A2):Option Bool:=(BH l_ (λu0=>rY u0 w_)).bind λa2=>some a2
def kC(l_:C7):Option B8:=some (⟨l_.I,l_.Short,l_.X⟩:B8)
def kQ.s2(s_:A2)(f_:Int->Option Bool)(a2:Nat):Option (Nat⊕(Unit⊕Int)):=cond (decide ((a2:Int)<(s_.length:Int))) (idxn s_ a2 λa6=>(f_ a6).bind λa7=>cond (a7) (some (.inr (.inr (a2:Int)))) (some (.inl (a2+1)))) (some (.inr (.inl ())))
def kQ(s_:A2)(f_:Int->Option Bool):Option Int:=(iter (λ(s:Nat)=>kQ.s2 s_ f_ s) fuel 0).bind (Sum.elim (λ_=>some (-1:Int)) some)
def wQ(s_:A2)(f_:Int->Option Bool):Option Bool:=(kQ s_ f_).bind λa2=>some (decide (0<=a2))
def vV(inputs_:Int):Option Bool:=(cond (decide (1<=inputs_)) (some (decide (inputs_<=1024))) (some false)).bind (λa2=>some a2)
def rU(a_ p1_:Int):Option Bool:=(cond (decide (a_<0)) (some true) (some (decide (p1_<=a_)))).bind (λa2=>some a2)
def kR.s2(s_:A2)(f_:Int->Option Bool)(a2:Nat):Option (Nat⊕(Unit⊕Int)):=cond (decide ((a2:Int)<(s_.length:Int))) (idxn s_ a2 λa6=>(f_ a6).bind λa7=>cond (a7) (some (.inr (.inr (a2:Int)))) (some (.inl (a2+1)))) (some (.inr (.inl ())))
def kR(s_:A2)(f_:Int->Option Bool):Option Int:=(iter (λ(s:Nat)=>kR.s2 s_ f_ s) fuel 0).bind (Sum.elim (λ_=>some (-1:Int)) some)
def BG(s_:A2)(f_:Int->Option Bool):Option Bool:=(kR s_ f_).bind λa2=>some (decide (0<=a2))
def iK(w_:A2)(inputs_:Int):Option Int:=(vV inputs_).bind λa2=>cond ((!a2)) (some 2) (cond (decide (1024<(w_.length:Int))) (some 3) ((BG w_ (λu0=>rU u0 inputs_)).bind λa6=>cond (a6) (some 1) (some 0)))
def pK(l_:A3)(i_:Int):Option Bool:=(cond (decide (i_=0)) (some true) (chk (inR (i_-1)) (idx l_ (i_-1) λa2=>idx l_ i_ λa6=>(cJ a2 a6).bind λa7=>some (decide (a7<0))))).bind (λa8=>some a8)
def fF.s2(l_:A3)(a6:Int)(a2:Nat):Option ((Int×Nat)⊕Int):=cond (decide ((a2:Int)<(l_.length:Int))) (idxn l_ a2 λa7=>some (.inl ((max a6 (a7.length:Int)),(a2+1)))) (some (.inr a6))
def fF(l_:A3):Option Int:=(iter (λ(s:Int×Nat)=>fF.s2 l_ s.1 s.2) fuel (0,0)).bind (λa2=>some a2)
def U1.s2(t_:B8)(a6:List (ByteArray×Bool))(a2:Nat):Option (((List (ByteArray×Bool))×Nat)⊕((List (ByteArray×Bool)))):=cond (decide ((a2:Int)<(t_.P.length:Int))) (idxn t_.P a2 λa7=>(qX a7).bind λa8=>some (.inl ((mset a8 true a6),(a2+1)))) (some (.inr a6))
def U1.s4(t_:B8)(b5:List (ByteArray×Bool))(a6:Nat):Option (Nat⊕(Unit⊕Int)):=cond (decide ((a6:Int)<(t_.P.length:Int))) (idxn t_.P a6 λa2=>(iK a2 t_.I).bind λa7=>cond (decide (a7≠0)) (some (.inr (.inr a7))) ((cond (decide ((a6:Int)=0)) (cond (decide (0<(a2.length:Int))) (some true) ((pK t_.P (a6:Int)).bind λa8=>some (!a8))) ((pK t_.P (a6:Int)).bind λb0=>some (!b0))).bind (λb2=>cond (b2) (some (.inr (.inr 10))) ((cond (decide (0<(a2.length:Int))) (chk ((0:Int)<=((a2.length:Int)-1)/\((a2.length:Int)-1)<=(a2.length:Int)) ((qX (List.take (Int.toNat ((a2.length:Int)-1)) a2)).bind λb3=>some (!((mget b3 b5).getD false)))) (some false)).bind (λb4=>cond (b4) (some (.inr (.inr 1))) (some (.inl (a6+1)))))))) (some (.inr (.inl ())))
def U1.s6(t_:B8)(a2:Nat):Option (Nat⊕(Unit⊕Int)):=cond (decide ((a2:Int)<(t_.X.length:Int))) (idxn t_.X a2 λa6=>(iK a6 t_.I).bind λa7=>cond (decide (a7≠0)) (some (.inr (.inr a7))) (cond (decide ((a6.length:Int)=0)) (some (.inr (.inr 19))) ((pK t_.X (a2:Int)).bind λa8=>cond ((!a8)) (some (.inr (.inr 10))) (some (.inl (a2+1)))))) (some (.inr (.inl ())))
def U1(t_:B8):Option Int:=(cond (decide (t_.I<1)) (some true) (some (decide (64<t_.I)))).bind (λb0=>cond (b0) (some 2) (cond (decide ((t_.P.length:Int)=0)) (some 19) ((cond (decide (10000<(t_.P.length:Int))) (some true) (cond (decide (10000<(t_.X.length:Int))) (some true) (chk (inR (t_.I+1)) (chk (inR ((t_.P.length:Int)*(t_.I+1))) (chk (inR (((t_.P.length:Int)*(t_.I+1))*(t_.X.length:Int))) (some (decide (160000<(((t_.P.length:Int)*(t_.I+1))*(t_.X.length:Int)))))))))).bind (λb2=>cond (b2) (some 11) ((iter (λ(s:(List (ByteArray×Bool))×Nat)=>U1.s2 t_ s.1 s.2) fuel (([]:List (ByteArray×Bool)),0)).bind (λb3=>(iter (λ(s:Nat)=>U1.s4 t_ b3 s) fuel 0).bind (Sum.elim (λ_=>(iter (λ(s:Nat)=>U1.s6 t_ s) fuel 0).bind (Sum.elim (λ_=>(cond (decide ((t_.X.length:Int)<t_.I)) (some true) (chk (inR (t_.I-1)) (idx t_.X (t_.I-1) λa7=>some (decide (1<(a7.length:Int)))))).bind (λa8=>cond (a8) (some 1) ((fF t_.P).bind λa2=>(fF t_.X).bind λa6=>chk (inR (a2+a6)) (cond (decide (1023<(a2+a6))) (some 3) (some 0))))) some)) some)))))))
def fD.s2(l_:C7)(a2:Nat):Option (Nat⊕(Unit⊕Int)):=cond (decide ((a2:Int)<(l_.X.length:Int))) (idxn l_.X a2 λa6=>(cond (decide (1<(a6.length:Int))) (chk ((0:Int)<=1/\1<=(a6.length:Int)) ((vA l_.X (List.drop 1 a6)).bind λa7=>some (!a7))) (some false)).bind (λa8=>cond (a8) (some (.inr (.inr 1))) (some (.inl (a2+1))))) (some (.inr (.inl ())))
def fD(l_:C7):Option Int:=(kC l_).bind λa6=>(U1 a6).bind λa2=>cond (decide (a2≠0)) (some a2) ((iter (λ(s:Nat)=>fD.s2 l_ s) fuel 0).bind (Sum.elim (λ_=>some 0) some))
def oW(l_:C7)(o_:A6):Option Int:=(fD l_).bind λa2=>cond (decide (a2≠0)) (some a2) (cond (decide (l_.I≠o_.I)) (some 15) (some 0))
def dC.s2(slices_:A3)(size73 a2:Nat):Option ((Nat×Nat)⊕Nat):=cond (decide ((a2:Int)<(slices_.length:Int))) (idxn slices_ a2 λa6=>chk (inR ((size73:Int)+(a6.length:Int))) (cond (decide (((size73:Int)+(a6.length:Int))<0)) (none) (some (.inl ((size73+a6.length),(a2+1)))))) (some (.inr size73))
def dC.s4(slices_:A3)(a2:A2)(a6:Nat):Option ((A2×Nat)⊕A2):=cond (decide ((a6:Int)<(slices_.length:Int))) (idxn slices_ a6 λa7=>chk (E5 (List.length a2+List.length a7) 8) (some (.inl ((a2++a7),(a6+1))))) (some (.inr a2))
def dC(slices_:A3):Option A2:=(iter (λ(s:Nat×Nat)=>dC.s2 slices_ s.1 s.2) fuel (0,0)).bind (λsize68=>(ES (size68:Int)).bind λa6=>(iter (λ(s:A2×Nat)=>dC.s4 slices_ s.1 s.2) fuel (a6,0)).bind (λa2=>some a2))
def aW(parts_:A3):Option A2:=(dC parts_).bind λa2=>some a2
def pN(w_:A2)(a_:Int):Option A2:=(aW [w_,[a_]]).bind λa2=>some a2
def wG(a_ b_:A2)(p2_:(A2)->(A2)->Option Int):Option Bool:=(p2_ a_ b_).bind λa2=>some (decide (a2=0))
def Y8.s18(eq_:(A2)->(A2)->Option Bool)(a8:Nat)(a2:A3)(a7 a6:Nat):Option ((A3×Nat×Nat)⊕(A3×Nat)):=cond (decide ((a6:Int)<(↑(List.length a2-a8):Int))) (idxn a2 (a8+a6) λb0=>chk ((0:Int)<=((a6:Int)-1)) (idxn a2 (a8+(Int.toNat ((a6:Int)-1))) λb2=>(eq_ b0 b2).bind λb3=>cond ((!b3)) (idxn a2 (a8+a6) λb4=>idxn a2 a7 λb5=>chk (inR ((a7:Int)+1)) (some (.inl ((List.set a2 a7 b4),(a7+1),(a6+1))))) (some (.inl (a2,a7,(a6+1)))))) (some (.inr (a2,a7)))
def Y8.k19(a6:A3)(a2:Nat):Option (Nat⊕(Unit⊕A3)):=chk ((0:Int)<=(a2:Int)/\(a2:Int)<=(a6.length:Int)/\0<List.length a6) (chk (a2<=List.length a6) (chk ((0:Int)<=(a2:Int)/\(a2:Int)<=(↑(List.length (List.take a2 a6++List.replicate (List.length a6-a2) [])):Int)/\0<List.length (List.take a2 a6++List.replicate (List.length a6-a2) [])) (some (.inr (.inr (List.take a2 (List.take a2 a6++List.replicate (List.length a6-a2) [])))))))
def Y8.s20(s_:A3)(eq_:(A2)->(A2)->Option Bool)(a2:Nat):Option (Nat⊕(Unit⊕A3)):=cond (decide ((a2:Int)<(s_.length:Int))) (idxn s_ a2 λa6=>idx s_ ((a2:Int)-1) λa7=>(eq_ a6 a7).bind λa8=>cond (a8) (chk ((0:Int)<=(a2:Int)/\(a2:Int)<=(s_.length:Int)/\0<List.length s_) ((iter (λ(s:A3×Nat×Nat)=>Y8.s18 eq_ a2 s.1 s.2.1 s.2.2) fuel (s_,a2,1)).bind (λs=>Y8.k19 s.1 s.2))) (some (.inl (a2+1)))) (some (.inr (.inl ())))
def Y8(s_:A3)(eq_:(A2)->(A2)->Option Bool):Option A3:=cond (decide ((s_.length:Int)<2)) (some s_) ((iter (λ(s:Nat)=>Y8.s20 s_ eq_ s) fuel 1).bind (Sum.elim (λ_=>some s_) some))
def iX.s2(a7 a6:A3)(a2:Nat):Option ((A3×Nat)⊕A3):=cond (decide ((a2:Int)<(a7.length:Int))) (idxn a6 a2 λa8=>(cH a8).bind λb0=>idxn a6 a2 λb2=>chk (inR ((a2:Int)+1)) (some (.inl ((List.set a6 a2 b0),(a2+1))))) (some (.inr a6))
def iX(l_:A3)(order_:(A2)->(A2)->Option Int):Option A3:=(AR l_).bind λa6=>(GG a6 order_).bind λa7=>(Y8 a7 (λu0 u1=>wG u0 u1 order_)).bind λa2=>(iter (λ(s:A3×Nat)=>iX.s2 a2 s.1 s.2) fuel (a2,0)).bind (λa8=>some a8)
def gE.s2(a_ b_:A2)(a2:Nat):Option (Nat⊕(Unit⊕Int)):=cond (decide ((a2:Int)<(min (a_.length:Int) (b_.length:Int)))) (idxn a_ a2 λa6=>idxn b_ a2 λa7=>cond (decide (a6≠a7)) (some (.inr (.inr (a2:Int)))) (some (.inl (a2+1)))) (some (.inr (.inl ())))
def gE(a_ b_:A2):Option Int:=(iter (λ(s:Nat)=>gE.s2 a_ b_ s) fuel 0).bind (Sum.elim (λ_=>some (min (a_.length:Int) (b_.length:Int))) some)
def kK(w_ p_:A2):Option Bool:=(gE w_ p_).bind λa2=>some (decide (a2=(p_.length:Int)))
def wD(l_:A3):Option A3:=(iX l_ (λu0 u1=>cJ u0 u1)).bind λa2=>some a2
def jT(a_ b_:A2):Option Int:=(jA a_ b_).bind λa2=>some a2
def gN.s2(a8 a6:A3)(a2:Nat):Option ((A3×Nat)⊕A3):=cond (decide ((a2:Int)<(a8.length:Int))) (idxn a8 a2 λa7=>(cond (decide (((a2:Int)+1)=(a8.length:Int))) (some true) (idxn a8 (a2+1) λb0=>(kK b0 a7).bind λb2=>some (!b2))).bind (λb3=>cond (b3) (chk (E5 (List.length a6+1) 24) (some (.inl ((a6++[a7]),(a2+1))))) (some (.inl (a6,(a2+1)))))) (some (.inr a6))
def gN(l_:A3):Option A3:=(iX l_ (λu0 u1=>jT u0 u1)).bind λa7=>(iter (λ(s:A3×Nat)=>gN.s2 a7 s.1 s.2) fuel ([],0)).bind (λa2=>(wD a2).bind λa6=>some a6)
def oZ(t_:B8)(o_:A6):Option Int:=(U1 t_).bind λa2=>cond (decide (a2≠0)) (some a2) (cond (decide (t_.I≠o_.I)) (some 15) (some 0))
def aM(a_ b_:A8):Option Int:=(jT a_.In b_.In).bind λa2=>some a2
def oU(o_:A6):Option (List A8):=(GA o_.T).bind λa2=>(GK a2 (λu0 u1=>aM u0 u1)).bind λa6=>some a6
def jC.s2(x_:List A8)(target_:A2)(cmp_:A8->(A2)->Option Int)(a2 a6:Int):Option ((Int×Int)⊕Int):=cond (decide (a2<a6)) (chk (inR (a2+a6)) (chk ((0:Int)<=(a2+a6)/\(a2+a6)<=18446744073709551615) (chk ((0:Int)<=(a2+a6)/\(a2+a6)<=18446744073709551615) (chk (inR ((a2+a6) / 2^1)) (idx x_ ((a2+a6) / 2^1) λa7=>(cmp_ a7 target_).bind λa8=>cond (decide (a8<0)) (chk (inR (((a2+a6) / 2^1)+1)) (some (.inl ((((a2+a6) / 2^1)+1),a6)))) (some (.inl (a2,((a2+a6) / 2^1))))))))) (some (.inr a2))
def jC(x_:List A8)(target_:A2)(cmp_:A8->(A2)->Option Int):Option (Int×Bool):=(iter (λ(s:Int×Int)=>jC.s2 x_ target_ cmp_ s.1 s.2) fuel (0,(x_.length:Int))).bind (λa2=>(cond (decide (a2<(x_.length:Int))) (idx x_ a2 λa6=>(cmp_ a6 target_).bind λa7=>some (decide (a7=0))) (some false)).bind (λa8=>some (a2,a8)))
def mA(t_:A8)(w_:A2):Option Int:=(jT t_.In w_).bind λa2=>some a2
def sH(f_:List A8)(w_:A2):Option (A2×Bool):=cond (decide ((w_.length:Int)=0)) (some ([],true)) ((jC f_ w_ (λu0 u1=>mA u0 u1)).bind λa2=>(cond (decide (a2.1=(f_.length:Int))) (some true) (idx f_ a2.1 λa7=>(kK a7.In w_).bind λa8=>cond ((!a8)) (some true) (idx f_ a2.1 λb0=>some (decide ((b0.O.length:Int)<(w_.length:Int)))))).bind (λb2=>cond (b2) (some ([],false)) (idx f_ a2.1 λa6=>chk ((0:Int)<=(w_.length:Int)/\(w_.length:Int)<=(a6.O.length:Int)) (some ((List.take w_.length a6.O),true)))))
def wH(f_:List A8)(w_:A2):Option Bool:=(sH f_ w_).bind λa2=>some a2.2
def gM.s2(w_:A2)(p1_:B8)(p2_:List A8)(a2:A3)(a6:Nat):Option ((A3×Nat)⊕A3):=cond (decide ((a6:Int)<(p1_.X.length:Int))) (idxn p1_.X a6 λa8=>(aW [w_,a8]).bind λa7=>(wH p2_ a7).bind λb0=>cond ((!b0)) (chk (E5 (List.length a2+1) 24) (some (.inl ((a2++[a7]),(a6+1))))) (some (.inl (a2,(a6+1))))) (some (.inr a2))
def gM(w_:A2)(p1_:B8)(p2_:List A8)(p3_:A3):Option A3:=(iter (λ(s:A3×Nat)=>gM.s2 w_ p1_ p2_ s.1 s.2) fuel (p3_,0)).bind (λa2=>some a2)
def bN.s13(t_:B8)(b2:List A8)(a7:A2)(a6:A3)(a2:Nat):Option ((A3×Nat)⊕A3):=cond (decide ((a2:Int)<t_.I)) ((pN a7 (a2:Int)).bind λa8=>(gM a8 t_ b2 a6).bind λb0=>chk (inR ((a2:Int)+1)) (some (.inl (b0,(a2+1))))) (some (.inr a6))
def bN.s14(t_:B8)(b2:List A8)(a6:A3)(a2:Nat):Option ((A3×Nat)⊕A3):=cond (decide ((a2:Int)<(t_.P.length:Int))) (idxn t_.P a2 λa7=>(gM a7 t_ b2 a6).bind λa8=>(iter (λ(s:A3×Nat)=>bN.s13 t_ b2 a7 s.1 s.2) fuel (a8,0)).bind (λb0=>some (.inl (b0,(a2+1))))) (some (.inr a6))
def bN(t_:B8)(o_:A6):Option (A3×Int):=(oZ t_ o_).bind λa7=>cond (decide (a7≠0)) (some ([],a7)) ((oU o_).bind λa8=>(iter (λ(s:A3×Nat)=>bN.s14 t_ a8 s.1 s.2) fuel ([],0)).bind (λa2=>(gN a2).bind λa6=>some (a6,0)))
def fI.s2(f_:List A8)(t_:B8)(w_:A2)(a6:A3)(a7:Nat):Option ((A3×Nat)⊕(A3⊕(A3×Bool))):=cond (decide ((a7:Int)<(t_.X.length:Int))) (idxn t_.X a7 λa8=>(aW [w_,a8]).bind λb0=>(sH f_ b0).bind λa2=>cond ((!a2.2)) (some (.inr (.inr ([],false)))) (chk ((0:Int)<=(w_.length:Int)/\(w_.length:Int)<=(a2.1.length:Int)) ((cH (List.drop w_.length a2.1)).bind λb2=>chk (E5 (List.length a6+1) 24) (some (.inl ((a6++[b2]),(a7+1))))))) (some (.inr (.inl a6)))
def fI(f_:List A8)(t_:B8)(w_:A2):Option (A3×Bool):=chk ((0:Int)<=0/\0<=(t_.X.length:Int)/\E5 (Int.toNat (t_.X.length:Int)) 24) ((iter (λ(s:A3×Nat)=>fI.s2 f_ t_ w_ s.1 s.2) fuel ([],0)).bind (Sum.elim (λa2=>some (a2,true)) some))
def cM.s2(row_:A3)(a2:ByteArray)(a6:Nat):Option ((ByteArray×Nat)⊕ByteArray):=cond (decide ((a6:Int)<(row_.length:Int))) (idxn row_ a6 λa8=>(qX a8).bind λa7=>chk (ByteArray.size a7+ByteArray.size (⟨#[47]⟩:ByteArray)<=9223372036854775807) (chk (ByteArray.size a2+ByteArray.size (a7++(⟨#[47]⟩:ByteArray))<=9223372036854775807) (some (.inl ((a2++(a7++(⟨#[47]⟩:ByteArray))),(a6+1)))))) (some (.inr a2))
def cM.k3(v_:M6)(a7:List (A3))(a2:List (ByteArray×Int))(a6:Int):Option (Int×M6):=some (a6,(⟨a7,v_.prefixes,v_.next,a2⟩:M6))
def cM(v_:M6)(row_:A3):Option (Int×M6):=(iter (λ(s:ByteArray×Nat)=>cM.s2 row_ s.1 s.2) fuel ((⟨#[]⟩:ByteArray),0)).bind (λa2=>(cond ((!((mget a2 v_.number).isSome))) (chk (E5 (List.length v_.rows+1) 24) (some ((v_.rows++[row_]),(mset a2 (v_.rows.length:Int) v_.number),(v_.rows.length:Int)))) (some (v_.rows,v_.number,((mget a2 v_.number).getD 0))):Option (List (A3)×(List (ByteArray×Int))×Int)).bind (λs=>cM.k3 v_ s.1 s.2.1 s.2.2))
def N8.s2(t_:B8)(b4:List A8)(b2:List (A3))(a7:A2)(b3:List (ByteArray×Int))(a8:Nat):Option ((List (A3)×A2×(List (ByteArray×Int))×Nat)⊕((List (A3)×A2×(List (ByteArray×Int)))⊕(M6×Int))):=cond (decide ((a8:Int)<(t_.P.length:Int))) (idxn t_.P a8 λb0=>(fI b4 t_ b0).bind λa6=>cond ((!a6.2)) (some (.inr (.inr ((⟨[],[],[],[]⟩:M6),12)))) ((cM (⟨b2,a7,[],b3⟩:M6) a6.1).bind λa2=>chk (E5 (List.length a7+1) 8) (some (.inl (a2.2.rows,(a7++[a2.1]),a2.2.number,(a8+1)))))) (some (.inr (.inl (b2,a7,b3))))
def N8.s20(t_:B8)(b6:List A8)(b7:A2)(b3:A3)(b4:A2)(a8:List (A3))(b0:List (ByteArray×Int))(a6:A2)(a2:Nat):Option ((List (A3)×(List (ByteArray×Int))×A2×Nat)⊕((List (A3)×(List (ByteArray×Int))×A2)⊕((List (A3)×A3×(List (ByteArray×Int))×Nat)⊕((List (A3)×A3×(List (ByteArray×Int)))⊕(M6×Int))))):=cond (decide ((a2:Int)<t_.I)) ((pN b4 (a2:Int)).bind λb5=>(fI b6 t_ b5).bind λb2=>cond ((!b2.2)) (some (.inr (.inr (.inr (.inr ((⟨[],[],[],[]⟩:M6),12)))))) ((cM (⟨a8,b7,b3,b0⟩:M6) b2.1).bind λa7=>chk (E5 (List.length a6+1) 8) (chk (inR ((a2:Int)+1)) (some (.inl (a7.2.rows,a7.2.number,(a6++[a7.1]),(a2+1))))))) (some (.inr (.inl (a8,b0,a6))))
def N8.k21(a2:A3)(a6:Nat)(a7:List (A3))(a8:List (ByteArray×Int))(b0:A2):Option ((List (A3)×A3×(List (ByteArray×Int))×Nat)⊕((List (A3)×A3×(List (ByteArray×Int)))⊕(M6×Int))):=chk (E5 (List.length a2+1) 24) (some (.inl (a7,(a2++[b0]),a8,(a6+1))))
def N8.s22(t_:B8)(b2:List A8)(b3:A2)(a7:List (A3))(a2:A3)(a8:List (ByteArray×Int))(a6:Nat):Option ((List (A3)×A3×(List (ByteArray×Int))×Nat)⊕((List (A3)×A3×(List (ByteArray×Int)))⊕(M6×Int))):=cond (decide ((a6:Int)<(t_.P.length:Int))) (idxn t_.P a6 λb0=>(iter (λ(s:List (A3)×(List (ByteArray×Int))×A2×Nat)=>N8.s20 t_ b2 b3 a2 b0 s.1 s.2.1 s.2.2.1 s.2.2.2) fuel (a7,a8,[],0)).bind (Sum.elim (λs=>N8.k21 a2 a6 s.1 s.2.1 s.2.2) some)) (some (.inr (.inl (a7,a2,a8))))
def N8.k23(a8:A2)(a2:List (A3))(a6:A3)(a7:List (ByteArray×Int)):Option (M6×Int):=some ((⟨a2,a8,a6,a7⟩:M6),0)
def N8.k24(t_:B8)(a6:List A8)(a7:List (A3))(a2:A2)(a8:List (ByteArray×Int)):Option (M6×Int):=(iter (λ(s:List (A3)×A3×(List (ByteArray×Int))×Nat)=>N8.s22 t_ a6 a2 s.1 s.2.1 s.2.2.1 s.2.2.2) fuel (a7,[],a8,0)).bind (Sum.elim (λs=>N8.k23 a2 s.1 s.2.1 s.2.2) some)
def N8(t_:B8)(o_:A6):Option (M6×Int):=(oZ t_ o_).bind λa2=>cond (decide (a2≠0)) (some ((⟨[],[],[],[]⟩:M6),a2)) ((oU o_).bind λa6=>(iter (λ(s:List (A3)×A2×(List (ByteArray×Int))×Nat)=>N8.s2 t_ a6 s.1 s.2.1 s.2.2.1 s.2.2.2) fuel ([],[],([]:List (ByteArray×Int)),0)).bind (Sum.elim (λs=>N8.k24 t_ a6 s.1 s.2.1 s.2.2) some))
def lY.s2(s_:A2)(v_:Int)(a2:Nat):Option (Nat⊕(Unit⊕Int)):=cond (decide ((a2:Int)<(s_.length:Int))) (idxn s_ a2 λa6=>cond (decide (v_=a6)) (some (.inr (.inr (a2:Int)))) (some (.inl (a2+1)))) (some (.inr (.inl ())))
def lY(s_:A2)(v_:Int):Option Int:=(iter (λ(s:Nat)=>lY.s2 s_ v_ s) fuel 0).bind (Sum.elim (λ_=>some (-1:Int)) some)
def wO(s_:A2)(v_:Int):Option Bool:=(lY s_ v_).bind λa2=>some (decide (0<=a2))
def cK.s13(v_:M6)(a7:Nat)(a6:A2)(a2:Nat):Option (Nat⊕(Unit⊕(Nat⊕(Unit⊕(Int×Int×Bool))))):=cond (decide ((a2:Int)<(a6.length:Int))) (idxn a6 a2 λa8=>(wO v_.prefixes a8).bind λb0=>cond ((!b0)) (some (.inr (.inr (.inr (.inr ((a7:Int),(a2:Int),true)))))) (some (.inl (a2+1)))) (some (.inr (.inl ())))
def cK.s14(v_:M6)(a2:Nat):Option (Nat⊕(Unit⊕(Int×Int×Bool))):=cond (decide ((a2:Int)<(v_.next.length:Int))) (idxn v_.next a2 λa6=>(iter (λ(s:Nat)=>cK.s13 v_ a2 a6 s) fuel 0).bind (Sum.elim (λ_=>some (.inl (a2+1))) some)) (some (.inr (.inl ())))
def cK(v_:M6):Option (Int×Int×Bool):=(iter (λ(s:Nat)=>cK.s14 v_ s) fuel 0).bind (Sum.elim (λ_=>some (0,0,false)) some)
def vR(t_:B8)(o_:A6):Option (A2×Bool×Int):=(N8 t_ o_).bind λa2=>cond (decide (a2.2≠0)) (some ([],false,a2.2)) ((cK a2.1).bind λa6=>cond ((!a6.2.2)) (some ([],false,0)) (idx t_.P a6.1 λa7=>(pN a7 a6.2.1).bind λa8=>some (a8,true,0)))
def R9.s1019(a7:Nat)(a6 a8:A3)(a2:Nat):Option (Nat⊕(Unit⊕(Nat⊕(Unit⊕(Unit⊕(Nat⊕(Unit⊕(Nat⊕(Unit⊕(Int×Int×Bool)))))))))):=cond (decide ((a2:Int)<(a6.length:Int))) (idxn a6 a2 λb0=>idxn a8 a2 λb2=>(bS b0 b2).bind λb3=>cond ((!b3)) (some (.inr (.inr (.inr (.inr (.inr (.inr (.inr (.inr (.inr ((a7:Int),(a2:Int),true))))))))))) (some (.inl (a2+1)))) (some (.inr (.inl ())))
def R9.s1020(v_:M6)(a6 a7:Nat)(a8:A2)(a2:Nat):Option (Nat⊕(Unit⊕(Unit⊕(Nat⊕(Unit⊕(Nat⊕(Unit⊕(Int×Int×Bool)))))))):=cond (decide ((a2:Int)<(a8.length:Int))) (idxn v_.next a6 λb0=>idxn b0 a2 λb2=>idx v_.rows b2 λb3=>idxn v_.next a7 λb4=>idxn b4 a2 λb5=>idx v_.rows b5 λb6=>(iter (λ(s:Nat)=>R9.s1019 a2 b3 b6 s) fuel 0).bind (Sum.elim (λ_=>chk (inR ((a2:Int)+1)) (some (.inl (a2+1)))) some)) (some (.inr (.inl ())))
def R9.s1021(v_:M6)(a6:Nat)(a7:Int)(a2:Nat):Option (Nat⊕(Unit⊕(Nat⊕(Unit⊕(Int×Int×Bool))))):=cond (decide ((a2:Int)<(v_.prefixes.length:Int))) ((idxn v_.prefixes a2 λa8=>cond (decide (a8≠a7)) (some (.inl ())) (idxn v_.next a6 λb0=>(iter (λ(s:Nat)=>R9.s1020 v_ a6 a2 b0 s) fuel 0).bind (Sum.elim (λ_=>some (.inl ())) some)):Option (Unit⊕(Nat⊕(Unit⊕(Nat⊕(Unit⊕(Int×Int×Bool))))))).bind (Sum.elim (λ_=>some (.inl (a2+1))) some)) (some (.inr (.inl ())))
def R9.s1022(v_:M6)(a2:Nat):Option (Nat⊕(Unit⊕(Int×Int×Bool))):=cond (decide ((a2:Int)<(v_.prefixes.length:Int))) (idxn v_.prefixes a2 λa6=>(iter (λ(s:Nat)=>R9.s1021 v_ a2 a6 s) fuel (a2+1)).bind (Sum.elim (λ_=>some (.inl (a2+1))) some)) (some (.inr (.inl ())))
def R9(v_:M6):Option (Int×Int×Bool):=(iter (λ(s:Nat)=>R9.s1022 v_ s) fuel 0).bind (Sum.elim (λ_=>some (0,0,false)) some)
def wJ(t_:B8)(o_:A6):Option (A2×Bool×Int):=(N8 t_ o_).bind λa2=>cond (decide (a2.2≠0)) (some ([],false,a2.2)) ((R9 a2.1).bind λa6=>cond ((!a6.2.2)) (some ([],false,0)) (idx t_.X a6.2.1 λa7=>(aW [[a6.1],a7]).bind λa8=>some (a8,true,0)))
def iO.s2(l_ a2:A3)(a6:Nat):Option ((A3×Nat)⊕A3):=cond (decide ((a6:Int)<(l_.length:Int))) (idxn l_ a6 λa7=>(cH a7).bind λa8=>chk (E5 (List.length a2+1) 24) (some (.inl ((a2++[a8]),(a6+1))))) (some (.inr a2))
def iO(l_:A3):Option A3:=(iter (λ(s:A3×Nat)=>iO.s2 l_ s.1 s.2) fuel ([],0)).bind (λa2=>some a2)
def rJ(l_:C7):Option C7:=(iO l_.Short).bind λa2=>(iO l_.X).bind λa6=>some (⟨l_.I,a2,a6⟩:C7)
def eX.k1(l_:C7)(a2 a6:A3):Option (C7×A3×Bool×Int):=(fD (⟨l_.I,a2,a6⟩:C7)).bind λa7=>cond (decide (a7≠0)) (some (l_,[],false,a7)) ((rJ (⟨l_.I,a2,a6⟩:C7)).bind λa8=>some (a8,[],false,0))
def eX(l_:C7)(o_:A6):Option (C7×A3×Bool×Int):=(oW l_ o_).bind λb0=>cond (decide (b0≠0)) (some (l_,[],false,b0)) ((kC l_).bind λa8=>(bN a8 o_).bind λa2=>(cond (decide (a2.2≠0)) (some true) (some (decide (0<(a2.1.length:Int))))).bind (λb2=>cond (b2) (some (l_,a2.1,false,a2.2)) (((vR a8 o_).bind λa6=>cond (decide (a6.2.2≠0)) (some (.inr (l_,[],false,a6.2.2))) (cond (a6.2.1) ((oN l_.Short a6.1).bind λb3=>some (.inl (b3,l_.X))) ((wJ a8 o_).bind λa7=>cond (decide (a7.2.2≠0)) (some (.inr (l_,[],false,a7.2.2))) (cond ((!a7.2.1)) (some (.inr (l_,[],true,0))) ((oN l_.X a7.1).bind λb4=>some (.inl (l_.Short,b4)))))):Option ((A3×A3)⊕(C7×A3×Bool×Int))).bind (Sum.elim (λs=>eX.k1 l_ s.1 s.2) some))))
def sE(t_:A8)(p1_:A2):Option Bool:=(kK t_.In p1_).bind λa2=>some a2
def cN.s2(s_:List A8)(f_:A8->Option Bool)(a2:Nat):Option (Nat⊕(Unit⊕Int)):=cond (decide ((a2:Int)<(s_.length:Int))) (idxn s_ a2 λa6=>(f_ a6).bind λa7=>cond (a7) (some (.inr (.inr (a2:Int)))) (some (.inl (a2+1)))) (some (.inr (.inl ())))
def cN(s_:List A8)(f_:A8->Option Bool):Option Int:=(iter (λ(s:Nat)=>cN.s2 s_ f_ s) fuel 0).bind (Sum.elim (λ_=>some (-1:Int)) some)
def kM(o_:A6)(w_:A2):Option (A2×Bool):=cond (decide ((w_.length:Int)=0)) (some ([],true)) ((cN o_.T (λu0=>sE u0 w_)).bind λa6=>cond (decide (a6<0)) (some ([],false)) (idx o_.T a6 λa2=>chk ((0:Int)<=(min (w_.length:Int) (a2.O.length:Int))/\(min (w_.length:Int) (a2.O.length:Int))<=(a2.O.length:Int)) ((cH (List.take (Int.toNat (min (w_.length:Int) (a2.O.length:Int))) a2.O)).bind λa7=>some (a7,true))))
def lW(r_:J2)(w_ v_:A2):Option (A2×J2):=(aW [w_,v_]).bind λa2=>cond (decide (1024<(a2.length:Int))) (some ([],(⟨r_.l,r_.o,r_.missing,true⟩:J2))) ((kM r_.o a2).bind λa6=>cond ((!a6.2)) (chk (E5 (List.length r_.missing+1) 24) (some ([],(⟨r_.l,r_.o,(r_.missing++[a2]),r_.long⟩:J2)))) (chk ((0:Int)<=(w_.length:Int)/\(w_.length:Int)<=(a6.1.length:Int)) (some ((List.drop w_.length a6.1),r_))))
def bP.s2(r_:J2)(w_:A2)(a8:Int)(b0:List A8)(b2:A3)(b3:Bool)(a6:A3)(a7:Nat):Option ((Int×List A8×A3×Bool×A3×Nat)⊕(Int×List A8×A3×Bool×A3)):=cond (decide ((a7:Int)<(r_.l.X.length:Int))) (idxn r_.l.X a7 λb4=>(lW (⟨r_.l,(⟨a8,b0⟩:A6),b2,b3⟩:J2) w_ b4).bind λa2=>chk (E5 (List.length a6+1) 24) (some (.inl (a2.2.o.I,a2.2.o.T,a2.2.missing,a2.2.long,(a6++[a2.1]),(a7+1))))) (some (.inr (a8,b0,b2,b3,a6)))
def bP.k3(r_:J2)(a2:Int)(a6:List A8)(a7:A3)(a8:Bool)(b0:A3):Option (A3×J2):=some (b0,(⟨r_.l,(⟨a2,a6⟩:A6),a7,a8⟩:J2))
def bP(r_:J2)(w_:A2):Option (A3×J2):=(iter (λ(s:Int×List A8×A3×Bool×A3×Nat)=>bP.s2 r_ w_ s.1 s.2.1 s.2.2.1 s.2.2.2.1 s.2.2.2.2.1 s.2.2.2.2.2) fuel (r_.o.I,r_.o.T,r_.missing,r_.long,[],0)).bind (λs=>bP.k3 r_ s.1 s.2.1 s.2.2.1 s.2.2.2.1 s.2.2.2.2)
def uB(t_:B8)(o_:A6)(w_:A2):Option (A3×Bool):=(oZ t_ o_).bind λa6=>cond (decide (a6≠0)) (some ([],false)) ((oU o_).bind λa7=>(fI a7 t_ w_).bind λa2=>some (a2.1,a2.2))
def kU.s2(s1_ s2_:A3)(eq_:(A2)->(A2)->Option Bool)(a2:Nat):Option (Nat⊕(Unit⊕Bool)):=cond (decide ((a2:Int)<(s1_.length:Int))) (idxn s1_ a2 λa6=>idxn s2_ a2 λa7=>(eq_ a6 a7).bind λa8=>cond ((!a8)) (some (.inr (.inr false))) (some (.inl (a2+1)))) (some (.inr (.inl ())))
def kU(s1_ s2_:A3)(eq_:(A2)->(A2)->Option Bool):Option Bool:=cond (decide ((s1_.length:Int)≠(s2_.length:Int))) (some false) ((iter (λ(s:Nat)=>kU.s2 s1_ s2_ eq_ s) fuel 0).bind (Sum.elim (λ_=>some true) some))
def rW(x_ y_:A2):Option Bool:=(bS x_ y_).bind λa2=>some a2
def qY(a_ b_:A3):Option Bool:=(kU a_ b_ (λu0 u1=>rW u0 u1)).bind λa2=>some a2
def gO.s2(r_:J2)(row_:A3)(a2:Nat):Option (Nat⊕(Unit⊕(A2×Bool×J2))):=cond (decide ((a2:Int)<(r_.l.Short.length:Int))) (idxn r_.l.Short a2 λa6=>(kC r_.l).bind λa8=>(uB a8 r_.o a6).bind λa7=>(cond (a7.2) ((qY a7.1 row_).bind λb0=>some b0) (some false)).bind (λb2=>cond (b2) (some (.inr (.inr (a6,true,r_)))) (some (.inl (a2+1))))) (some (.inr (.inl ())))
def gO(r_:J2)(row_:A3):Option (A2×Bool×J2):=(iter (λ(s:Nat)=>gO.s2 r_ row_ s) fuel 0).bind (Sum.elim (λ_=>some ([],false,r_)) some)
def nK(r_:J2):Option (Bool×J2):=(cond (r_.long) (some true) (some (decide (0<(r_.missing.length:Int))))).bind (λa2=>some (a2,r_))
def bR.s2(b0:Int)(b2 b9:A3)(c0:Int)(c6:List A8)(c7:A3)(c8:Bool)(d1 a8 d2:A2)(b6:A3):Option ((Int×A3×A3×Int×List A8×A3×Bool×A2×A2×A2×A3)⊕((Int×A3×A3×Int×List A8×A3×Bool×A3)⊕(A3×Int×J2))):=cond (decide (1<(a8.length:Int))) (chk ((0:Int)<=1/\1<=(a8.length:Int)) ((aW [d1,(List.take 1 a8)]).bind λb8=>chk ((0:Int)<=1/\1<=(a8.length:Int)) ((aW [d2,(List.take 1 a8)]).bind λc9=>chk ((0:Int)<=1/\1<=(a8.length:Int)) ((bP (⟨(⟨b0,b2,b9⟩:C7),(⟨c0,c6⟩:A6),c7,c8⟩:J2) b8).bind λb4=>(bP (⟨(⟨b0,b2,b4.2.l.X⟩:C7),b4.2.o,b4.2.missing,b4.2.long⟩:J2) c9).bind λa6=>(nK (⟨(⟨b0,b2,a6.2.l.X⟩:C7),a6.2.o,a6.2.missing,a6.2.long⟩:J2)).bind λa7=>cond (a7.1) (some (.inr (.inr ([],0,(⟨(⟨b0,b2,a6.2.l.X⟩:C7),a6.2.o,a7.2.missing,a7.2.long⟩:J2))))) ((qY b4.1 a6.1).bind λd3=>cond ((!d3)) (some (.inr (.inr (b6,0,(⟨(⟨b0,b2,a6.2.l.X⟩:C7),a6.2.o,a7.2.missing,a7.2.long⟩:J2))))) ((gO (⟨(⟨b0,b2,a6.2.l.X⟩:C7),a6.2.o,a7.2.missing,a7.2.long⟩:J2) b4.1).bind λa2=>cond ((!a2.2.1)) (some (.inr (.inr ([],10,(⟨a2.2.2.l,a2.2.2.o,a7.2.missing,a7.2.long⟩:J2))))) ((lW (⟨a2.2.2.l,a2.2.2.o,a7.2.missing,a7.2.long⟩:J2) b8 (List.drop 1 a8)).bind λb7=>(lW (⟨a2.2.2.l,b7.2.o,b7.2.missing,b7.2.long⟩:J2) a2.1 (List.drop 1 a8)).bind λb3=>(nK (⟨a2.2.2.l,b3.2.o,b3.2.missing,b3.2.long⟩:J2)).bind λb5=>cond (b5.1) (some (.inr (.inr ([],0,(⟨a2.2.2.l,b3.2.o,b5.2.missing,b5.2.long⟩:J2))))) (((bS b7.1 b3.1).bind λd4=>cond ((!d4)) (some b8) (some c9):Option A2).bind (λd0=>chk (E5 (List.length b6+1) 24) (some (.inl (a2.2.2.l.I,a2.2.2.l.Short,a2.2.2.l.X,b3.2.o.I,b3.2.o.T,b5.2.missing,b5.2.long,d0,(List.drop 1 a8),a2.1,(b6++[d0]))))))))))))) (some (.inr (.inl (b0,b2,b9,c0,c6,c7,c8,b6))))
def bR.k3(a2:Int)(a6 a7:A3)(a8:Int)(b0:List A8)(b2:A3)(b3:Bool)(b4:A3):Option (A3×Int×J2):=some (b4,0,(⟨(⟨a2,a6,a7⟩:C7),(⟨a8,b0⟩:A6),b2,b3⟩:J2))
def bR(r_:J2)(u_ v_:A2):Option (A3×Int×J2):=(bP r_ u_).bind λa6=>(nK (⟨(⟨r_.l.I,r_.l.Short,a6.2.l.X⟩:C7),a6.2.o,a6.2.missing,a6.2.long⟩:J2)).bind λa7=>cond (a7.1) (some ([],0,(⟨(⟨r_.l.I,r_.l.Short,a6.2.l.X⟩:C7),a6.2.o,a7.2.missing,a7.2.long⟩:J2))) ((gO (⟨(⟨r_.l.I,r_.l.Short,a6.2.l.X⟩:C7),a6.2.o,a7.2.missing,a7.2.long⟩:J2) a6.1).bind λa2=>cond ((!a2.2.1)) (some ([],10,(⟨a2.2.2.l,a2.2.2.o,a7.2.missing,a7.2.long⟩:J2))) ((lW (⟨a2.2.2.l,a2.2.2.o,a7.2.missing,a7.2.long⟩:J2) u_ v_).bind λb2=>(lW (⟨a2.2.2.l,b2.2.o,b2.2.missing,b2.2.long⟩:J2) a2.1 v_).bind λa8=>(nK (⟨a2.2.2.l,a8.2.o,a8.2.missing,a8.2.long⟩:J2)).bind λb0=>cond (b0.1) (some ([],0,(⟨a2.2.2.l,a8.2.o,b0.2.missing,b0.2.long⟩:J2))) ((bS b2.1 a8.1).bind λb3=>cond (b3) (some ([],15,(⟨a2.2.2.l,a8.2.o,b0.2.missing,b0.2.long⟩:J2))) ((iter (λ(s:Int×A3×A3×Int×List A8×A3×Bool×A2×A2×A2×A3)=>bR.s2 s.1 s.2.1 s.2.2.1 s.2.2.2.1 s.2.2.2.2.1 s.2.2.2.2.2.1 s.2.2.2.2.2.2.1 s.2.2.2.2.2.2.2.1 s.2.2.2.2.2.2.2.2.1 s.2.2.2.2.2.2.2.2.2.1 s.2.2.2.2.2.2.2.2.2.2) fuel (a2.2.2.l.I,a2.2.2.l.Short,a2.2.2.l.X,a8.2.o.I,a8.2.o.T,b0.2.missing,b0.2.long,u_,v_,a2.1,[u_])).bind (Sum.elim (λs=>bR.k3 s.1 s.2.1 s.2.2.1 s.2.2.2.1 s.2.2.2.2.1 s.2.2.2.2.2.1 s.2.2.2.2.2.2.1 s.2.2.2.2.2.2.2) some)))))
def gF.s2(a6:A3×Int×J2)(a7:A3)(a2:Nat):Option ((A3×Nat)⊕A3):=cond (decide ((a2:Int)<(a6.1.length:Int))) (idxn a6.1 a2 λa8=>(oN a7 a8).bind λb0=>some (.inl (b0,(a2+1)))) (some (.inr a7))
def gF(l_:C7)(o_:A6)(s_:J8):Option (C7×A3×Int):=(oW l_ o_).bind λa8=>cond (decide (a8≠0)) (some (l_,[],a8)) ((iK s_.Prefix l_.I).bind λb0=>cond (decide (b0≠0)) (some (l_,[],b0)) ((cond (decide (s_.Symbol<0)) (some true) (some (decide (l_.I<=s_.Symbol)))).bind (λb4=>cond (b4) (some (l_,[],2)) (cond (decide ((s_.Suffix.length:Int)=0)) (some (l_,[],19)) ((iK s_.Suffix l_.I).bind λb2=>cond (decide (b2≠0)) (some (l_,[],b2)) ((aW [s_.Prefix,[s_.Symbol]]).bind λb5=>(bR (⟨l_,o_,[],false⟩:J2) b5 s_.Suffix).bind λa2=>cond (a2.2.2.long) (some (l_,[],3)) (cond (decide (a2.2.1≠0)) (some (l_,[],a2.2.1)) (cond (decide (0<(a2.2.2.missing.length:Int))) ((gN a2.2.2.missing).bind λb6=>some (l_,b6,0)) ((iter (λ(s:A3×Nat)=>gF.s2 a2 s.1 s.2) fuel (l_.Short,0)).bind (λb3=>(fD (⟨l_.I,b3,l_.X⟩:C7)).bind λa6=>cond (decide (a6≠0)) (some (l_,[],a6)) ((rJ (⟨l_.I,b3,l_.X⟩:C7)).bind λa7=>some (a7,[],0))))))))))))
def U6.s30(t_:B8)(b3:M6×Int)(a7:Int)(a6:A2)(a2:Nat):Option ((A2×Nat)⊕A2):=cond (decide ((a2:Int)<t_.I)) (idx b3.1.rows a7 λa8=>idxn a8 a2 λb0=>idxn b0 0 λb2=>chk (E5 (List.length a6+1) 8) (chk (inR ((a2:Int)+1)) (some (.inl ((a6++[b2]),(a2+1)))))) (some (.inr a6))
def U6.k31(a2:Nat)(a6 a7 a8:A3):Option ((A3×A3×A3×Nat)⊕(A3×A3×A3)):=some (.inl (a6,a7,a8,(a2+1)))
def U6.s32(t_:B8)(b2:M6×Int)(a7 a8 a2:A3)(a6:Nat):Option ((A3×A3×A3×Nat)⊕(A3×A3×A3)):=cond (decide ((a6:Int)<(b2.1.prefixes.length:Int))) ((idxn b2.1.prefixes a6 λb0=>cond (decide (b0<(a2.length:Int))) (some (a7,a8,a2)) ((iter (λ(s:A2×Nat)=>U6.s30 t_ b2 b0 s.1 s.2) fuel ([],0)).bind (λb3=>idxn b2.1.next a6 λb4=>(cH b4).bind λb5=>chk (E5 (List.length a7+1) 24) (chk (E5 (List.length a8+1) 24) (idxn t_.P a6 λb6=>(cH b6).bind λb7=>chk (E5 (List.length a2+1) 24) (some ((a7++[b5]),(a8++[b3]),(a2++[b7]))))))):Option (A3×A3×A3)).bind (λs=>U6.k31 a6 s.1 s.2.1 s.2.2)) (some (.inr (a7,a8,a2)))
def U6.k33(t_:B8)(a2 a6 a7:A3):Option (E3×Int):=some ((⟨(⟨t_.I,0,a2,a6⟩:B7),a7⟩:E3),0)
def U6(t_:B8)(o_:A6):Option (E3×Int):=(N8 t_ o_).bind λa2=>cond (decide (a2.2≠0)) (some ((⟨(⟨0,0,[],[]⟩:B7),[]⟩:E3),a2.2)) ((cK a2.1).bind λa6=>(R9 a2.1).bind λa7=>(cond (a6.2.2) (some true) (some a7.2.2)).bind (λa8=>cond (a8) (some ((⟨(⟨0,0,[],[]⟩:B7),[]⟩:E3),10)) (cond (decide (128<(a2.1.rows.length:Int))) (some ((⟨(⟨0,0,[],[]⟩:B7),[]⟩:E3),11)) ((iter (λ(s:A3×A3×A3×Nat)=>U6.s32 t_ a2 s.1 s.2.1 s.2.2.1 s.2.2.2) fuel ([],[],[],0)).bind (λs=>U6.k33 t_ s.1 s.2.1 s.2.2)))))
def nJ(l_:C7)(o_:A6):Option (E3×Int):=(oW l_ o_).bind λa2=>cond (decide (a2≠0)) (some ((⟨(⟨0,0,[],[]⟩:B7),[]⟩:E3),a2)) ((kC l_).bind λa7=>(U6 a7 o_).bind λa6=>some (a6.1,a6.2))
def tW:Option Bool:=(oE 2).bind λa8=>(L23_Gate).bind λb2=>(eX a8.1 b2).bind λa2=>(oE 1).bind λa7=>(gF a7.1 (⟨1,[(⟨[0,0,0],[0,0,1]⟩:A8)]⟩:A6) (⟨[],0,[0,0]⟩:J8)).bind λa6=>(nJ a7.1 (⟨1,[(⟨[0,0,0],[0,0,1]⟩:A8)]⟩:A6)).bind λb0=>(cond (decide (a8.2≠0)) (some true) (cond (decide (a2.2.2.2≠0)) (some true) (cond (decide (a7.2≠0)) (some true) (cond (decide (a6.2.2≠0)) (some true) (cond (decide (b0.2≠0)) (some true) (cond (a2.2.2.1) (some true) (cond (decide ((a2.2.1.length:Int)≠0)) (some true) (some (decide ((a6.2.1.length:Int)≠0)))))))))).bind (λb3=>cond (b3) (some false) (((nG a2.1.Short [[],[0]]).bind λb4=>cond (b4) ((nG a6.1.Short [[],[0]]).bind λb5=>cond (b5) ((nG a6.1.X [[0]]).bind λb6=>cond (b6) (some (decide ((b0.1.M.N.length:Int)=1))) (some false)) (some false)) (some false)).bind (λb7=>some b7)))
def AY(m_:lV)(s_ a_:Int):Option (Int×Int):=idx m_.Mealy.N s_ λa2=>idx a2 a_ λa6=>idx m_.Mealy.O s_ λa7=>idx a7 a_ λa8=>some (a6,a8)
def dD.s2(r_:fG)(w_:A2)(a7:Int)(a2:A2)(a6:Nat):Option ((Int×A2×Nat)⊕(Int×A2)):=cond (decide ((a6:Int)<(w_.length:Int))) (idxn w_ a6 λb0=>(AY r_.machine a7 b0).bind λa8=>chk (E5 (List.length a2+1) 8) (some (.inl (a8.1,(a2++[a8.2]),(a6+1))))) (some (.inr (a7,a2)))
def dD.k3(r_:fG)(a2:Int)(a6:A2):Option (A2×fG):=some (a6,(⟨r_.machine,a2⟩:fG))
def dD(r_:fG)(w_:A2):Option (A2×fG):=(iter (λ(s:Int×A2×Nat)=>dD.s2 r_ w_ s.1 s.2.1 s.2.2) fuel (r_.at_,[],0)).bind (λs=>dD.k3 r_ s.1 s.2)
def aD.s13(m_:B7)(a6 a2:Nat):Option (Nat⊕(Unit⊕(Nat⊕(Unit⊕Int)))):=cond (decide ((a2:Int)<m_.I)) (idxn m_.N a6 λb0=>idxn b0 a2 λa7=>idxn m_.O a6 λb2=>idxn b2 a2 λa8=>(cond (decide (a7<0)) (some true) (cond (decide ((m_.N.length:Int)<=a7)) (some true) (cond (decide (a8<0)) (some true) (some (decide (1048576<a8)))))).bind (λb3=>cond (b3) (some (.inr (.inr (.inr (.inr 2))))) (chk (inR ((a2:Int)+1)) (some (.inl (a2+1)))))) (some (.inr (.inl ())))
def aD.s14(m_:B7)(a2:Nat):Option (Nat⊕(Unit⊕Int)):=cond (decide ((a2:Int)<(m_.N.length:Int))) ((idxn m_.N a2 λa6=>cond (decide ((a6.length:Int)≠m_.I)) (some true) (idxn m_.O a2 λa7=>some (decide ((a7.length:Int)≠m_.I)))).bind (λa8=>cond (a8) (some (.inr (.inr 1))) ((iter (λ(s:Nat)=>aD.s13 m_ a2 s) fuel 0).bind (Sum.elim (λ_=>some (.inl (a2+1))) some)))) (some (.inr (.inl ())))
def aD(m_:B7):Option Int:=(cond (decide (m_.I<1)) (some true) (some (decide (64<m_.I)))).bind (λa2=>cond (a2) (some 2) (cond (decide ((m_.N.length:Int)=0)) (some 19) (cond (decide (128<(m_.N.length:Int))) (some 11) ((cond (decide (m_.S<0)) (some true) (some (decide ((m_.N.length:Int)<=m_.S)))).bind (λa6=>cond (a6) (some 2) (cond (decide ((m_.O.length:Int)≠(m_.N.length:Int))) (some 1) ((iter (λ(s:Nat)=>aD.s14 m_ s) fuel 0).bind (Sum.elim (λ_=>some 0) some))))))))
def zQ(m_:B7)(s_:Int):Option Int:=(aD m_).bind λa2=>cond (decide (a2≠0)) (some a2) ((cond (decide (s_<0)) (some true) (some (decide ((m_.N.length:Int)<=s_)))).bind (λa6=>cond (a6) (some 2) (some 0)))
def rK(m_:B7)(s_:Int)(w_:A2):Option (A2×Int×Int):=(zQ m_ s_).bind λa2=>cond (decide (a2≠0)) (some ([],0,a2)) ((iK w_ m_.I).bind λa6=>cond (decide (a6≠0)) (some ([],0,a6)) ((dD (⟨(⟨m_⟩:lV),s_⟩:fG) w_).bind λa7=>some (a7.1,a7.2.at_,0)))
def uA(m_:B7)(w_:A2):Option (A2×Int):=(rK m_ m_.S w_).bind λa2=>some (a2.1,a2.2.2)
def sD(t_:A8):Option A8:=(cH t_.In).bind λa2=>(cH t_.O).bind λa6=>some (⟨a2,a6⟩:A8)
def iS.s2(l_ a2:List A8)(a6:Nat):Option ((List A8×Nat)⊕List A8):=cond (decide ((a6:Int)<(l_.length:Int))) (idxn l_ a6 λa7=>(sD a7).bind λa8=>chk (E5 (List.length a2+1) 48) (some (.inl ((a2++[a8]),(a6+1))))) (some (.inr a2))
def iS(l_:List A8):Option (List A8):=chk ((0:Int)<=0/\0<=((l_.length:Int)+1)/\E5 (Int.toNat ((l_.length:Int)+1)) 48) ((iter (λ(s:List A8×Nat)=>iS.s2 l_ s.1 s.2) fuel ([],0)).bind (λa2=>some a2))
def jD.s2(x_:List A8)(target_:A8)(cmp_:A8->A8->Option Int)(a2 a6:Int):Option ((Int×Int)⊕Int):=cond (decide (a2<a6)) (chk (inR (a2+a6)) (chk ((0:Int)<=(a2+a6)/\(a2+a6)<=18446744073709551615) (chk ((0:Int)<=(a2+a6)/\(a2+a6)<=18446744073709551615) (chk (inR ((a2+a6) / 2^1)) (idx x_ ((a2+a6) / 2^1) λa7=>(cmp_ a7 target_).bind λa8=>cond (decide (a8<0)) (chk (inR (((a2+a6) / 2^1)+1)) (some (.inl ((((a2+a6) / 2^1)+1),a6)))) (some (.inl (a2,((a2+a6) / 2^1))))))))) (some (.inr a2))
def jD(x_:List A8)(target_:A8)(cmp_:A8->A8->Option Int):Option (Int×Bool):=(iter (λ(s:Int×Int)=>jD.s2 x_ target_ cmp_ s.1 s.2) fuel (0,(x_.length:Int))).bind (λa2=>(cond (decide (a2<(x_.length:Int))) (idx x_ a2 λa6=>(cmp_ a6 target_).bind λa7=>some (decide (a7=0))) (some false)).bind (λa8=>some (a2,a8)))
def vW(a_ b_:A8):Option Int:=(gE a_.In b_.In).bind λa2=>chk ((0:Int)<=(min (min a2 (a_.O.length:Int)) (b_.O.length:Int))/\(min (min a2 (a_.O.length:Int)) (b_.O.length:Int))<=(a_.O.length:Int)) (chk ((0:Int)<=(min (min a2 (a_.O.length:Int)) (b_.O.length:Int))/\(min (min a2 (a_.O.length:Int)) (b_.O.length:Int))<=(b_.O.length:Int)) ((gE (List.take (Int.toNat (min (min a2 (a_.O.length:Int)) (b_.O.length:Int))) a_.O) (List.take (Int.toNat (min (min a2 (a_.O.length:Int)) (b_.O.length:Int))) b_.O)).bind λa6=>cond (decide (a6<(min (min a2 (a_.O.length:Int)) (b_.O.length:Int)))) (some a6) (some (-1:Int))))
def vL(u_ p1_:A8):Option Bool:=(kK p1_.In u_.In).bind λa2=>some a2
def cO.s2(del_:A8->Option Bool)(a2:List A8)(a6 a7:Int):Option ((List A8×Int×Int)⊕(List A8×Int)):=cond (decide (a7<(a2.length:Int))) (idx a2 a7 λa8=>(del_ a8).bind λb0=>cond ((!b0)) (idx a2 a6 λb2=>chk (inR (a6+1)) (chk (inR (a7+1)) (some (.inl ((List.set a2 a6.toNat a8),(a6+1),(a7+1)))))) (chk (inR (a7+1)) (some (.inl (a2,a6,(a7+1)))))) (some (.inr (a2,a6)))
def cO.k3(a6:List A8)(a2:Int):Option (List A8):=chk ((0:Int)<=a2/\a2<=(a6.length:Int)/\0<List.length a6) (chk ((Int.toNat a2)<=List.length a6) (chk ((0:Int)<=a2/\a2<=(↑(List.length (List.take (Int.toNat a2) a6++List.replicate (List.length a6-(Int.toNat a2)) (⟨[],[]⟩:A8))):Int)/\0<List.length (List.take (Int.toNat a2) a6++List.replicate (List.length a6-(Int.toNat a2)) (⟨[],[]⟩:A8))) (some (List.take (Int.toNat a2) (List.take (Int.toNat a2) a6++List.replicate (List.length a6-(Int.toNat a2)) (⟨[],[]⟩:A8))))))
def cO(s_:List A8)(del_:A8->Option Bool):Option (List A8):=(cN s_ del_).bind λa2=>cond (decide (a2=(-1:Int))) (some s_) (chk (inR (a2+1)) ((iter (λ(s:List A8×Int×Int)=>cO.s2 del_ s.1 s.2.1 s.2.2) fuel (s_,a2,(a2+1))).bind (λs=>cO.k3 s.1 s.2)))
def lU(a_ b_:A8):Option Int:=(cJ a_.In b_.In).bind λa2=>some a2
def iM.s2(l_:List A8)(t_:A8)(inside79:Bool)(a2:Nat):Option ((Bool×Nat)⊕(Bool⊕(List A8×Int))):=cond (decide ((a2:Int)<(l_.length:Int))) (idxn l_ a2 λa6=>(vW a6 t_).bind λa7=>cond (decide (0<=a7)) (some (.inr (.inr ([],13)))) (cond (inside79) (some (.inl (true,(a2+1)))) ((kK a6.In t_.In).bind λa8=>some (.inl (a8,(a2+1)))))) (some (.inr (.inl inside79)))
def iM(l_:List A8)(t_:A8):Option (List A8×Int):=(iter (λ(s:Bool×Nat)=>iM.s2 l_ t_ s.1 s.2) fuel (false,0)).bind (Sum.elim (λinside73=>(cond (inside73) (some true) (some (decide ((t_.In.length:Int)=0)))).bind (λb0=>cond (b0) (some (l_,0)) ((cO l_ (λu0=>vL u0 t_)).bind λa2=>cond (decide ((a2.length:Int)=10000)) (some ([],11)) ((jD a2 t_ (λu0 u1=>lU u0 u1)).bind λa6=>(sD t_).bind λa7=>(GI a2 a6.1 [a7]).bind λa8=>some (a8,0))))) some)
def wE(o_:Int):Option Bool:=(cond (decide (o_<0)) (some true) (some (decide (1048576<o_)))).bind (λa2=>some a2)
def vU(t_:A8)(inputs_:Int):Option Int:=(iK t_.In inputs_).bind λa2=>cond (decide (a2≠0)) (some a2) (cond (decide ((t_.O.length:Int)≠(t_.In.length:Int))) (some 1) ((wQ t_.O (λu0=>wE u0)).bind λa6=>cond (a6) (some 2) (some 0)))
def gI.s2(o_:A6)(l_ a7:List A8)(a2:Nat):Option ((List A8×Nat)⊕(List A8⊕(A6×Int))):=cond (decide ((a2:Int)<(l_.length:Int))) (idxn l_ a2 λa8=>(vU a8 o_.I).bind λb0=>cond (decide (b0≠0)) (some (.inr (.inr (o_,b0)))) ((iM a7 a8).bind λa6=>cond (decide (a6.2≠0)) (some (.inr (.inr (o_,a6.2)))) (some (.inl (a6.1,(a2+1)))))) (some (.inr (.inl a7)))
def gI(o_:A6)(l_:List A8):Option (A6×Int):=(iS o_.T).bind λa2=>(iter (λ(s:List A8×Nat)=>gI.s2 o_ l_ s.1 s.2) fuel (a2,0)).bind (Sum.elim (λa6=>some ((⟨o_.I,a6⟩:A6),0)) some)
def uY(o_:A6)(t_:A8):Option (A6×Int):=(gI o_ [t_]).bind λa2=>some (a2.1,a2.2)
def W3.s2(m_:B7)(words_:A3)(a6:Int)(a7:List A8)(a8:Nat):Option ((Int×List A8×Nat)⊕((Int×List A8)⊕(A6×Int))):=cond (decide ((a8:Int)<(words_.length:Int))) (idxn words_ a8 λb2=>(uA m_ b2).bind λb0=>cond (decide (b0.2≠0)) (some (.inr (.inr ((⟨a6,a7⟩:A6),b0.2)))) ((uY (⟨a6,a7⟩:A6) (⟨b2,b0.1⟩:A8)).bind λa2=>cond (decide (a2.2≠0)) (some (.inr (.inr (a2.1,a2.2)))) (some (.inl (a2.1.I,a2.1.T,(a8+1)))))) (some (.inr (.inl (a6,a7))))
def W3.k3(a2:Int)(a6:List A8):Option (A6×Int):=some ((⟨a2,a6⟩:A6),0)
def W3(m_:B7)(o_:A6)(words_:A3):Option (A6×Int):=(iter (λ(s:Int×List A8×Nat)=>W3.s2 m_ words_ s.1 s.2.1 s.2.2) fuel (o_.I,o_.T,0)).bind (Sum.elim (λs=>W3.k3 s.1 s.2) some)
def fH.s2(h_:E3)(a2:Nat):Option (Nat⊕(Unit⊕Int)):=cond (decide ((a2:Int)<(h_.Access.length:Int))) (idxn h_.Access a2 λa7=>(rK h_.M h_.M.S a7).bind λa6=>cond (decide (a6.2.2≠0)) (some (.inr (.inr a6.2.2))) (cond (decide (a6.2.1≠(a2:Int))) (some (.inr (.inr 15))) (some (.inl (a2+1))))) (some (.inr (.inl ())))
def fH(h_:E3):Option Int:=(aD h_.M).bind λa2=>cond (decide (a2≠0)) (some a2) (cond (decide ((h_.Access.length:Int)≠(h_.M.N.length:Int))) (some 1) ((iter (λ(s:Nat)=>fH.s2 h_ s) fuel 0).bind (Sum.elim (λ_=>idx h_.Access h_.M.S λa6=>cond (decide ((a6.length:Int)≠0)) (some 10) (some 0)) some)))
def cG.s2(h_:E3)(w_ a2 a6:A2)(a8:Int)(a7:Nat):Option ((A2×A2×Int×Nat)⊕(A2×A2)):=cond (decide ((a7:Int)<(w_.length:Int))) (idxn w_ a7 λb0=>idx h_.M.O a8 λb3=>idx b3 b0 λb4=>chk (E5 (List.length a6+1) 8) (idx h_.M.N a8 λb5=>idx b5 b0 λb2=>chk (E5 (List.length a2+1) 8) (some (.inl ((a2++[b2]),(a6++[b4]),b2,(a7+1)))))) (some (.inr (a2,a6)))
def cG.k3(h_:E3)(o_:A6)(w_:A2)(a7:A2×Bool)(a8 a6:A2):Option (Option bQ×Int):=(bS a7.1 a6).bind λa2=>cond (a2) (some (none,8)) (some ((some (⟨h_,o_,w_,a8,a6⟩:bQ)),0))
def cG(h_:E3)(o_:A6)(w_:A2):Option (Option bQ×Int):=(fH h_).bind λa2=>cond (decide (a2≠0)) (some (none,a2)) (cond (decide (h_.M.I≠o_.I)) (some (none,15)) ((iK w_ o_.I).bind λa6=>cond (decide (a6≠0)) (some (none,a6)) ((kM o_ w_).bind λa7=>cond ((!a7.2)) (some (none,12)) ((iter (λ(s:A2×A2×Int×Nat)=>cG.s2 h_ w_ s.1 s.2.1 s.2.2.1 s.2.2.2) fuel ([h_.M.S],[],h_.M.S,0)).bind (λs=>cG.k3 h_ o_ w_ a7 s.1 s.2)))))
def sK(x_:bQ)(i_:Int):Option A2:=idx x_.states i_ λa2=>idx x_.h.Access a2 λa6=>chk ((0:Int)<=i_/\i_<=(x_.w.length:Int)) ((aW [a6,(List.drop (Int.toNat i_) x_.w)]).bind λa7=>some a7)
def sJ(x_:bQ)(i_:Int):Option A2:=(sK x_ i_).bind λa6=>(kM x_.o a6).bind λa2=>chk (inR ((x_.w.length:Int)-i_)) (chk (inR ((a2.1.length:Int)-((x_.w.length:Int)-i_))) (chk ((0:Int)<=((a2.1.length:Int)-((x_.w.length:Int)-i_))/\((a2.1.length:Int)-((x_.w.length:Int)-i_))<=(a2.1.length:Int)) (some (List.drop (Int.toNat ((a2.1.length:Int)-((x_.w.length:Int)-i_))) a2.1))))
def wP(i_:Int)(p1_:bQ):Option Bool:=(sJ p1_ i_).bind λa2=>chk ((0:Int)<=i_/\i_<=(p1_.outs.length:Int)) ((bS a2 (List.drop (Int.toNat i_) p1_.outs)).bind λa6=>some (!a6))
def wN(x_:bQ)(i_:Int):Option (J8×A2×Int):=(sJ x_ i_).bind λa2=>idxn a2 0 λa6=>idx x_.outs i_ λa7=>cond (decide (a6≠a7)) (some ((⟨[],0,[]⟩:J8),[],15)) (idx x_.states i_ λa8=>idx x_.h.Access a8 λb0=>(cH b0).bind λb2=>idx x_.w i_ λb3=>chk (inR (i_+1)) (chk ((0:Int)<=(i_+1)/\(i_+1)<=(x_.w.length:Int)) ((cH (List.drop (Int.toNat (i_+1)) x_.w)).bind λb4=>some ((⟨b2,b3,b4⟩:J8),[],0))))
def dY.s2(x_:bQ)(next_:Int->Int->Option Int)(lo90 hi91:Int):Option ((Int×Int)⊕(Int⊕(J8×A2×Int))):=chk (inR (hi91-lo90)) (cond (decide (1<(hi91-lo90))) ((next_ lo90 hi91).bind λa2=>(sK x_ a2).bind λa6=>cond (decide (1024<(a6.length:Int))) (some (.inr (.inr ((⟨[],0,[]⟩:J8),[],3)))) ((kM x_.o a6).bind λa7=>cond ((!a7.2)) (some (.inr (.inr ((⟨[],0,[]⟩:J8),a6,0)))) ((wP a2 x_).bind λa8=>cond (a8) (some (.inl (a2,hi91))) (some (.inl (lo90,a2)))))) (some (.inr (.inl lo90))))
def dY(x_:bQ)(next_:Int->Int->Option Int):Option (J8×A2×Int):=(iter (λ(s:Int×Int)=>dY.s2 x_ next_ s.1 s.2) fuel (0,(x_.w.length:Int))).bind (Sum.elim (λlo81=>(wN x_ lo81).bind λa2=>some (a2.1,a2.2.1,a2.2.2)) some)
def kO(lo_ hi_:Int):Option Int:=chk (inR (lo_+hi_)) (chk (inR ((lo_+hi_) / 2)/\(0:Int)<=(lo_+hi_)/\(1:Int)<=2) (some ((lo_+hi_) / 2)))
def rT(h_:E3)(o_:A6)(w_:A2):Option (J8×A2×Int):=(cG h_ o_ w_).bind λa2=>cond (decide (a2.2≠0)) (some ((⟨[],0,[]⟩:J8),[],a2.2)) (a2.1.bind λa7=>(dY a7 (λu0 u1=>kO u0 u1)).bind λa6=>some (a6.1,a6.2.1,a6.2.2))
def W4.s2(l_:C7)(m_:B7)(h_:E3)(w_:A2)(a7:Int)(a8:List A8)(b0:Int)(b2:A2)(b3:Int)(b4 query136:A2):Option ((Int×List A8×Int×A2×Int×A2×A2)⊕((Int×List A8×Int×A2×Int×A2)⊕(C7×A6×Int))):=(cond (decide (b0=0)) (some (decide (0<(query136.length:Int)))) (some false)).bind (λb5=>cond (b5) ((W3 m_ (⟨a7,a8⟩:A6) [query136]).bind λa2=>cond (decide (a2.2≠0)) (some (.inr (.inr (l_,a2.1,a2.2)))) ((rT h_ a2.1 w_).bind λa6=>some (.inl (a2.1.I,a2.1.T,a6.2.2,a6.1.Prefix,a6.1.Symbol,a6.1.Suffix,a6.2.1)))) (some (.inr (.inl (a7,a8,b0,b2,b3,b4)))))
def W4.s3(l_:C7)(m_:B7)(b0:A2)(b2:Int)(b3:A2)(a7:Int)(a8:List A8):Option ((Int×List A8)⊕(C7×A6×Int)):=(gF l_ (⟨a7,a8⟩:A6) (⟨b0,b2,b3⟩:J8)).bind λa2=>(cond (decide (a2.2.2≠0)) (some true) (some (decide ((a2.2.1.length:Int)=0)))).bind (λb4=>cond (b4) (some (.inr (a2.1,(⟨a7,a8⟩:A6),a2.2.2))) ((W3 m_ (⟨a7,a8⟩:A6) a2.2.1).bind λa6=>cond (decide (a6.2≠0)) (some (.inr (l_,a6.1,a6.2))) (some (.inl (a6.1.I,a6.1.T)))))
def W4.k4(l_:C7)(m_:B7)(a2:Int)(a6:List A8)(a7:Int)(a8:A2)(b0:Int)(b2:A2):Option (C7×A6×Int):=cond (decide (a7≠0)) (some (l_,(⟨a2,a6⟩:A6),a7)) (iter (λ(s:Int×List A8)=>W4.s3 l_ m_ a8 b0 b2 s.1 s.2) fuel (a2,a6))
def W4(l_:C7)(o_:A6)(m_:B7)(h_:E3)(w_:A2):Option (C7×A6×Int):=(W3 m_ o_ [w_]).bind λa2=>cond (decide (a2.2≠0)) (some (l_,a2.1,a2.2)) ((rT h_ a2.1 w_).bind λa6=>(iter (λ(s:Int×List A8×Int×A2×Int×A2×A2)=>W4.s2 l_ m_ h_ w_ s.1 s.2.1 s.2.2.1 s.2.2.2.1 s.2.2.2.2.1 s.2.2.2.2.2.1 s.2.2.2.2.2.2) fuel (a2.1.I,a2.1.T,a6.2.2,a6.1.Prefix,a6.1.Symbol,a6.1.Suffix,a6.2.1)).bind (Sum.elim (λs=>W4.k4 l_ m_ s.1 s.2.1 s.2.2.1 s.2.2.2.1 s.2.2.2.2.1 s.2.2.2.2.2) some))
def kF.s2(a_ b_:B7)(a2:Nat):Option (Nat⊕(Unit⊕Int)):=cond (decide ((a2:Int)<2)) (cond (decide ((a2:Int)=0)) ((aD a_).bind λa6=>cond (decide (a6≠0)) (some (.inr (.inr a6))) (some (.inl (a2+1)))) (chk ((a2:Int)=1) ((aD b_).bind λa7=>cond (decide (a7≠0)) (some (.inr (.inr a7))) (some (.inl (a2+1)))))) (some (.inr (.inl ())))
def kF(a_ b_:B7):Option Int:=(iter (λ(s:Nat)=>kF.s2 a_ b_ s) fuel 0).bind (Sum.elim (λ_=>cond (decide (a_.I≠b_.I)) (some 15) (some 0)) some)
def T6.s2(a_ b_:B7)(a6:List (List Bool))(a2:Nat):Option ((List (List Bool)×Nat)⊕List (List Bool)):=cond (decide ((a2:Int)<(↑(List.length (List.replicate a_.N.length ([]:List Bool))):Int))) (chk ((0:Int)<=(b_.N.length:Int)/\(b_.N.length:Int)<=(b_.N.length:Int)/\E5 (Int.toNat (b_.N.length:Int)) 1) (idxn a6 a2 λa7=>chk (inR ((a2:Int)+1)) (some (.inl ((List.set a6 a2 (List.replicate b_.N.length false)),(a2+1)))))) (some (.inr a6))
def T6.s20(a_ b_:B7)(b4:Nat)(a6:Y7)(a8:List (List Bool))(a7:List Y7)(a2:Nat):Option ((List (List Bool)×List Y7×Nat)⊕((List (List Bool)×List Y7)⊕((List (List Bool)×List Y7×Nat)⊕(Unit⊕(A2×Bool))))):=cond (decide ((a2:Int)<a_.I)) (idx a_.O a6.at_.s λb5=>idxn b5 a2 λb6=>idx b_.O a6.at_.t λb7=>idxn b7 a2 λb8=>cond (decide (b6≠b8)) (idxn a7 b4 λb9=>(aW [b9.word,[(a2:Int)]]).bind λc0=>some (.inr (.inr (.inr (.inr (c0,true)))))) (idx a_.N a6.at_.s λc6=>idxn c6 a2 λb0=>idx b_.N a6.at_.t λc7=>idxn c7 a2 λb2=>(cond ((!(decide (b0=a6.at_.s)&&(decide (b2=a6.at_.t)&&true)))) (idx a8 b0 λc8=>idx c8 b2 λc9=>some (!c9)) (some false)).bind (λd0=>cond (d0) (idx a8 b0 λb3=>idx b3 b2 λd3=>idxn a7 b4 λd1=>(aW [d1.word,[(a2:Int)]]).bind λd2=>chk (E5 (List.length a7+1) 40) (chk (inR ((a2:Int)+1)) (some (.inl ((List.set a8 (Int.toNat b0) (List.set b3 (Int.toNat b2) true)),(a7++[(⟨(⟨b0,b2⟩:kI),d2⟩:Y7)]),(a2+1)))))) (chk (inR ((a2:Int)+1)) (some (.inl (a8,a7,(a2+1)))))))) (some (.inr (.inl (a8,a7))))
def T6.k21(a7:Nat)(a2:List (List Bool))(a6:List Y7):Option ((List (List Bool)×List Y7×Nat)⊕(Unit⊕(A2×Bool))):=some (.inl (a2,a6,(a7+1)))
def T6.s22(a_ b_:B7)(a8:List (List Bool))(a6:List Y7)(a2:Nat):Option ((List (List Bool)×List Y7×Nat)⊕(Unit⊕(A2×Bool))):=cond (decide ((a2:Int)<(a6.length:Int))) (idxn a6 a2 λa7=>(iter (λ(s:List (List Bool)×List Y7×Nat)=>T6.s20 a_ b_ a2 a7 s.1 s.2.1 s.2.2) fuel (a8,a6,0)).bind (Sum.elim (λs=>T6.k21 a2 s.1 s.2) some)) (some (.inr (.inl ())))
def T6(a_ b_:B7)(first_:kI):Option (A2×Bool):=chk ((0:Int)<=(a_.N.length:Int)/\(a_.N.length:Int)<=(a_.N.length:Int)/\E5 (Int.toNat (a_.N.length:Int)) 24) ((iter (λ(s:List (List Bool)×Nat)=>T6.s2 a_ b_ s.1 s.2) fuel ((List.replicate a_.N.length ([]:List Bool)),0)).bind (λa2=>idx a2 first_.s λa6=>idx a6 first_.t λa7=>(iter (λ(s:List (List Bool)×List Y7×Nat)=>T6.s22 a_ b_ s.1 s.2.1 s.2.2) fuel ((List.set a2 (Int.toNat first_.s) (List.set a6 (Int.toNat first_.t) true)),[(⟨first_,[]⟩:Y7)],0)).bind (Sum.elim (λ_=>some ([],false)) some)))
def fJ(a_ b_:B7):Option (A2×Bool×Int):=(kF a_ b_).bind λa2=>cond (decide (a2≠0)) (some ([],false,a2)) ((T6 a_ b_ (⟨a_.S,b_.S⟩:kI)).bind λa6=>some (a6.1,a6.2,0))
def cE.k3(a2:Int)(a6 a7:A3)(a8:Int)(b0:List A8)(rounds151:Nat):Option ((Int×A3×A3×Int×List A8×Nat)⊕(E3×A6×Int×Int)):=some (.inl (a2,a6,a7,a8,b0,rounds151))
def cE.s4(m_:B7)(b4:Int)(b5 b6:A3)(b2:Int)(b3:List A8)(rounds94:Nat):Option ((Int×A3×A3×Int×List A8×Nat)⊕(E3×A6×Int×Int)):=((eX (⟨b4,b5,b6⟩:C7) (⟨b2,b3⟩:A6)).bind λa2=>cond (decide (a2.2.2.2≠0)) (some (.inr (.inr ((⟨(⟨0,0,[],[]⟩:B7),[]⟩:E3),(⟨0,[]⟩:A6),0,a2.2.2.2)))) ((W3 m_ (⟨b2,b3⟩:A6) a2.2.1).bind λa6=>cond (decide (a6.2≠0)) (some (.inr (.inr ((⟨(⟨0,0,[],[]⟩:B7),[]⟩:E3),(⟨0,[]⟩:A6),0,a6.2)))) (cond ((!a2.2.2.1)) (some (.inl (a2.1.I,a2.1.Short,a2.1.X,a6.1.I,a6.1.T,rounds94))) ((nJ a2.1 a6.1).bind λa8=>cond (decide (a8.2≠0)) (some (.inr (.inr ((⟨(⟨0,0,[],[]⟩:B7),[]⟩:E3),(⟨0,[]⟩:A6),0,a8.2)))) (chk (inR ((rounds94:Int)+1)) ((fJ a8.1.M m_).bind λb0=>cond (decide (b0.2.2≠0)) (some (.inr (.inr ((⟨(⟨0,0,[],[]⟩:B7),[]⟩:E3),(⟨0,[]⟩:A6),0,b0.2.2)))) (cond ((!b0.2.1)) (some (.inr (.inr (a8.1,a6.1,((rounds94:Int)+1),0)))) ((W4 a2.1 a6.1 m_ a8.1 b0.1).bind λa7=>cond (decide (a7.2.2≠0)) (some (.inr (.inr ((⟨(⟨0,0,[],[]⟩:B7),[]⟩:E3),(⟨0,[]⟩:A6),0,a7.2.2)))) (some (.inl (a7.1.I,a7.1.Short,a7.1.X,a7.2.1.I,a7.2.1.T,(rounds94+1))))))))))):Option ((Int×A3×A3×Int×List A8×Nat)⊕((Int×A3×A3×Int×List A8×Nat)⊕(E3×A6×Int×Int)))).bind (Sum.elim (λs=>cE.k3 s.1 s.2.1 s.2.2.1 s.2.2.2.1 s.2.2.2.2.1 s.2.2.2.2.2) some)
def cE(m_:B7):Option (E3×A6×Int×Int):=(aD m_).bind λa6=>cond (decide (a6≠0)) (some ((⟨(⟨0,0,[],[]⟩:B7),[]⟩:E3),(⟨0,[]⟩:A6),0,a6)) ((oE m_.I).bind λa2=>cond (decide (a2.2≠0)) (some ((⟨(⟨0,0,[],[]⟩:B7),[]⟩:E3),(⟨0,[]⟩:A6),0,a2.2)) (iter (λ(s:Int×A3×A3×Int×List A8×Nat)=>cE.s4 m_ s.1 s.2.1 s.2.2.1 s.2.2.2.1 s.2.2.2.2.1 s.2.2.2.2.2) fuel (a2.1.I,a2.1.Short,a2.1.X,m_.I,[],0)))
def tC(inputs_:Int):Option Bool:=(cond (decide (1<=inputs_)) (some (decide (inputs_<=1024))) (some false)).bind (λa2=>some a2)
def aA.s2(w_:A2)(inputs_:Int)(a2:Nat):Option (Nat⊕(Unit⊕Int)):=cond (decide ((a2:Int)<(w_.length:Int))) ((idxn w_ a2 λa6=>cond (decide (a6<0)) (some true) (idxn w_ a2 λa7=>some (decide (inputs_<=a7)))).bind (λa8=>cond (a8) (some (.inr (.inr 1))) (some (.inl (a2+1))))) (some (.inr (.inl ())))
def aA(w_:A2)(inputs_:Int):Option Int:=(tC inputs_).bind λa2=>cond ((!a2)) (some 2) (cond (decide (1024<(w_.length:Int))) (some 3) ((iter (λ(s:Nat)=>aA.s2 w_ inputs_ s) fuel 0).bind (Sum.elim (λ_=>some 0) some)))
def W2.s2(m_:B7)(w_:A2)(a6:Int)(a7:A2)(a2:Nat):Option ((Int×A2×Nat)⊕(Int×A2)):=cond (decide ((a2:Int)<(w_.length:Int))) (idx m_.O a6 λa8=>idxn w_ a2 λb0=>idx a8 b0 λb2=>chk (E5 (List.length a7+1) 8) (idx m_.N a6 λb3=>idxn w_ a2 λb4=>idx b3 b4 λb5=>some (.inl (b5,(a7++[b2]),(a2+1))))) (some (.inr (a6,a7)))
def W2.k3(a2:Int)(a6:A2):Option (A2×Int):=some (a6,a2)
def W2(m_:B7)(s_:Int)(w_:A2):Option (A2×Int):=(iter (λ(s:Int×A2×Nat)=>W2.s2 m_ w_ s.1 s.2.1 s.2.2) fuel (s_,[],0)).bind (λs=>W2.k3 s.1 s.2)
def aU.s2(m_:B7)(s_:Int)(a2:Nat):Option (Nat⊕(Unit⊕Int)):=cond (decide ((a2:Int)<m_.I)) ((idx m_.N s_ λa6=>idxn a6 a2 λa7=>cond (decide (a7<0)) (some true) (idx m_.N s_ λa8=>idxn a8 a2 λb0=>cond (decide ((m_.N.length:Int)<=b0)) (some true) (idx m_.O s_ λb2=>idxn b2 a2 λb3=>cond (decide (b3<0)) (some true) (idx m_.O s_ λb4=>idxn b4 a2 λb5=>some (decide (1048576<b5)))))).bind (λb6=>cond (b6) (some (.inr (.inr 2))) (chk (inR ((a2:Int)+1)) (some (.inl (a2+1)))))) (some (.inr (.inl ())))
def aU(m_:B7)(s_:Int):Option Int:=(idx m_.N s_ λa2=>cond (decide ((a2.length:Int)≠m_.I)) (some true) (idx m_.O s_ λa6=>some (decide ((a6.length:Int)≠m_.I)))).bind (λa7=>cond (a7) (some 1) ((iter (λ(s:Nat)=>aU.s2 m_ s_ s) fuel 0).bind (Sum.elim (λ_=>some 0) some)))
def S4.s2(m_:B7)(a2:Nat):Option (Nat⊕(Unit⊕Int)):=cond (decide ((a2:Int)<(m_.N.length:Int))) ((aU m_ (a2:Int)).bind λa6=>cond (decide (a6≠0)) (some (.inr (.inr a6))) (some (.inl (a2+1)))) (some (.inr (.inl ())))
def S4(m_:B7):Option Int:=(cond (decide (m_.I<1)) (some true) (some (decide (64<m_.I)))).bind (λa2=>cond (a2) (some 2) (cond (decide ((m_.N.length:Int)=0)) (some 19) (cond (decide (128<(m_.N.length:Int))) (some 11) ((cond (decide (m_.S<0)) (some true) (some (decide ((m_.N.length:Int)<=m_.S)))).bind (λa6=>cond (a6) (some 2) (cond (decide ((m_.O.length:Int)≠(m_.N.length:Int))) (some 1) ((iter (λ(s:Nat)=>S4.s2 m_ s) fuel 0).bind (Sum.elim (λ_=>some 0) some))))))))
def xU(m_:B7)(s_:Int)(w_:A2):Option (A2×Int×Int):=(S4 m_).bind λa2=>cond (decide (a2≠0)) (some ([],0,a2)) ((cond (decide (s_<0)) (some true) (some (decide ((m_.N.length:Int)<=s_)))).bind (λa8=>cond (a8) (some ([],0,2)) ((aA w_ m_.I).bind λa6=>cond (decide (a6≠0)) (some ([],0,a6)) ((W2 m_ s_ w_).bind λa7=>some (a7.1,a7.2,0)))))
def R06_Run(m_:B7)(w_:A2):Option (A2×Int):=(xU m_ m_.S w_).bind λa2=>some (a2.1,a2.2.2)
def iJ.s2(t_:A8)(a2:Nat):Option (Nat⊕(Unit⊕Int)):=cond (decide ((a2:Int)<(t_.O.length:Int))) ((idxn t_.O a2 λa6=>cond (decide (a6<0)) (some true) (idxn t_.O a2 λa7=>some (decide (1048576<a7)))).bind (λa8=>cond (a8) (some (.inr (.inr 2))) (some (.inl (a2+1))))) (some (.inr (.inl ())))
def iJ(t_:A8)(inputs_:Int):Option Int:=(aA t_.In inputs_).bind λa2=>cond (decide (a2≠0)) (some a2) (cond (decide ((t_.O.length:Int)≠(t_.In.length:Int))) (some 1) ((iter (λ(s:Nat)=>iJ.s2 t_ s) fuel 0).bind (Sum.elim (λ_=>some 0) some)))
def kB.s2(a_ b_:A8)(a6:Int)(a2:Nat):Option (Nat⊕(Unit⊕Int)):=cond (decide ((a2:Int)<a6)) (idxn a_.O a2 λa7=>idxn b_.O a2 λa8=>cond (decide (a7≠a8)) (some (.inr (.inr (a2:Int)))) (chk (inR ((a2:Int)+1)) (some (.inl (a2+1))))) (some (.inr (.inl ())))
def kB(a_ b_:A8):Option Int:=(gD a_.In b_.In).bind λa2=>(iter (λ(s:Nat)=>kB.s2 a_ b_ a2 s) fuel 0).bind (Sum.elim (λ_=>some (-1:Int)) some)
def lT(w_ p_:A2):Option Bool:=(gD w_ p_).bind λa2=>some (decide (a2=(p_.length:Int)))
def R01_Lex(a_ b_:A2):Option Int:=(gD a_ b_).bind λa2=>(cond (decide (a2=(a_.length:Int))) (some (decide (a2=(b_.length:Int)))) (some false)).bind (λa6=>cond (a6) (some 0) ((cond (decide (a2=(a_.length:Int))) (some (decide (a2=(a_.length:Int)))) (cond (decide (a2<(b_.length:Int))) (idx a_ a2 λa7=>idx b_ a2 λa8=>some (decide (a7<a8))) (some false))).bind (λb0=>cond (b0) (some (-1:Int)) (some 1))))
def gJ(a_ b_:A2):Option Int:=cond (decide ((a_.length:Int)<(b_.length:Int))) (some (-1:Int)) (cond (decide ((b_.length:Int)<(a_.length:Int))) (some 1) ((R01_Lex a_ b_).bind λa2=>some a2))
def Y5.s2(parts_:A3)(a2:A2)(a6:Nat):Option ((A2×Nat)⊕A2):=cond (decide ((a6:Int)<(parts_.length:Int))) (idxn parts_ a6 λa7=>chk (E5 (List.length a2+List.length a7) 8) (some (.inl ((a2++a7),(a6+1))))) (some (.inr a2))
def Y5(parts_:A3):Option A2:=(iter (λ(s:A2×Nat)=>Y5.s2 parts_ s.1 s.2) fuel ([],0)).bind (λa2=>some a2)
def oR(t_:A8):Option A8:=(Y5 [t_.In]).bind λa2=>(Y5 [t_.O]).bind λa6=>some (⟨a2,a6⟩:A8)
def T4.s2(o_:A6)(t_:A8)(done72:Bool)(a2:Nat):Option ((Bool×Nat)⊕Bool):=cond (decide ((a2:Int)<(o_.T.length:Int))) (cond (done72) (some (.inl (true,(a2+1)))) (idxn o_.T a2 λa6=>(lT a6.In t_.In).bind λa7=>some (.inl (a7,(a2+1))))) (some (.inr done72))
def T4.k9(t_:A8)(a7:Nat)(a2:A8)(a6:List A8)(done345:Bool):Option ((List A8×Bool×Nat)⊕(List A8×Bool)):=((lT t_.In a2.In).bind λa8=>cond ((!a8)) (some true) (some (decide ((t_.In.length:Int)=(a2.In.length:Int))))).bind (λb0=>cond (b0) ((oR a2).bind λb2=>chk (E5 (List.length a6+1) 48) (some (.inl ((a6++[b2]),done345,(a7+1))))) (some (.inl (a6,done345,(a7+1)))))
def T4.s10(o_:A6)(t_:A8)(a2:List A8)(done276:Bool)(a6:Nat):Option ((List A8×Bool×Nat)⊕(List A8×Bool)):=cond (decide ((a6:Int)<(o_.T.length:Int))) (idxn o_.T a6 λa7=>((cond ((!done276)) ((gJ t_.In a7.In).bind λa8=>some (decide (a8<0))) (some false)).bind (λb0=>cond (b0) ((oR t_).bind λb2=>chk (E5 (List.length a2+1) 48) (some ((a2++[b2]),true))) (some (a2,done276))):Option (List A8×Bool)).bind (λs=>T4.k9 t_ a6 a7 s.1 s.2)) (some (.inr (a2,done276)))
def T4.k11(o_:A6)(t_:A8)(a2:List A8)(done230:Bool):Option A6:=(cond ((!done230)) ((oR t_).bind λa6=>chk (E5 (List.length a2+1) 48) (some (a2++[a6]))) (some a2):Option (List A8)).bind (λa7=>some (⟨o_.I,a7⟩:A6))
def T4(o_:A6)(t_:A8):Option A6:=(iter (λ(s:Bool×Nat)=>T4.s2 o_ t_ s.1 s.2) fuel (decide ((t_.In.length:Int)=0),0)).bind (λdone67=>(iter (λ(s:List A8×Bool×Nat)=>T4.s10 o_ t_ s.1 s.2.1 s.2.2) fuel ([],done67,0)).bind (λs=>T4.k11 o_ t_ s.1 s.2))
def jO.s2(o_:A6)(t_:A8)(a2:Nat):Option (Nat⊕(Unit⊕(A6×Int))):=cond (decide ((a2:Int)<(o_.T.length:Int))) (idxn o_.T a2 λa6=>(kB a6 t_).bind λa7=>cond (decide (0<=a7)) (some (.inr (.inr (o_,13)))) (some (.inl (a2+1)))) (some (.inr (.inl ())))
def jO(o_:A6)(t_:A8):Option (A6×Int):=(iJ t_ o_.I).bind λa2=>cond (decide (a2≠0)) (some (o_,a2)) ((iter (λ(s:Nat)=>jO.s2 o_ t_ s) fuel 0).bind (Sum.elim (λ_=>(T4 o_ t_).bind λa6=>cond (decide (10000<(a6.T.length:Int))) (some (o_,11)) (some (a6,0))) some))
def Y4.s2(m_:B7)(words_:A3)(a7:Int)(a8:List A8)(b0:Nat):Option ((Int×List A8×Nat)⊕((Int×List A8)⊕(A6×Int))):=cond (decide ((b0:Int)<(words_.length:Int))) (idxn words_ b0 λb2=>(R06_Run m_ b2).bind λa6=>cond (decide (a6.2≠0)) (some (.inr (.inr ((⟨a7,a8⟩:A6),a6.2)))) (idxn words_ b0 λb3=>(jO (⟨a7,a8⟩:A6) (⟨b3,a6.1⟩:A8)).bind λa2=>cond (decide (a2.2≠0)) (some (.inr (.inr ((⟨a7,a8⟩:A6),a2.2)))) (some (.inl (a2.1.I,a2.1.T,(b0+1)))))) (some (.inr (.inl (a7,a8))))
def Y4.k3(a2:Int)(a6:List A8):Option (A6×Int):=some ((⟨a2,a6⟩:A6),0)
def Y4(o_:A6)(m_:B7)(words_:A3):Option (A6×Int):=(iter (λ(s:Int×List A8×Nat)=>Y4.s2 m_ words_ s.1 s.2.1 s.2.2) fuel (o_.I,o_.T,0)).bind (Sum.elim (λs=>Y4.k3 s.1 s.2) some)
def cD.s2(o_:A6)(w_:A2)(a2:Nat):Option (Nat⊕(Unit⊕(A2×Bool))):=cond (decide ((a2:Int)<(o_.T.length:Int))) (idxn o_.T a2 λa7=>(lT a7.In w_).bind λa8=>cond (a8) (idxn o_.T a2 λa6=>chk ((0:Int)<=(w_.length:Int)/\(w_.length:Int)<=(a6.O.length:Int)) ((Y5 [(List.take w_.length a6.O)]).bind λb0=>some (.inr (.inr (b0,true))))) (some (.inl (a2+1)))) (some (.inr (.inl ())))
def cD(o_:A6)(w_:A2):Option (A2×Bool):=cond (decide ((w_.length:Int)=0)) (some ([],true)) ((iter (λ(s:Nat)=>cD.s2 o_ w_ s) fuel 0).bind (Sum.elim (λ_=>some ([],false)) some))
def bW.s2(a_ b_:A2)(a2:Nat):Option (Nat⊕(Unit⊕Bool)):=cond (decide ((a2:Int)<(a_.length:Int))) (idxn a_ a2 λa6=>idxn b_ a2 λa7=>cond (decide (a6≠a7)) (some (.inr (.inr false))) (some (.inl (a2+1)))) (some (.inr (.inl ())))
def bW(a_ b_:A2):Option Bool:=cond (decide ((a_.length:Int)≠(b_.length:Int))) (some false) ((iter (λ(s:Nat)=>bW.s2 a_ b_ s) fuel 0).bind (Sum.elim (λ_=>some true) some))
def eY.s2(h_:E3)(a2:Nat):Option (Nat⊕(Unit⊕Int)):=cond (decide ((a2:Int)<(h_.Access.length:Int))) (idxn h_.Access a2 λa6=>(aA a6 h_.M.I).bind λa7=>cond (decide (a7≠0)) (some (.inr (.inr a7))) ((W2 h_.M h_.M.S a6).bind λa8=>cond (decide (a8.2≠(a2:Int))) (some (.inr (.inr 15))) (some (.inl (a2+1))))) (some (.inr (.inl ())))
def eY(h_:E3):Option Int:=(S4 h_.M).bind λa2=>cond (decide (a2≠0)) (some a2) (cond (decide ((h_.Access.length:Int)≠(h_.M.N.length:Int))) (some 1) ((iter (λ(s:Nat)=>eY.s2 h_ s) fuel 0).bind (Sum.elim (λ_=>idx h_.Access h_.M.S λa6=>cond (decide (0<(a6.length:Int))) (some 10) (some 0)) some)))
def zG(h_:E3)(o_:A6):Option Int:=(eY h_).bind λa2=>cond (decide (a2≠0)) (some a2) (cond (decide (o_.I≠h_.M.I)) (some 15) (some 0))
def vO(h_:E3)(o_:A6)(w_:A2):Option Int:=(zG h_ o_).bind λa2=>cond (decide (a2≠0)) (some a2) ((aA w_ h_.M.I).bind λa6=>cond (decide (a6≠0)) (some a6) ((cD o_ w_).bind λa7=>cond ((!a7.2)) (some 12) ((W2 h_.M h_.M.S w_).bind λa8=>(bW a7.1 a8.1).bind λb0=>cond (b0) (some 8) (some 0))))
def R25_at(h_:E3)(w_:A2)(i_:Int):Option Int:=chk ((0:Int)<=i_/\i_<=(w_.length:Int)) ((W2 h_.M h_.M.S (List.take (Int.toNat i_) w_)).bind λa2=>some a2.2)
def vC(h_:E3)(o_:A6)(w_:A2)(i_:Int):Option (Bool×A2×Int):=cond (decide (i_=(w_.length:Int))) (some (false,[],0)) ((R25_at h_ w_ i_).bind λa2=>idx h_.Access a2 λb0=>chk ((0:Int)<=i_/\i_<=(w_.length:Int)) ((Y5 [b0,(List.drop (Int.toNat i_) w_)]).bind λa6=>cond (decide (1024<(a6.length:Int))) (some (false,[],3)) ((cD o_ a6).bind λa7=>cond ((!a7.2)) (some (false,a6,0)) (chk ((0:Int)<=i_/\i_<=(w_.length:Int)) ((W2 h_.M a2 (List.drop (Int.toNat i_) w_)).bind λb2=>idx h_.Access a2 λa8=>chk ((0:Int)<=(a8.length:Int)/\(a8.length:Int)<=(a7.1.length:Int)) ((bW (List.drop a8.length a7.1) b2.1).bind λb3=>some ((!b3),[],0)))))))
def uG(h_:E3)(o_:A6)(w_:A2)(i_:Int):Option (J8×Int):=(R25_at h_ w_ i_).bind λa2=>idx h_.Access a2 λa6=>chk ((0:Int)<=i_/\i_<=(w_.length:Int)) ((Y5 [a6,(List.drop (Int.toNat i_) w_)]).bind λa7=>(cD o_ a7).bind λa8=>idx h_.Access a2 λb0=>idxn a8.1 b0.length λb2=>idx h_.M.O a2 λb3=>idx w_ i_ λb4=>idx b3 b4 λb5=>cond (decide (b2≠b5)) (some ((⟨[],0,[]⟩:J8),15)) (idx h_.Access a2 λb6=>(Y5 [b6]).bind λb7=>idx w_ i_ λb8=>chk (inR (i_+1)) (chk ((0:Int)<=(i_+1)/\(i_+1)<=(w_.length:Int)) ((Y5 [(List.drop (Int.toNat (i_+1)) w_)]).bind λb9=>some ((⟨b7,b8,b9⟩:J8),0)))))
def dU.s2(h_:E3)(o_:A6)(w_:A2)(lo111 hi112:Nat):Option ((Nat×Nat)⊕(Nat⊕(J8×A2×Int))):=chk (inR ((hi112:Int)-(lo111:Int))) (cond (decide (1<((hi112:Int)-(lo111:Int)))) (chk (inR ((lo111:Int)+(hi112:Int))) (chk (inR (((lo111:Int)+(hi112:Int)) / 2)/\(0:Int)<=((lo111:Int)+(hi112:Int))/\(1:Int)<=2) ((vC h_ o_ w_ (((lo111:Int)+(hi112:Int)) / 2)).bind λa2=>(cond (decide (a2.2.2≠0)) (some true) (some (decide (0<(a2.2.1.length:Int))))).bind (λa6=>cond (a6) (some (.inr (.inr ((⟨[],0,[]⟩:J8),a2.2.1,a2.2.2)))) (cond (a2.1) (some (.inl (((lo111+hi112) / 2),hi112))) (some (.inl (lo111,((lo111+hi112) / 2))))))))) (some (.inr (.inl lo111))))
def dU(h_:E3)(o_:A6)(w_:A2):Option (J8×A2×Int):=(vO h_ o_ w_).bind λa6=>cond (decide (a6≠0)) (some ((⟨[],0,[]⟩:J8),[],a6)) ((iter (λ(s:Nat×Nat)=>dU.s2 h_ o_ w_ s.1 s.2) fuel (0,w_.length)).bind (Sum.elim (λlo98=>(uG h_ o_ w_ (lo98:Int)).bind λa2=>some (a2.1,[],a2.2)) some))
def cF.s2(h_:E3)(m_:B7)(w_:A2)(a6:Int)(a7:List A8)(b0:Int):Option ((Int×List A8×Int)⊕((Int×List A8×Int)⊕(A6×J8×Int))):=cond (decide (b0=0)) ((dU h_ (⟨a6,a7⟩:A6) w_).bind λa2=>(cond (decide (a2.2.2≠0)) (some true) (some (decide ((a2.2.1.length:Int)=0)))).bind (λb2=>cond (b2) (some (.inr (.inr ((⟨a6,a7⟩:A6),a2.1,a2.2.2)))) ((Y4 (⟨a6,a7⟩:A6) m_ [a2.2.1]).bind λa8=>some (.inl (a8.1.I,a8.1.T,a8.2))))) (some (.inr (.inl (a6,a7,b0))))
def cF.k3(a2:Int)(a6:List A8)(a7:Int):Option (A6×J8×Int):=some ((⟨a2,a6⟩:A6),(⟨[],0,[]⟩:J8),a7)
def cF(h_:E3)(o_:A6)(m_:B7)(w_:A2):Option (A6×J8×Int):=(Y4 o_ m_ [w_]).bind λa2=>(iter (λ(s:Int×List A8×Int)=>cF.s2 h_ m_ w_ s.1 s.2.1 s.2.2) fuel (a2.1.I,a2.1.T,a2.2)).bind (Sum.elim (λs=>cF.k3 s.1 s.2.1 s.2.2) some)
def jV.s2(l_:A3)(w_:A2)(low84 high85:Nat):Option ((Nat×Nat)⊕Nat):=cond (decide ((low84:Int)<(high85:Int))) (chk (inR ((low84:Int)+(high85:Int))) (chk (inR (((low84:Int)+(high85:Int)) / 2)/\(0:Int)<=((low84:Int)+(high85:Int))/\(1:Int)<=2) (idxn l_ ((low84+high85) / 2) λa2=>(gJ a2 w_).bind λa6=>cond (decide (a6<0)) (chk (inR ((((low84:Int)+(high85:Int)) / 2)+1)) (some (.inl ((((low84+high85) / 2)+1),high85)))) (some (.inl (low84,((low84+high85) / 2))))))) (some (.inr low84))
def jV(l_:A3)(w_:A2):Option Int:=(iter (λ(s:Nat×Nat)=>jV.s2 l_ w_ s.1 s.2) fuel (0,l_.length)).bind (λlow77=>some (low77:Int))
def fX.s2(a8:Int)(a6:A3)(a2:Int):Option ((A3×Int)⊕A3):=cond (decide (a8<a2)) (chk (inR (a2-1)) (idx a6 (a2-1) λa7=>idx a6 a2 λb0=>chk (inR (a2-1)) (some (.inl ((List.set a6 a2.toNat a7),(a2-1)))))) (some (.inr a6))
def fX(l_:A3)(w_:A2):Option A3:=(jV l_ w_).bind λa2=>(cond (decide (a2<(l_.length:Int))) (idx l_ a2 λa7=>(mV a7 w_).bind λa8=>some a8) (some false)).bind (λb0=>cond (b0) (some l_) (chk (E5 (List.length l_+1) 24) (chk (inR ((↑(List.length (l_++[[]])):Int)-1)) ((iter (λ(s:A3×Int)=>fX.s2 a2 s.1 s.2) fuel ((l_++[[]]),((↑(List.length (l_++[[]])):Int)-1))).bind (λa6=>chk (E5 (List.length ([]:List Unit)+List.length w_) 8) (idx a6 a2 λb2=>some (List.set a6 a2.toNat ([]++w_))))))))
def gC.s2(l_ a6:A3)(a2:Nat):Option ((A3×Nat)⊕A3):=cond (decide ((a2:Int)<(l_.length:Int))) (idxn l_ a2 λa7=>(fX a6 a7).bind λa8=>some (.inl (a8,(a2+1)))) (some (.inr a6))
def gC(l_:A3):Option A3:=(iter (λ(s:A3×Nat)=>gC.s2 l_ s.1 s.2) fuel ([],0)).bind (λa2=>some a2)
def bA.s13(a6:A3)(a7:Nat)(top412:Bool)(a2:Nat):Option ((Bool×Nat)⊕Bool):=cond (decide ((a2:Int)<(a6.length:Int))) (cond (top412) (idxn a6 a2 λa8=>idxn a6 a7 λb0=>cond (decide ((a8.length:Int)=(b0.length:Int))) (some (.inl (true,(a2+1)))) (idxn a6 a2 λb2=>idxn a6 a7 λb3=>(lT b2 b3).bind λb4=>some (.inl ((!b4),(a2+1))))) (some (.inl (false,(a2+1))))) (some (.inr top412))
def bA.s14(a7 a6:A3)(a2:Nat):Option ((A3×Nat)⊕A3):=cond (decide ((a2:Int)<(a7.length:Int))) ((iter (λ(s:Bool×Nat)=>bA.s13 a7 a2 s.1 s.2) fuel (true,(a2+1))).bind (λtop404=>cond (top404) (idxn a7 a2 λa8=>chk (E5 (List.length a6+1) 24) (some (.inl ((a6++[a8]),(a2+1))))) (some (.inl (a6,(a2+1)))))) (some (.inr a6))
def bA(l_:A3):Option A3:=(gC l_).bind λa6=>(iter (λ(s:A3×Nat)=>bA.s14 a6 s.1 s.2) fuel ([],0)).bind (λa2=>some a2)
def Y6.s13(o_:A6)(words_ ends_:A3)(a8:Nat)(a2:A3)(a6:Nat):Option ((A3×Nat)⊕(A3⊕((A3×Nat)⊕(A3⊕(A3×Int))))):=cond (decide ((a6:Int)<(ends_.length:Int))) (idxn words_ a8 λb0=>idxn ends_ a6 λb2=>(Y5 [b0,b2]).bind λa7=>cond (decide (1024<(a7.length:Int))) (some (.inr (.inr (.inr (.inr ([],3)))))) ((cD o_ a7).bind λb3=>cond ((!b3.2)) (chk (E5 (List.length a2+1) 24) (some (.inl ((a2++[a7]),(a6+1))))) (some (.inl (a2,(a6+1)))))) (some (.inr (.inl a2)))
def Y6.s14(o_:A6)(words_ ends_ a6:A3)(a2:Nat):Option ((A3×Nat)⊕(A3⊕(A3×Int))):=cond (decide ((a2:Int)<(words_.length:Int))) ((iter (λ(s:A3×Nat)=>Y6.s13 o_ words_ ends_ a2 s.1 s.2) fuel (a6,0)).bind (Sum.elim (λa7=>some (.inl (a7,(a2+1)))) some)) (some (.inr (.inl a6)))
def Y6(o_:A6)(words_ ends_:A3):Option (A3×Int):=(iter (λ(s:A3×Nat)=>Y6.s14 o_ words_ ends_ s.1 s.2) fuel ([],0)).bind (Sum.elim (λa2=>(bA a2).bind λa6=>some (a6,0)) some)
def fC(u_ v_:A2):Option A2:=(Y5 [u_,v_]).bind λa2=>some a2
def lJ(o_:A6)(w_ e_:A2):Option (A2×Bool):=(fC w_ e_).bind λa6=>(cD o_ a6).bind λa2=>cond ((!a2.2)) (some ([],false)) (chk ((0:Int)<=(w_.length:Int)/\(w_.length:Int)<=(a2.1.length:Int)) (some ((List.drop w_.length a2.1),true)))
def bJ.s2(o_:A6)(suffixes_:A3)(w_:A2)(a2:A3)(a6:Nat):Option ((A3×Nat)⊕(A3⊕(A3×Bool))):=cond (decide ((a6:Int)<(suffixes_.length:Int))) (idxn suffixes_ a6 λa8=>(lJ o_ w_ a8).bind λa7=>cond ((!a7.2)) (some (.inr (.inr ([],false)))) (chk (E5 (List.length a2+1) 24) (some (.inl ((a2++[a7.1]),(a6+1)))))) (some (.inr (.inl a2)))
def bJ(o_:A6)(suffixes_:A3)(w_:A2):Option (A3×Bool):=(iter (λ(s:A3×Nat)=>bJ.s2 o_ suffixes_ w_ s.1 s.2) fuel ([],0)).bind (Sum.elim (λa2=>some (a2,true)) some)
def fE.s2(l_:A3)(a6:Int)(a2:Nat):Option ((Int×Nat)⊕Int):=cond (decide ((a2:Int)<(l_.length:Int))) (idxn l_ a2 λa7=>some (.inl ((max a6 (a7.length:Int)),(a2+1)))) (some (.inr a6))
def fE(l_:A3):Option Int:=(iter (λ(s:Int×Nat)=>fE.s2 l_ s.1 s.2) fuel (0,0)).bind (λa2=>some a2)
def eO.s2(l_:A3)(w_:A2)(a2:Nat):Option (Nat⊕(Unit⊕Bool)):=cond (decide ((a2:Int)<(l_.length:Int))) (idxn l_ a2 λa6=>(mV a6 w_).bind λa7=>cond (a7) (some (.inr (.inr true))) (some (.inl (a2+1)))) (some (.inr (.inl ())))
def eO(l_:A3)(w_:A2):Option Bool:=(iter (λ(s:Nat)=>eO.s2 l_ w_ s) fuel 0).bind (Sum.elim (λ_=>some false) some)
def iV.s2(t_:B8)(a6:Nat):Option (Nat⊕(Unit⊕Int)):=cond (decide ((a6:Int)<(t_.P.length:Int))) (idxn t_.P a6 λa2=>(aA a2 t_.I).bind λa7=>cond (decide (a7≠0)) (some (.inr (.inr a7))) ((cond (decide ((a6:Int)=0)) (cond (decide (0<(a2.length:Int))) (some true) (cond (decide (0<(a6:Int))) (idx t_.P ((a6:Int)-1) λa8=>(gJ a8 a2).bind λb0=>some (decide (0<=b0))) (some false))) (cond (decide (0<(a6:Int))) (idx t_.P ((a6:Int)-1) λb2=>(gJ b2 a2).bind λb3=>some (decide (0<=b3))) (some false))).bind (λb4=>cond (b4) (some (.inr (.inr 10))) ((cond (decide (0<(a2.length:Int))) (chk ((0:Int)<=((a2.length:Int)-1)/\((a2.length:Int)-1)<=(a2.length:Int)) ((eO t_.P (List.take (Int.toNat ((a2.length:Int)-1)) a2)).bind λb5=>some (!b5))) (some false)).bind (λb6=>cond (b6) (some (.inr (.inr 1))) (some (.inl (a6+1)))))))) (some (.inr (.inl ())))
def iV(t_:B8):Option Int:=(iter (λ(s:Nat)=>iV.s2 t_ s) fuel 0).bind (Sum.elim (λ_=>some 0) some)
def aY.s2(t_:B8)(a2:Nat):Option (Nat⊕(Unit⊕Int)):=cond (decide ((a2:Int)<(t_.X.length:Int))) (idxn t_.X a2 λa6=>(aA a6 t_.I).bind λa7=>cond (decide (a7≠0)) (some (.inr (.inr a7))) (cond (decide ((a6.length:Int)=0)) (some (.inr (.inr 19))) ((cond (decide (0<(a2:Int))) (idx t_.X ((a2:Int)-1) λa8=>(gJ a8 a6).bind λb0=>some (decide (0<=b0))) (some false)).bind (λb2=>cond (b2) (some (.inr (.inr 10))) (some (.inl (a2+1))))))) (some (.inr (.inl ())))
def aY.s4(t_:B8)(a2:Nat):Option (Nat⊕(Unit⊕Int)):=cond (decide ((a2:Int)<t_.I)) ((eO t_.X [(a2:Int)]).bind λa6=>cond ((!a6)) (some (.inr (.inr 1))) (chk (inR ((a2:Int)+1)) (some (.inl (a2+1))))) (some (.inr (.inl ())))
def aY(t_:B8):Option Int:=(iter (λ(s:Nat)=>aY.s2 t_ s) fuel 0).bind (Sum.elim (λ_=>(iter (λ(s:Nat)=>aY.s4 t_ s) fuel 0).bind (Sum.elim (λ_=>some 0) some)) some)
def jZ(t_:B8):Option Int:=(cond (decide (t_.I<1)) (some true) (some (decide (64<t_.I)))).bind (λb0=>cond (b0) (some 2) (cond (decide ((t_.P.length:Int)=0)) (some 19) ((cond (decide (10000<(t_.P.length:Int))) (some true) (some (decide (10000<(t_.X.length:Int))))).bind (λb2=>cond (b2) (some 11) (chk (inR (t_.I+1)) (chk (inR ((t_.P.length:Int)*(t_.I+1))) (chk (inR (((t_.P.length:Int)*(t_.I+1))*(t_.X.length:Int))) (cond (decide (160000<(((t_.P.length:Int)*(t_.I+1))*(t_.X.length:Int)))) (some 11) ((iV t_).bind λa2=>cond (decide (a2≠0)) (some a2) ((aY t_).bind λa6=>cond (decide (a6≠0)) (some a6) ((fE t_.P).bind λa7=>(fE t_.X).bind λa8=>chk (inR (a7+a8)) (cond (decide (1023<(a7+a8))) (some 3) (some 0)))))))))))))
def rH(t_:B8)(o_:A6):Option Int:=(jZ t_).bind λa2=>cond (decide (a2≠0)) (some a2) (cond (decide (t_.I≠o_.I)) (some 15) (some 0))
def jP(t_:B8)(o_:A6)(w_:A2):Option (A3×Bool):=(rH t_ o_).bind λa6=>cond (decide (a6≠0)) (some ([],false)) ((bJ o_ t_.X w_).bind λa2=>some (a2.1,a2.2))
def bY.s2(a_ b_:A3)(a2:Nat):Option (Nat⊕(Unit⊕Bool)):=cond (decide ((a2:Int)<(a_.length:Int))) (idxn a_ a2 λa6=>idxn b_ a2 λa7=>(bW a6 a7).bind λa8=>cond ((!a8)) (some (.inr (.inr false))) (some (.inl (a2+1)))) (some (.inr (.inl ())))
def bY(a_ b_:A3):Option Bool:=cond (decide ((a_.length:Int)≠(b_.length:Int))) (some false) ((iter (λ(s:Nat)=>bY.s2 a_ b_ s) fuel 0).bind (Sum.elim (λ_=>some true) some))
def bM(l_:C7):Option B8:=some (⟨l_.I,l_.Short,l_.X⟩:B8)
def fA.s2(l_:C7)(o_:A6)(b3:A3×Bool)(a2:Nat):Option (Nat⊕(Unit⊕Int)):=cond (decide ((a2:Int)<(l_.Short.length:Int))) ((bM l_).bind λa7=>idxn l_.Short a2 λa8=>(jP a7 o_ a8).bind λa6=>(cond (a6.2) ((bY a6.1 b3.1).bind λb0=>some b0) (some false)).bind (λb2=>cond (b2) (some (.inr (.inr (a2:Int)))) (some (.inl (a2+1))))) (some (.inr (.inl ())))
def fA(l_:C7)(o_:A6)(w_:A2):Option Int:=(bM l_).bind λa2=>(jP a2 o_ w_).bind λa6=>(iter (λ(s:Nat)=>fA.s2 l_ o_ a6 s) fuel 0).bind (Sum.elim (λ_=>some (-1:Int)) some)
def rL(o_:A6)(u_ r_ v_:A2):Option Bool:=(lJ o_ u_ v_).bind λa2=>(lJ o_ r_ v_).bind λa6=>(bW a2.1 a6.1).bind λa7=>some (!a7)
def iI.s2(l_:C7)(o_:A6)(b5 b6 a2:A2)(a7:A3):Option ((A2×A2×A2×A3)⊕(A3⊕(A3×A3×Int))):=cond (decide (1<(a2.length:Int))) (chk ((0:Int)<=1/\1<=(a2.length:Int)) ((Y5 [b5,(List.take 1 a2)]).bind λa6=>chk ((0:Int)<=1/\1<=(a2.length:Int)) ((Y5 [b6,(List.take 1 a2)]).bind λb3=>(Y6 o_ [a6,b3] l_.X).bind λa8=>(cond (decide (a8.2≠0)) (some true) (some (decide (0<(a8.1.length:Int))))).bind (λb7=>cond (b7) (some (.inr (.inr ([],a8.1,a8.2)))) ((bM l_).bind λb8=>(jP b8 o_ a6).bind λb9=>(bM l_).bind λc0=>(jP c0 o_ b3).bind λc6=>(bY b9.1 c6.1).bind λc7=>cond ((!c7)) (some (.inr (.inr (a7,[],0)))) ((fA l_ o_ a6).bind λb0=>cond (decide (b0<0)) (some (.inr (.inr ([],[],10)))) (chk ((0:Int)<=1/\1<=(a2.length:Int)) (idx l_.Short b0 λc8=>(Y6 o_ [a6,c8] [(List.drop 1 a2)]).bind λb2=>(cond (decide (b2.2≠0)) (some true) (some (decide (0<(b2.1.length:Int))))).bind (λc9=>cond (c9) (some (.inr (.inr ([],b2.1,b2.2)))) ((idx l_.Short b0 λd0=>(rL o_ a6 d0 (List.drop 1 a2)).bind λd1=>cond (d1) (some a6) (some b3):Option A2).bind (λb4=>idx l_.Short b0 λd2=>chk (E5 (List.length a7+1) 24) (some (.inl (b4,d2,(List.drop 1 a2),(a7++[b4]))))))))))))))) (some (.inr (.inl a7)))
def iI(l_:C7)(o_:A6)(u_ r_ v_:A2):Option (A3×A3×Int):=(iter (λ(s:A2×A2×A2×A3)=>iI.s2 l_ o_ s.1 s.2.1 s.2.2.1 s.2.2.2) fuel (u_,r_,v_,[u_])).bind (Sum.elim (λa2=>some (a2,[],0)) some)
def fB.s2(l_ a2:A3)(a6:Nat):Option ((A3×Nat)⊕A3):=cond (decide ((a6:Int)<(l_.length:Int))) (idxn l_ a6 λa7=>(fC a7 []).bind λa8=>chk (E5 (List.length a2+1) 24) (some (.inl ((a2++[a8]),(a6+1))))) (some (.inr a2))
def fB(l_:A3):Option A3:=(iter (λ(s:A3×Nat)=>fB.s2 l_ s.1 s.2) fuel ([],0)).bind (λa2=>some a2)
def gA.s2(lists_:List (A3))(a2:A3)(a6:Nat):Option ((A3×Nat)⊕A3):=cond (decide ((a6:Int)<(lists_.length:Int))) (idxn lists_ a6 λa7=>chk (E5 (List.length a2+List.length a7) 24) (some (.inl ((a2++a7),(a6+1))))) (some (.inr a2))
def gA(lists_:List (A3)):Option A3:=(iter (λ(s:A3×Nat)=>gA.s2 lists_ s.1 s.2) fuel ([],0)).bind (λa2=>(gC a2).bind λa6=>some a6)
def mU(t_:B8)(prefixes_ suffixes_:A3):Option B8:=(fB t_.P).bind λa2=>(fB prefixes_).bind λa6=>(gA [a2,a6]).bind λa7=>(fB t_.X).bind λa8=>(fB suffixes_).bind λb0=>(gA [a8,b0]).bind λb2=>some (⟨t_.I,a7,b2⟩:B8)
def fZ.s2(l_:C7)(a2:Nat):Option (Nat⊕(Unit⊕Int)):=cond (decide ((a2:Int)<(l_.X.length:Int))) (idxn l_.X a2 λa6=>(cond (decide (1<(a6.length:Int))) (chk ((0:Int)<=1/\1<=(a6.length:Int)) ((eO l_.X (List.drop 1 a6)).bind λa7=>some (!a7))) (some false)).bind (λa8=>cond (a8) (some (.inr (.inr 1))) (some (.inl (a2+1))))) (some (.inr (.inl ())))
def fZ(l_:C7):Option Int:=(bM l_).bind λa6=>(jZ a6).bind λa2=>cond (decide (a2≠0)) (some a2) ((iter (λ(s:Nat)=>fZ.s2 l_ s) fuel 0).bind (Sum.elim (λ_=>some 0) some))
def pC(l_:C7)(o_:A6):Option Int:=(fZ l_).bind λa2=>cond (decide (a2≠0)) (some a2) (cond (decide (l_.I≠o_.I)) (some 15) (some 0))
def uK(s_:J8)(inputs_:Int):Option Int:=(aA s_.Prefix inputs_).bind λa2=>cond (decide (a2≠0)) (some a2) ((cond (decide (s_.Symbol<0)) (some true) (some (decide (inputs_<=s_.Symbol)))).bind (λa6=>cond (a6) (some 2) (cond (decide ((s_.Suffix.length:Int)=0)) (some 19) ((aA s_.Suffix inputs_).bind λa7=>some a7))))
def R28_Of(t_:B8):Option C7:=some (⟨t_.I,t_.P,t_.X⟩:C7)
def uS(l_:C7)(o_:A6)(s_:J8):Option (C7×A3×Int):=(pC l_ o_).bind λb2=>cond (decide (b2≠0)) (some (l_,[],b2)) ((uK s_ l_.I).bind λb3=>cond (decide (b3≠0)) (some (l_,[],b3)) ((Y5 [s_.Prefix,[s_.Symbol]]).bind λa2=>(Y6 o_ [a2] l_.X).bind λa7=>(cond (decide (a7.2≠0)) (some true) (some (decide (0<(a7.1.length:Int))))).bind (λb6=>cond (b6) (some (l_,a7.1,a7.2)) ((fA l_ o_ a2).bind λa8=>cond (decide (a8<0)) (some (l_,[],10)) (idx l_.Short a8 λb7=>(Y6 o_ [a2,b7] [s_.Suffix]).bind λb0=>(cond (decide (b0.2≠0)) (some true) (some (decide (0<(b0.1.length:Int))))).bind (λb8=>cond (b8) (some (l_,b0.1,b0.2)) (idx l_.Short a8 λb9=>(rL o_ a2 b9 s_.Suffix).bind λc0=>cond ((!c0)) (some (l_,[],15)) (idx l_.Short a8 λc6=>(iI l_ o_ a2 c6 s_.Suffix).bind λa6=>(cond (decide (a6.2.2≠0)) (some true) (some (decide (0<(a6.2.1.length:Int))))).bind (λc7=>cond (c7) (some (l_,a6.2.1,a6.2.2)) ((bM l_).bind λc8=>(mU c8 a6.1 []).bind λc9=>(R28_Of c9).bind λb4=>(fZ b4).bind λb5=>cond (decide (b5≠0)) (some (l_,[],b5)) (some (b4,[],0))))))))))))
def dA.s2(l_:C7)(m_:B7)(b3:A6×J8×Int)(a6:Int)(a7:List A8)(b0:Int):Option ((Int×List A8×Int)⊕((Int×List A8×Int)⊕(C7×A6×Int))):=cond (decide (b0=0)) ((uS l_ (⟨a6,a7⟩:A6) b3.2.1).bind λa2=>(cond (decide (a2.2.2≠0)) (some true) (some (decide ((a2.2.1.length:Int)=0)))).bind (λb2=>cond (b2) (some (.inr (.inr (a2.1,(⟨a6,a7⟩:A6),a2.2.2)))) ((Y4 (⟨a6,a7⟩:A6) m_ a2.2.1).bind λa8=>some (.inl (a8.1.I,a8.1.T,a8.2))))) (some (.inr (.inl (a6,a7,b0))))
def dA.k3(l_:C7)(a2:Int)(a6:List A8)(a7:Int):Option (C7×A6×Int):=some (l_,(⟨a2,a6⟩:A6),a7)
def dA(l_:C7)(h_:E3)(o_:A6)(m_:B7)(w_:A2):Option (C7×A6×Int):=(cF h_ o_ m_ w_).bind λa2=>(iter (λ(s:Int×List A8×Int)=>dA.s2 l_ m_ a2 s.1 s.2.1 s.2.2) fuel (a2.1.I,a2.1.T,a2.2.2)).bind (Sum.elim (λs=>dA.k3 l_ s.1 s.2.1 s.2.2) some)
def kE.s2(inputs_:Int)(a2:A3)(a66:Nat):Option ((A3×Nat)⊕A3):=cond (decide ((a66:Int)<inputs_)) (chk (E5 (List.length a2+1) 24) (chk (inR ((a66:Int)+1)) (some (.inl ((a2++[[(a66:Int)]]),(a66+1)))))) (some (.inr a2))
def kE(inputs_:Int):Option A3:=(iter (λ(s:A3×Nat)=>kE.s2 inputs_ s.1 s.2) fuel ([],0)).bind (λa2=>some a2)
def R23_New(inputs_:Int):Option (B8×Int):=(cond (decide (inputs_<1)) (some true) (some (decide (64<inputs_)))).bind (λa2=>cond (a2) (some ((⟨0,[],[]⟩:B8),2)) ((kE inputs_).bind λa6=>some ((⟨inputs_,[[]],a6⟩:B8),0)))
def R28_New(inputs_:Int):Option (C7×Int):=(R23_New inputs_).bind λa2=>(R28_Of a2.1).bind λa6=>some (a6,a2.2)
def bO.s13(l_:A3)(a6:Nat)(a7:A3)(a2:Nat):Option ((A3×Nat)⊕A3):=idxn l_ a6 λb0=>cond (decide ((a2:Int)<=(b0.length:Int))) (idxn l_ a6 λa8=>chk ((0:Int)<=(a2:Int)/\(a2:Int)<=(a8.length:Int)) ((fX a7 (List.take a2 a8)).bind λb2=>chk (inR ((a2:Int)+1)) (some (.inl (b2,(a2+1)))))) (some (.inr a7))
def bO.s14(l_ a6:A3)(a2:Nat):Option ((A3×Nat)⊕A3):=cond (decide ((a2:Int)<(l_.length:Int))) ((iter (λ(s:A3×Nat)=>bO.s13 l_ a2 s.1 s.2) fuel (a6,0)).bind (λa7=>some (.inl (a7,(a2+1))))) (some (.inr a6))
def bO(l_:A3):Option A3:=(iter (λ(s:A3×Nat)=>bO.s14 l_ s.1 s.2) fuel ([],0)).bind (λa2=>some a2)
def uO(t_:B8)(w_:A2):Option (B8×Int):=(jZ t_).bind λa2=>cond (decide (a2≠0)) (some (t_,a2)) ((aA w_ t_.I).bind λa6=>cond (decide (a6≠0)) (some (t_,a6)) ((bO [w_]).bind λb0=>(mU t_ b0 []).bind λa7=>(jZ a7).bind λa8=>cond (decide (a8≠0)) (some (t_,a8)) (some (a7,0))))
def uJ(t_:B8)(w_:A2):Option (B8×Int):=(jZ t_).bind λa2=>cond (decide (a2≠0)) (some (t_,a2)) (cond (decide ((w_.length:Int)=0)) (some (t_,19)) ((aA w_ t_.I).bind λa6=>cond (decide (a6≠0)) (some (t_,a6)) ((mU t_ [] [w_]).bind λa7=>(jZ a7).bind λa8=>cond (decide (a8≠0)) (some (t_,a8)) (some (a7,0)))))
def bC.s13(t_:B8)(a7:Nat)(a6:A3)(a2:Nat):Option ((A3×Nat)⊕A3):=cond (decide ((a2:Int)<t_.I)) (idxn t_.P a7 λa8=>(fC a8 [(a2:Int)]).bind λb0=>chk (E5 (List.length a6+1) 24) (chk (inR ((a2:Int)+1)) (some (.inl ((a6++[b0]),(a2+1)))))) (some (.inr a6))
def bC.s14(t_:B8)(a6:A3)(a2:Nat):Option ((A3×Nat)⊕A3):=cond (decide ((a2:Int)<(t_.P.length:Int))) ((iter (λ(s:A3×Nat)=>bC.s13 t_ a2 s.1 s.2) fuel (a6,0)).bind (λa7=>some (.inl (a7,(a2+1))))) (some (.inr a6))
def bC(t_:B8):Option A3:=(iter (λ(s:A3×Nat)=>bC.s14 t_ s.1 s.2) fuel ([],0)).bind (λa2=>(gC a2).bind λa6=>some a6)
def aX.s13(t_:B8)(o_:A6)(b4:A3)(a8:Nat)(a2:A3)(a6:Nat):Option ((A3×Nat)⊕A3):=cond (decide ((a6:Int)<(t_.X.length:Int))) (idxn b4 a8 λb0=>idxn t_.X a6 λb2=>(fC b0 b2).bind λa7=>(cD o_ a7).bind λb3=>cond ((!b3.2)) (chk (E5 (List.length a2+1) 24) (some (.inl ((a2++[a7]),(a6+1))))) (some (.inl (a2,(a6+1))))) (some (.inr a2))
def aX.s14(t_:B8)(o_:A6)(a8 a6:A3)(a2:Nat):Option ((A3×Nat)⊕A3):=cond (decide ((a2:Int)<(a8.length:Int))) ((iter (λ(s:A3×Nat)=>aX.s13 t_ o_ a8 a2 s.1 s.2) fuel (a6,0)).bind (λa7=>some (.inl (a7,(a2+1))))) (some (.inr a6))
def aX(t_:B8)(o_:A6):Option (A3×Int):=(rH t_ o_).bind λa7=>cond (decide (a7≠0)) (some ([],a7)) ((bC t_).bind λa8=>(gA [t_.P,a8]).bind λb0=>(iter (λ(s:A3×Nat)=>aX.s14 t_ o_ b0 s.1 s.2) fuel ([],0)).bind (λa2=>(bA a2).bind λa6=>some (a6,0)))
def eV.s2(t_:B8)(o_:A6)(a6:A3×Bool)(a2:Nat):Option (Nat⊕(Unit⊕Int)):=cond (decide ((a2:Int)<(t_.P.length:Int))) (idxn t_.P a2 λa7=>(bJ o_ t_.X a7).bind λa8=>(bY a8.1 a6.1).bind λb0=>cond (b0) (some (.inr (.inr (a2:Int)))) (some (.inl (a2+1)))) (some (.inr (.inl ())))
def eV(t_:B8)(o_:A6)(w_:A2):Option Int:=(bJ o_ t_.X w_).bind λa2=>(iter (λ(s:Nat)=>eV.s2 t_ o_ a2 s) fuel 0).bind (Sum.elim (λ_=>some (-1:Int)) some)
def rV(t_:B8)(o_:A6):Option Int:=(aX t_ o_).bind λa2=>cond (decide (a2.2≠0)) (some a2.2) (cond (decide (0<(a2.1.length:Int))) (some 12) (some 0))
def gK.s2(t_:B8)(o_:A6)(a6:A3)(a2:Nat):Option (Nat⊕(Unit⊕(A2×Bool×Int))):=cond (decide ((a2:Int)<(a6.length:Int))) (idxn a6 a2 λa7=>(eV t_ o_ a7).bind λa8=>cond (decide (a8<0)) (idxn a6 a2 λb0=>some (.inr (.inr (b0,true,0)))) (some (.inl (a2+1)))) (some (.inr (.inl ())))
def gK(t_:B8)(o_:A6):Option (A2×Bool×Int):=(rV t_ o_).bind λa2=>cond (decide (a2≠0)) (some ([],false,a2)) ((bC t_).bind λa6=>(iter (λ(s:Nat)=>gK.s2 t_ o_ a6 s) fuel 0).bind (Sum.elim (λ_=>some ([],false,0)) some))
def aZ.s13(t_:B8)(a7:Nat)(a6 a8:A3×Bool)(a2:Nat):Option (Nat⊕(Unit⊕(Nat⊕(Unit⊕(A2×Bool))))):=cond (decide ((a2:Int)<(a6.1.length:Int))) (idxn a6.1 a2 λb0=>idxn a8.1 a2 λb2=>(bW b0 b2).bind λb3=>cond ((!b3)) (idxn t_.X a2 λb4=>(fC [(a7:Int)] b4).bind λb5=>some (.inr (.inr (.inr (.inr (b5,true)))))) (some (.inl (a2+1)))) (some (.inr (.inl ())))
def aZ.s14(t_:B8)(o_:A6)(p_ q_:A2)(a2:Nat):Option (Nat⊕(Unit⊕(A2×Bool))):=cond (decide ((a2:Int)<t_.I)) ((fC p_ [(a2:Int)]).bind λa6=>(bJ o_ t_.X a6).bind λa7=>(fC q_ [(a2:Int)]).bind λa8=>(bJ o_ t_.X a8).bind λb0=>(iter (λ(s:Nat)=>aZ.s13 t_ a2 a7 b0 s) fuel 0).bind (Sum.elim (λ_=>chk (inR ((a2:Int)+1)) (some (.inl (a2+1)))) some)) (some (.inr (.inl ())))
def aZ(t_:B8)(o_:A6)(p_ q_:A2):Option (A2×Bool):=(iter (λ(s:Nat)=>aZ.s14 t_ o_ p_ q_ s) fuel 0).bind (Sum.elim (λ_=>some ([],false)) some)
def bB.s13(t_:B8)(o_:A6)(a6 a2:Nat):Option (Nat⊕(Unit⊕(Nat⊕(Unit⊕(A2×Bool×Int))))):=cond (decide ((a2:Int)<(t_.P.length:Int))) ((idxn t_.P a6 λa8=>(bJ o_ t_.X a8).bind λb0=>idxn t_.P a2 λb2=>(bJ o_ t_.X b2).bind λb3=>(bY b0.1 b3.1).bind λb4=>cond ((!b4)) (some (.inl ())) (idxn t_.P a6 λb5=>idxn t_.P a2 λb6=>(aZ t_ o_ b5 b6).bind λa7=>cond (a7.2) (some (.inr (.inr (.inr (.inr (.inr (a7.1,true,0))))))) (some (.inl ()))):Option (Unit⊕(Nat⊕(Unit⊕(Nat⊕(Unit⊕(A2×Bool×Int))))))).bind (Sum.elim (λ_=>some (.inl (a2+1))) some)) (some (.inr (.inl ())))
def bB.s14(t_:B8)(o_:A6)(a2:Nat):Option (Nat⊕(Unit⊕(A2×Bool×Int))):=cond (decide ((a2:Int)<(t_.P.length:Int))) ((iter (λ(s:Nat)=>bB.s13 t_ o_ a2 s) fuel (a2+1)).bind (Sum.elim (λ_=>some (.inl (a2+1))) some)) (some (.inr (.inl ())))
def bB(t_:B8)(o_:A6):Option (A2×Bool×Int):=(rV t_ o_).bind λa2=>cond (decide (a2≠0)) (some ([],false,a2)) ((iter (λ(s:Nat)=>bB.s14 t_ o_ s) fuel 0).bind (Sum.elim (λ_=>some ([],false,0)) some))
def tM(t_:B8)(o_:A6):Option (B8×A3×Bool×Int):=(aX t_ o_).bind λa2=>(cond (decide (a2.2≠0)) (some true) (some (decide (0<(a2.1.length:Int))))).bind (λb2=>cond (b2) (some (t_,a2.1,false,a2.2)) ((gK t_ o_).bind λa6=>cond (a6.2.1) ((uO t_ a6.1).bind λa7=>some (a7.1,[],false,a7.2)) ((bB t_ o_).bind λa8=>cond (a8.2.1) ((uJ t_ a8.1).bind λb0=>some (b0.1,[],false,b0.2)) (some (t_,[],true,0)))))
def qM(l_:C7)(o_:A6):Option (C7×A3×Bool×Int):=(pC l_ o_).bind λa6=>cond (decide (a6≠0)) (some (l_,[],false,a6)) ((bM l_).bind λa7=>(tM a7 o_).bind λa2=>(R28_Of a2.1).bind λa8=>some (a8,a2.2.1,a2.2.2.1,a2.2.2.2))
def iH.s2(l_:A2)(n_:Int)(a2:Nat):Option (Nat⊕(Unit⊕Int)):=cond (decide ((a2:Int)<(l_.length:Int))) (idxn l_ a2 λa6=>cond (decide (a6=n_)) (some (.inr (.inr (a2:Int)))) (some (.inl (a2+1)))) (some (.inr (.inl ())))
def iH(l_:A2)(n_:Int):Option Int:=(iter (λ(s:Nat)=>iH.s2 l_ n_ s) fuel 0).bind (Sum.elim (λ_=>some 0) some)
def U0.s18(t_:B8)(o_:A6)(l_ a8 a6 a7:A2)(a2:Nat):Option ((A2×A2×Nat)⊕(A2×A2)):=cond (decide ((a2:Int)<t_.I)) ((lJ o_ a8 [(a2:Int)]).bind λb0=>(fC a8 [(a2:Int)]).bind λb2=>(eV t_ o_ b2).bind λb3=>(iH l_ b3).bind λb4=>chk (E5 (List.length a6+1) 8) (idxn b0.1 0 λb5=>chk (E5 (List.length a7+1) 8) (chk (inR ((a2:Int)+1)) (some (.inl ((a6++[b4]),(a7++[b5]),(a2+1))))))) (some (.inr (a6,a7)))
def U0.k19(a2 a6 a7:A3)(a8:Nat)(b0 b2 b3:A2):Option ((A3×A3×A3×Nat)⊕(A3×A3×A3)):=chk (E5 (List.length a2+1) 24) (chk (E5 (List.length a6+1) 24) ((fC b0 []).bind λb4=>chk (E5 (List.length a7+1) 24) (some (.inl ((a2++[b2]),(a6++[b3]),(a7++[b4]),(a8+1))))))
def U0.s20(t_:B8)(o_:A6)(l_:A2)(a6 a7 a8:A3)(a2:Nat):Option ((A3×A3×A3×Nat)⊕(A3×A3×A3)):=cond (decide ((a2:Int)<(l_.length:Int))) (idxn l_ a2 λb2=>idx t_.P b2 λb0=>(iter (λ(s:A2×A2×Nat)=>U0.s18 t_ o_ l_ b0 s.1 s.2.1 s.2.2) fuel ([],[],0)).bind (λs=>U0.k19 a6 a7 a8 a2 b0 s.1 s.2)) (some (.inr (a6,a7,a8)))
def U0.k21(t_:B8)(a2 a6 a7:A3):Option E3:=some (⟨(⟨t_.I,0,a2,a6⟩:B7),a7⟩:E3)
def U0(t_:B8)(o_:A6)(l_:A2):Option E3:=(iter (λ(s:A3×A3×A3×Nat)=>U0.s20 t_ o_ l_ s.1 s.2.1 s.2.2.1 s.2.2.2) fuel ([],[],[],0)).bind (λs=>U0.k21 t_ s.1 s.2.1 s.2.2)
def iQ.s2(t_:B8)(o_:A6)(a6:A2)(a2:Nat):Option ((A2×Nat)⊕A2):=cond (decide ((a2:Int)<(t_.P.length:Int))) (idxn t_.P a2 λa7=>(eV t_ o_ a7).bind λa8=>cond (decide (a8=(a2:Int))) (chk (E5 (List.length a6+1) 8) (some (.inl ((a6++[(a2:Int)]),(a2+1))))) (some (.inl (a6,(a2+1))))) (some (.inr a6))
def iQ(t_:B8)(o_:A6):Option A2:=(iter (λ(s:A2×Nat)=>iQ.s2 t_ o_ s.1 s.2) fuel ([],0)).bind (λa2=>some a2)
def vQ(t_:B8)(o_:A6):Option (E3×Int):=(gK t_ o_).bind λa2=>cond (decide (a2.2.2≠0)) (some ((⟨(⟨0,0,[],[]⟩:B7),[]⟩:E3),a2.2.2)) ((bB t_ o_).bind λa7=>(cond (a2.2.1) (some true) (some a7.2.1)).bind (λa8=>cond (a8) (some ((⟨(⟨0,0,[],[]⟩:B7),[]⟩:E3),10)) ((iQ t_ o_).bind λa6=>cond (decide (128<(a6.length:Int))) (some ((⟨(⟨0,0,[],[]⟩:B7),[]⟩:E3),11)) ((U0 t_ o_ a6).bind λb0=>some (b0,0)))))
def pM(l_:C7)(o_:A6):Option (E3×Int):=(pC l_ o_).bind λa2=>cond (decide (a2≠0)) (some ((⟨(⟨0,0,[],[]⟩:B7),[]⟩:E3),a2)) ((bM l_).bind λa7=>(vQ a7 o_).bind λa6=>some (a6.1,a6.2))
def tS(a_ b_:B7):Option Int:=(S4 a_).bind λa2=>cond (decide (a2≠0)) (some a2) ((S4 b_).bind λa6=>cond (decide (a6≠0)) (some a6) (cond (decide (a_.I≠b_.I)) (some 15) (some 0)))
def vG(w_:A2)(a_:Int):Option A2:=chk (E5 w_.length 8) (chk (E5 (List.length w_+1) 8) (some (w_++[a_])))
def V4.s84(a6:List aN)(a7 a8:Int)(known2308:Bool)(a2:Nat):Option ((Bool×Nat)⊕Bool):=cond (decide ((a2:Int)<(a6.length:Int))) (cond (known2308) (some (.inl (true,(a2+1)))) (idxn a6 a2 λb0=>cond (decide (b0.S=a7)) (idxn a6 a2 λb2=>some (.inl (decide (b2.T=a8),(a2+1)))) (some (.inl (false,(a2+1)))))) (some (.inr known2308))
def V4.s85(a_ b_:B7)(a7:Nat)(a2:List aN)(a6:Nat):Option ((List aN×Nat)⊕(List aN⊕((List aN×Nat)⊕(Unit⊕(A2×Bool))))):=cond (decide ((a6:Int)<a_.I)) (idxn a2 a7 λb3=>(vG b3.Word (a6:Int)).bind λa8=>idxn a2 a7 λb4=>idx a_.O b4.S λb5=>idxn b5 a6 λb6=>idxn a2 a7 λb7=>idx b_.O b7.T λb8=>idxn b8 a6 λb9=>cond (decide (b6≠b9)) (some (.inr (.inr (.inr (.inr (a8,true)))))) (idxn a2 a7 λc0=>idx a_.N c0.S λc6=>idxn c6 a6 λb0=>idxn a2 a7 λc7=>idx b_.N c7.T λc8=>idxn c8 a6 λb2=>(iter (λ(s:Bool×Nat)=>V4.s84 a2 b0 b2 s.1 s.2) fuel (false,0)).bind (λknown2303=>cond ((!known2303)) (chk (E5 (List.length a2+1) 40) (chk (inR ((a6:Int)+1)) (some (.inl ((a2++[(⟨b0,b2,a8⟩:aN)]),(a6+1)))))) (chk (inR ((a6:Int)+1)) (some (.inl (a2,(a6+1)))))))) (some (.inr (.inl a2)))
def V4.s86(a_ b_:B7)(a6:List aN)(a2:Nat):Option ((List aN×Nat)⊕(Unit⊕(A2×Bool))):=cond (decide ((a2:Int)<(a6.length:Int))) ((iter (λ(s:List aN×Nat)=>V4.s85 a_ b_ a2 s.1 s.2) fuel (a6,0)).bind (Sum.elim (λa7=>some (.inl (a7,(a2+1)))) some)) (some (.inr (.inl ())))
def V4(a_ b_:B7)(s_ t_:Int):Option (A2×Bool):=(iter (λ(s:List aN×Nat)=>V4.s86 a_ b_ s.1 s.2) fuel ([(⟨s_,t_,[]⟩:aN)],0)).bind (Sum.elim (λ_=>some ([],false)) some)
def lX(a_ b_:B7):Option (A2×Bool×Int):=(tS a_ b_).bind λa2=>cond (decide (a2≠0)) (some ([],false,a2)) ((V4 a_ b_ a_.S b_.S).bind λa6=>some (a6.1,a6.2,0))
def bZ.k3(a6:Int)(a7 a8:A3)(b0:Int)(b2:List A8)(b3:Nat)(a2:Int):Option ((Int×A3×A3×Int×List A8×Nat)⊕(E3×A6×Int×Int)):=cond (decide (a2≠0)) (some (.inr ((⟨(⟨0,0,[],[]⟩:B7),[]⟩:E3),(⟨0,[]⟩:A6),0,a2))) (some (.inl (a6,a7,a8,b0,b2,b3)))
def bZ.s4(m_:B7)(b5:Int)(b6 b7:A3)(b3:Int)(b4:List A8)(a8:Nat):Option ((Int×A3×A3×Int×List A8×Nat)⊕(E3×A6×Int×Int)):=(qM (⟨b5,b6,b7⟩:C7) (⟨b3,b4⟩:A6)).bind λa2=>cond (decide (a2.2.2.2≠0)) (some (.inr ((⟨(⟨0,0,[],[]⟩:B7),[]⟩:E3),(⟨0,[]⟩:A6),0,a2.2.2.2))) ((Y4 (⟨b3,b4⟩:A6) m_ a2.2.1).bind λa6=>((cond (decide (a6.2=0)) (some a2.2.2.1) (some false)).bind (λb8=>cond (b8) (chk (inR ((a8:Int)+1)) ((pM a2.1 a6.1).bind λb0=>cond (decide (b0.2≠0)) (some (.inr (.inr ((⟨(⟨0,0,[],[]⟩:B7),[]⟩:E3),(⟨0,[]⟩:A6),0,b0.2)))) ((lX b0.1.M m_).bind λb2=>(cond (decide (b2.2.2=0)) (some (!b2.2.1)) (some false)).bind (λb9=>cond (b9) (some (.inr (.inr (b0.1,a6.1,((a8:Int)+1),0)))) (cond (decide (b2.2.2=0)) ((dA a2.1 b0.1 a6.1 m_ b2.1).bind λa7=>some (.inl (a7.1.I,a7.1.Short,a7.1.X,a7.2.1.I,a7.2.1.T,(a8+1),a7.2.2))) (some (.inl (a2.1.I,a2.1.Short,a2.1.X,a6.1.I,a6.1.T,(a8+1),b2.2.2)))))))) (some (.inl (a2.1.I,a2.1.Short,a2.1.X,a6.1.I,a6.1.T,a8,a6.2)))):Option ((Int×A3×A3×Int×List A8×Nat×Int)⊕((Int×A3×A3×Int×List A8×Nat)⊕(E3×A6×Int×Int)))).bind (Sum.elim (λs=>bZ.k3 s.1 s.2.1 s.2.2.1 s.2.2.2.1 s.2.2.2.2.1 s.2.2.2.2.2.1 s.2.2.2.2.2.2) some))
def bZ(m_:B7):Option (E3×A6×Int×Int):=(S4 m_).bind λa6=>cond (decide (a6≠0)) (some ((⟨(⟨0,0,[],[]⟩:B7),[]⟩:E3),(⟨0,[]⟩:A6),0,a6)) ((R28_New m_.I).bind λa2=>iter (λ(s:Int×A3×A3×Int×List A8×Nat)=>bZ.s4 m_ s.1 s.2.1 s.2.2.1 s.2.2.2.1 s.2.2.2.2.1 s.2.2.2.2.2) fuel (a2.1.I,a2.1.Short,a2.1.X,m_.I,[],0))
def tL(a_ b_:B7):Option Bool:=(cond (decide (a_.I=b_.I)) (cond (decide (a_.S=b_.S)) ((bY a_.N b_.N).bind λa2=>cond (a2) ((bY a_.O b_.O).bind λa6=>some a6) (some false)) (some false)) (some false)).bind (λa7=>some a7)
def tG(a_ b_:E3):Option Bool:=((tL a_.M b_.M).bind λa2=>cond (a2) ((bY a_.Access b_.Access).bind λa6=>some a6) (some false)).bind (λa7=>some a7)
def iW.s2(a_ b_:List A8)(a2:Nat):Option (Nat⊕(Unit⊕Bool)):=cond (decide ((a2:Int)<(a_.length:Int))) ((idxn a_ a2 λa6=>idxn b_ a2 λa7=>(bW a6.In a7.In).bind λa8=>cond ((!a8)) (some true) (idxn a_ a2 λb0=>idxn b_ a2 λb2=>(bW b0.O b2.O).bind λb3=>some (!b3))).bind (λb4=>cond (b4) (some (.inr (.inr false))) (some (.inl (a2+1))))) (some (.inr (.inl ())))
def iW(a_ b_:List A8):Option Bool:=cond (decide ((a_.length:Int)≠(b_.length:Int))) (some false) ((iter (λ(s:Nat)=>iW.s2 a_ b_ s) fuel 0).bind (Sum.elim (λ_=>some true) some))
def tH(a_ b_:A6):Option Bool:=(cond (decide (a_.I=b_.I)) ((iW a_.T b_.T).bind λa2=>some a2) (some false)).bind (λa6=>some a6)
def vJ(m_:B7):Option Bool:=(tU m_).bind λa7=>cond ((!a7)) ((tW).bind λa8=>some a8) ((cE m_).bind λa2=>(bZ m_).bind λa6=>((tG a2.1 a6.1).bind λb0=>cond (b0) ((tH a2.2.1 a6.2.1).bind λb2=>cond (b2) (cond (decide (a2.2.2.1=a6.2.2.1)) (cond (decide (a2.2.2.2=a6.2.2.2)) ((tW).bind λb3=>some b3) (some false)) (some false)) (some false)) (some false)).bind (λb4=>some b4))
section
section
variable {S R A B V G:Type}
def V3{step:S->Option (S⊕R)}(I:S->Prop)(m:S->Nat)(Q:R->Prop)(h:∀s,I s->(∃s',step s=some (.inl s')/\I s'/\m s'<m s)\/∃r,step s=some (.inr r)/\Q r) :
  ∀(n:Nat) (s:S),I s->m s<n->∃r,iter step n s=some r/\Q r
 |0,_,_,hm=>absurd hm (CC _)
 |n+1,s,hi,hm=>by
  unfold iter;rcases h s hi with⟨s',e,hi',hm'⟩|⟨r,e,hq⟩
  ·rw[e];exact V3 I m Q h n s' hi' (by omega)
  ·rw[e];exact⟨r,rfl,hq⟩
def O4{step:S->Option (S⊕R)}{r:R}(I:S->Prop)(m:S->Nat)(h:∀s,I s->(∃s',step s=some (.inl s')/\I s'/\m s'<m s)\/step s=some (.inr r)){n:Nat}{s:S}(hi:I s)(hm:m s<n:=by have:=O9;(try simp only);omega):iter step n s=some r:=by
 obtain⟨r',e,rfl⟩:=V3 I m (λr'=>r'=r) (λs hs=>(h s hs).imp id λe=>⟨r,e,rfl⟩) n s hi hm;exact e
def walk(g:A->Nat->V->Option (A⊕R))(fin:A->Option R):A->Nat->List V->Option R
 |a,_,[]=>fin a
 |a,i,x::l=>(g a i x).bind (Sum.elim (λa'=>walk g fin a' (i+1) l) some)
def C6{l:List V}{i:Nat}{x:V}{k:V->Option G}(h:l[i]?=some x):idxn l i k=k x:=by unfold idxn;rw[h]
def F9{l:List V}{n:Int}{i:Nat}{x:V}{k:V->Option G}(hn:n=(i:Int))(h:l[i]?=some x):idx l n k=k x:=by
 subst hn;unfold idx;rw[if_pos (by omega),P0,h]
def F0{c:Prop}[Decidable c]{k:Option V}(h:c):chk c k=k:=by unfold chk;rw[if_pos h]
def K1{V:Type _}{c:Prop}[Decidable c]{k:Option V}(h:c:=by unfold inR;omega):chk c k=k:=F0 h
def eN{V:Type _}{c:Prop}[Decidable c]{k:Option V}(h:c:=by unfold E5;omega):chk c k=k:=F0 h
def A5{a:V}{f:V->Option G}:(some a).bind f=f a:=(N9 a f).trans (Eq.trans rfl rfl)
def O9:100000000000000<fuel:=by unfold fuel;omega
def cW{S R:Type}{step:S->Option (S⊕R)}(I:S->Prop)(m:S->Nat)(Q:R->Prop)(h:∀s,I s->(∃s',step s=some (.inl s')/\I s'/\m s'<m s)\/∃r,step s=some (.inr r)/\Q r)(s:S)(hi:I s)(hm:m s<fuel:=by have:=O9;(try simp only);omega):∃r,iter step fuel s=some r/\Q r:=V3 I m Q h fuel s hi hm
def I8{l:List V}{i:Nat}{x:V}(h:l[i]?=some x):decide ((i:Int)<(l.length:Int))=true:=by
 have:=(G4.1 h).1;simpa using this
def N7(l:List V):decide ((l.length:Int)<(l.length:Int))=false:=by simp
def scan(g:Nat->V->Option R):Nat->List V->Option R
 |_,[]=>none
 |i,x::l=>match g i x with|some r=>some r|none=>scan g (i+1) l
def aK{g:Nat->V->Option R}:∀{l:List V} {j:Nat},scan g j l=none↔∀i x,l[i]?=some x->g (j+i) x=none
 |[],j=>by simp[scan]
 |y::l,j=>by
  constructor
  ·intro h i x hx;unfold scan at h;cases e:g j y with
   |some r=>rw[e]at h;cases h
   |none =>
    rw[e]at h
    match i,hx with
    |0,hx =>
     simp at hx;subst hx;exact e
    |i+1,hx =>
     have:=(aK (g:=g) (l:=l) (j:=j+1)).1 h i x (by simpa using hx)
     rwa [show j+1+i=j+(i+1) by omega]at this
  ·intro h;unfold scan;have h0:=h 0 y rfl;rw[W7]at h0;rw[h0]
   exact(aK (g:=g) (l:=l) (j:=j+1)).2 λi x hx=>by
    have:=h (i+1) x (by simpa using hx)
    rwa [show j+(i+1)=j+1+i by omega]at this
def Q2{step:Nat->Option (Nat⊕(Unit⊕R))}{l:List V}(g:Nat->V->Option R)(h1:∀i x,l[i]?=some x->step i=some (match g i x with|some r=>.inr (.inr r)|none=>.inl (i+1)))(h2:step l.length=some (.inr (.inl ())))(hl:l.length<=100000000000000) :
  iter step fuel 0=some (match scan g 0 l with|some r=>.inr r|none=>.inl ()):=by
 have key:∀(n i:Nat),i<=l.length->l.length-i<n->iter step n i=some (match scan g i (l.drop i) with|some r=>.inr r|none=>.inl ()):=by
  intro n
  induction n with
  |zero=>intro i _ h;omega
  |succ n ih =>
   intro i hi hn;rcases L8 i l.length with h|h
   ·rw[cR h];unfold iter scan;rw[h1 i _ (L4 h)];cases g i l[i]with
    |some r=>rfl
    |none=>exact ih (i+1) h (by omega)
   ·have e:i=l.length:=by omega
    subst e;rw[kV];unfold iter scan;rw[h2]
 exact key fuel 0 (F8 _) (by have:=O9;omega)
def foldi(f:A->Nat->V->A):A->Nat->List V->A
 |a,_,[]=>a
 |a,i,x::l=>foldi f (f a i x) (i+1) l
def iter_fold{step:A×Nat->Option ((A×Nat)⊕R)}{l:List V}(f:A->Nat->V->A)(fin:A->R)(Inv:A->Nat->Prop)(h1:∀a i x,Inv a i->l[i]?=some x->step (a,i)=some (.inl (f a i x,i+1))/\Inv (f a i x) (i+1))
  (h2:∀a,Inv a l.length->step (a,l.length)=some (.inr (fin a))) (hl:l.length<=100000000000000) {a0:A} (h0:Inv a0 0):iter step fuel (a0,0)=some (fin (foldi f a0 0 l))/\Inv (foldi f a0 0 l) l.length:=by
 have key:∀(n i:Nat) (a:A),Inv a i->i<=l.length->l.length-i<n->iter step n (a,i)=some (fin (foldi f a i (l.drop i)))/\Inv (foldi f a i (l.drop i)) l.length:=by
  intro n
  induction n with
  |zero=>intro i _ _ _ h;omega
  |succ n ih =>
   intro i a hv hi hn;rcases L8 i l.length with h|h
   ·rw[cR h];unfold iter foldi;obtain⟨e,a2⟩:=h1 a i _ hv (L4 h);rw[e];exact ih (i+1) _ a2 h (by omega)
   ·have e:i=l.length:=by omega
    subst e;rw[kV];unfold iter foldi;rw[h2 a hv];exact⟨rfl,hv⟩
 exact key fuel 0 a0 h0 (F8 _) (by have:=O9;omega)
def xZ{f:A->V->A}:∀(l:List V) (a:A) (i:Nat),foldi (λa _ x=>f a x) a i l=l.foldl f a
 |[],_,_=>rfl
 |x::l,a,i=>by unfold foldi;exact xZ l (f a x) (i+1)
end
end
def LG(x y:Int):cmp_Compare_int x y=some (cmpI x y):=by
 unfold cmp_Compare_int cmp_isNaN_int cmpI;by_cases h1:x<y
 ·simp[h1]
 ·by_cases h2:y<x<;>simp[h1,h2]
def LC(s t:A2)(hs:s.length<=100000000000000):jA s t=some (lexI s t):=by
 have key:=V3 (step:=λk=>jA.s2 s t k) (λk=>k<=s.length/\k<=t.length/\lexI s t=lexI (s.drop k) (t.drop k)) (λk=>s.length-k)
  (λr=>Sum.elim (λ(_:Unit)=>cond (decide ((s.length:Int)<(t.length:Int))) (some (-1:Int)) (some 0)) some r=some (lexI s t)) (λk ⟨h1,h2,h3⟩=>by
   unfold jA.s2
   rcases L8 k s.length with h|h
   ·have hx:=L4 h
    rw[I8 hx,D2,C6 hx]
    by_cases h4:t.length<=k
    ·right
     refine⟨.inr 1,by simp[h4],?_⟩
     rw[h3,lexI_long h h4]
     rfl
    ·have hy:=L4 (show k<t.length by omega)
     have a2:=lexI_step hx hy
     have d4:decide ((t.length:Int)<=(k:Int))=false:=by simp;omega
     rw[d4,D6,C6 hy,LG]
     by_cases h5:cmpI s[k] t[k]=0
     ·left
      rw[if_pos h5]at a2
      exact⟨k+1,by simp[h5],⟨by omega,by omega,by rw[h3,a2]⟩,by omega⟩
     ·right
      rw[if_neg h5]at a2
      exact⟨.inr (cmpI s[k] t[k]),by simp[h5],by rw[h3,a2];rfl⟩
   ·right
    have e:k=s.length:=by omega
    subst e
    rw[N7,D6]
    refine⟨.inl (),rfl,?_⟩
    rw[h3,lexI_end (H4 _)]
    by_cases h4:s.length<t.length<;>simp[h4]) fuel 0 ⟨F8 _,F8 _,rfl⟩ (by have:=O9;simp only[sN];omega)
 obtain⟨r,e,hq⟩:=key;unfold jA;rw[e];exact hq
def cmp_Or_two(x y:Int):gB [x,y]=some (if x≠0 then x else y):=by
 unfold gB;have e:fuel=(fuel-3)+1+1+1:=by unfold fuel;omega
 rw[e];by_cases h1:x=0
 ·by_cases h2:y=0
  ·simp[iter,gB.s2,idxn,h1,h2]
  ·simp[iter,gB.s2,idxn,h1,h2]
 ·simp[iter,gB.s2,idxn,h1]
def uZ(s t:A2)(hs:s.length<=100000000000000):jT s t=some (lexI s t):=by
 unfold jT;rw[LC s t hs];rfl
def wA(s t:A2)(hs:s.length<=100000000000000):cJ s t=some (cmpW s t):=by
 unfold cJ;rw[LC s t hs,LG];show(gB [cmpI s.length t.length,lexI s t]).bind some=_;rw[cmp_Or_two];show some _=some _;congr 1;unfold cmpI cmpW;by_cases h1:s.length<t.length
 ·simp[h1]
 ·by_cases h2:t.length<s.length
  ·simp[h1,h2]
  ·simp[h1,h2]
def cmpE_word_Lex:CmpE Tryz.prog 89 (λx=>nL cI x) (λx y=>jT x y) :=
 ⟨λargs w=>fY rfl rfl rfl args w,cmpG_lex λx y r hx h=>by rw[uZ x y (by omega)]at h;injection h with h;exact h.symm⟩
def zwx:CmpE Tryz.prog 72 (λx=>nL cI x) (λx y=>cJ x y) :=
 ⟨λargs w=>fY rfl rfl rfl args w,cmpG_compare λx y r hx h=>by rw[wA x y (by omega)]at h;injection h with h;exact h.symm⟩
def zws:CmpE Tryz.prog 122 (λx=>.agg (C4 x)) (λx y=>aM x y) :=
 ⟨λargs w=>fY rfl rfl rfl args w,cmpG_find1 (T:=A8) (i:=λx=>x.In) (o:=λx=>x.O) (f:=λx y=>aM x y) (λ_=>rfl) λx y r hx h=>by
  simp only[aM]at h
  rw[uZ _ _ (by omega)]at h
  injection h with h
  exact h.symm⟩
section
section
variable {V G R:Type}
def get_at{l:List V}{i:Nat}(h:i<l.length):l[i]?=some l[i]:=L4 h
def yR[DecidableEq V]{a b:List V}{step:Nat->Option (Nat⊕(Unit⊕Bool))}(hlen:a.length=b.length)(h1:∀i x y,a[i]?=some x->b[i]?=some y->step i=some (if x=y then .inl (i+1) else .inr (.inr false)))
  (h2:step a.length=some (.inr (.inl ()))) (hl:a.length<=100000000000000):(iter step fuel 0).bind (Sum.elim (λ_=>some true) some)=some (decide (a=b)):=by
 rw[Q2 (l:=a) (λi x=>if b[i]?=some x then none else some false) (λi x hx=>?_) h2 hl]
 ·cases e:scan (λi x=>if b[i]?=some x then none else some false) 0 a with
  |none =>
   have:=aK.1 e
   have a2:a=b:=by
    apply nP;intro i;rcases L8 i a.length with h|h
    ·have h3:=this i _ (get_at h);rw[J9]at h3;split at h3
     ·rename_i h4;rw[get_at h,h4]
     ·cases h3
    ·rw[fM h,fM (by omega)]
   simp[a2]
  |some r =>
   have a3:a≠b:=λa2=>by
    subst a2;have:scan (λi x=>if a[i]?=some x then none else some false) 0 a=none:=aK.2 λi x hx=>by rw[J9,if_pos hx]
    rw[this]at e;cases e
   have hr:r=false:=by
    have key:∀(l:List V) (j:Nat),scan (λi x=>if b[i]?=some x then none else some false) j l=some r->r=false:=by
     intro l
     induction l with
     |nil=>intro j h;cases h
     |cons x l ih =>
      intro j h;unfold scan at h;split at h
      ·rename_i r' h3;injection h with h
       subst h;split at h3
       ·cases h3
       ·injection h3 with h3
        exact h3.symm
      ·exact ih _ h
    exact key a 0 e
   subst hr;simp[a3]
 ·have hi:=(G4.1 hx).1;have hy:=get_at (l:=b) (i:=i) (by omega);rw[h1 i x _ hx hy];by_cases h:x=b[i]'(by omega)
  ·rw[if_pos h,hy,if_pos (by rw[h])]
  ·rw[if_neg h,hy,if_neg (λh3=>h (by injection h3 with h3;exact h3.symm))]
end
def oY(a b:A2)(hl:a.length<=100000000000000):bW a b=some (decide (a=b)):=by
 unfold bW;by_cases a2:a.length=b.length
 ·rw[show decide ((a.length:Int)≠(b.length:Int))=false by simp[a2],D6];refine yR a2 (λi x y hx hy=>?_) ?_ hl
  ·simp only[bW.s2];rw[I8 hx,D2,C6 hx,C6 hy];by_cases h:x=y<;>simp[h]
  ·simp only[bW.s2];rw[N7];rfl
 ·rw[show decide ((a.length:Int)≠(b.length:Int))=true by simp;omega,D2];have:a≠b:=λh=>a2 (by rw[h]);simp[this]
def nD(a b:A3)(hl:a.length<=100000000000000)(hw:∀x∈a,x.length<=100000000000000):bY a b=some (decide (a=b)):=by
 unfold bY;by_cases a2:a.length=b.length
 ·rw[show decide ((a.length:Int)≠(b.length:Int))=false by simp[a2],D6];refine yR a2 (λi x y hx hy=>?_) ?_ hl
  ·simp only[bY.s2];rw[I8 hx,D2,C6 hx,C6 hy,oY x y (hw x (H8 hx))];by_cases h:x=y<;>simp[h]
  ·simp only[bY.s2];rw[N7];rfl
 ·rw[show decide ((a.length:Int)≠(b.length:Int))=true by simp;omega,D2];have:a≠b:=λh=>a2 (by rw[h]);simp[this]
def SmW(x:A2):Prop:=x.length<=2000000
def SmL(l:A3):Prop:=l.length<=2000000/\∀x∈l,SmW x
def R01_Size_eq(n:Int):tC n=some (decide (1<=n/\n<=1024)):=by
 unfold tC;by_cases h1:1<=n<;>by_cases h2:n<=1024<;>simp[h1,h2]
def zwn(n:Int):vV n=some (decide (1<=n/\n<=1024)):=by
 unfold vV;by_cases h1:1<=n<;>by_cases h2:n<=1024<;>simp[h1,h2]
def oJ{V R:Type}{p:V->Bool}{r:R}:∀(l:List V) (j:Nat),scan (λ_ x=>if p x=true then none else some r) j l=if l.all p=true then none else some r
 |[],_=>rfl
 |x::l,j=>by
  unfold scan;by_cases h:p x=true
  ·simp only[h,if_true,List.all_cons,Bool.true_and];exact oJ l (j+1)
  ·simp[h]
def kJ(w:A2)(n:Int)(hl:SmW w):aA w n=some (H1 w n):=by
 unfold aA H1;rw[R01_Size_eq];by_cases h1:1<=n/\n<=1024
 ·rw[if_pos h1];simp only[N9,h1,and_self,decide_true,N2,D6];by_cases h2:1024<w.length
  ·rw[if_pos h2,show decide ((1024:Int)<(w.length:Int))=true from D3 (by omega),D2]
  ·rw[if_neg h2,show decide ((1024:Int)<(w.length:Int))=false from E2 (by omega),D6]
   have key:=Q2 (step:=λs=>aA.s2 w n s) (l:=w) (λ_ x=>if decide (0<=x/\x<n)=true then none else some (1:Int)) (λi x hx=>by
    simp only[aA.s2]
    rw[I8 hx,D2,C6 hx,C6 hx]
    by_cases a1:x<0
    ·simp[a1,show ¬(0<=x) by omega]
    ·by_cases a2:n<=x
     ·simp[a1,a2,show ¬(x<n) by omega]
     ·simp[a1,a2,show 0<=x by omega,show x<n by omega]) (by
    simp only[aA.s2]
    rw[N7]
    rfl) (by unfold SmW at hl;omega)
   rw[key,oJ (p:=λx=>decide (0<=x/\x<n))];by_cases h:(w.all λx=>decide (0<=x/\x<n))=true
   ·rw[if_pos h,if_pos h];rfl
   ·rw[if_neg h,if_neg h];rfl
 ·rw[if_neg h1];simp[h1]
def nH(w:A2)(n:Int)(hl:SmW w):iK w n=some (H1 w n):=by
 unfold iK H1 BG kR;rw[zwn];by_cases h1:1<=n/\n<=1024
 ·rw[if_pos h1];simp only[N9,h1,and_self,decide_true,N2,D6];by_cases h2:1024<w.length
  ·rw[if_pos h2,show decide ((1024:Int)<(w.length:Int))=true from D3 (by omega),D2]
  ·rw[if_neg h2,show decide ((1024:Int)<(w.length:Int))=false from E2 (by omega),D6]
   have key:=Q2 (step:=λs=>kR.s2 w (λu0=>rU u0 n) s) (l:=w) (λi x=>if decide (0<=x/\x<n)=true then none else some (i:Int)) (λi x hx=>by
    simp only[kR.s2,rU]
    rw[I8 hx,D2,C6 hx]
    by_cases a1:x<0
    ·simp[a1,show ¬(0<=x) by omega]
    ·by_cases a2:n<=x
     ·simp[a1,a2,show ¬(x<n) by omega]
     ·simp[a1,a2,show 0<=x by omega,show x<n by omega]) (by
    simp only[kR.s2]
    rw[N7]
    rfl) (by unfold SmW at hl;omega)
   rw[key];cases e:scan (λi x=>if decide (0<=x/\x<n)=true then none else some (i:Int)) 0 w with
   |none =>
    have h3:=aK.1 e
    have h:(w.all λx=>decide (0<=x/\x<n))=true:=O0.2 λx hx=>by
     obtain⟨i,hi,rfl⟩:=Q4.1 hx;have:=h3 i _ (get_at hi);split at this
     ·assumption
     ·cases this
    rw[if_pos h];simp
   |some r =>
    have h:¬(w.all λx=>decide (0<=x/\x<n))=true:=λh=>by
     have:scan (λi x=>if decide (0<=x/\x<n)=true then none else some (i:Int)) 0 w=none:=aK.2 λi x hx=>if_pos (O0.1 h x (H8 hx));rw[this]at e;cases e
    have hr:0<=r:=by
     have key:∀(l:A2) (j:Nat),scan (λi x=>if decide (0<=x/\x<n)=true then none else some (i:Int)) j l=some r->0<=r:=by
      intro l
      induction l with
      |nil=>intro j h;cases h
      |cons x l ih =>
       intro j h;unfold scan at h;split at h
       ·rename_i r' h3;injection h with h
        subst h;split at h3
        ·cases h3
        ·injection h3 with h3
         omega
       ·exact ih _ h
     exact key w 0 e
    rw[if_neg h];simp[hr]
 ·rw[if_neg h1];simp[h1]
def AJ(a b:A2)(ha:SmW a):gD a b=some (E9 a b:Int):=by
 unfold gD;rw[O4 (r:=E9 a b) (λk=>k<=a.length/\E9 a b=E9 (a.drop k) (b.drop k)+k) (λk=>a.length-k) (λk ⟨h1,h2⟩=>?_) ⟨F8 _,by simp⟩ (by have:=O9;unfold SmW at ha;omega)]
 ·rfl
 ·simp only[gD.s2];rcases L8 k a.length with h|h
  ·have hx:=get_at h;rcases L8 k b.length with h'|h'
   ·have hy:=get_at h';rw[I8 hx,I8 hy,D2,D2,C6 hx,C6 hy];rw[cR h,cR h']at h2;by_cases e:a[k]=b[k]
    ·left;unfold SmW at ha;refine⟨k+1,?_,⟨h,?_⟩,by omega⟩
     ·rw[K1];simp[e]
     ·rw[h2,e];simp[E9];omega
    ·right;simp only[E9,e,if_false,J9]at h2;simp[e,h2]
   ·right;rw[I8 hx,D2,show decide ((k:Int)<(b.length:Int))=false by simp;omega];rw[CU (Or.inr h'),J9]at h2;simp[h2]
  ·right;rw[show decide ((k:Int)<(a.length:Int))=false by simp;omega];rw[CU (Or.inl h),J9]at h2;simp[h2]
def EC(a b:A2)(ha:SmW a):mV a b=some (decide (a=b)):=by
 unfold mV;rw[AJ a b ha];have h:=same_iff a b;by_cases h1:a.length=b.length
 ·rw[show decide ((a.length:Int)=(b.length:Int))=true from D3 (by omega),D2];by_cases h2:E9 a b=a.length
  ·have:a=b:=h.1 ⟨h1,h2⟩;subst this;simp[zL]
  ·have:a≠b:=λe=>h2 (h.2 e).2;simp only[N9,this,decide_false];rw[E2 (by omega)]
 ·have:a≠b:=λe=>h1 (by rw[e]);rw[show decide ((a.length:Int)=(b.length:Int))=false from E2 (by omega),D6];simp[this]
def R01_Lex_eq(a b:A2)(ha:SmW a):R01_Lex a b=some (lexI a b):=by
 unfold R01_Lex;rw[AJ a b ha];have a3:=rA a b;have a2:=zq10 a b;rw[a2];simp only[N9];by_cases h1:E9 a b=a.length
 ·rw[show decide ((↑(E9 a b):Int)=↑a.length)=true from D3 (by omega),D2,D2];by_cases h2:E9 a b=b.length
  ·rw[show decide ((↑(E9 a b):Int)=↑b.length)=true from D3 (by omega),if_pos ⟨h1,h2⟩];rfl
  ·rw[show decide ((↑(E9 a b):Int)=↑b.length)=false from E2 (by omega),if_neg (λh=>h2 h.2),if_pos (Or.inl h1)];rfl
 ·rw[show decide ((↑(E9 a b):Int)=↑a.length)=false from E2 (by omega),D6,D6,if_neg (λh=>h1 h.1)];by_cases h2:E9 a b=b.length
  ·rw[show decide ((↑(E9 a b):Int)<(b.length:Int))=false from E2 (by omega),if_neg (λh=>by omega)];rfl
  ·have hx:=get_at (l:=a) (i:=E9 a b) (by omega);have hy:=get_at (l:=b) (i:=E9 a b) (by omega);rw[show decide ((↑(E9 a b):Int)<(b.length:Int))=true from D3 (by omega),D2,F9 rfl hx,F9 rfl hy];rw[fL,fL,hx,hy];by_cases h3:a[E9 a b]'(by omega)<b[E9 a b]'(by omega)
   ·rw[if_pos (Or.inr ⟨by omega,h3⟩)];simp[h3]
   ·rw[if_neg (λh=>by
     rcases h with h|⟨_,h⟩
     ·omega
     ·exact h3 h)]
    simp[h3]
def AO(a b:A2)(ha:SmW a):gJ a b=some (cmpW a b):=by
 unfold gJ cmpW;rw[R01_Lex_eq a b ha];by_cases h1:a.length<b.length
 ·rw[show decide ((a.length:Int)<(b.length:Int))=true from D3 (by omega),if_pos h1];rfl
 ·rw[show decide ((a.length:Int)<(b.length:Int))=false from E2 (by omega),if_neg h1,D6];by_cases h2:b.length<a.length
  ·rw[show decide ((b.length:Int)<(a.length:Int))=true from D3 (by omega),if_pos h2];rfl
  ·rw[show decide ((b.length:Int)<(a.length:Int))=false from E2 (by omega),if_neg h2];rfl
def CR(l:A3)(w:A2)(hl:SmL l):eO l w=some (decide (w∈l)):=by
 unfold eO
 have key:=Q2 (step:=λs=>eO.s2 l w s) (l:=l) (λ_ x=>if decide (x≠w)=true then none else some true) (λi x hx=>by
  simp only[eO.s2]
  rw[I8 hx,D2,C6 hx,EC x w (hl.2 x (H8 hx))]
  by_cases h:x=w<;>simp[h]) (by
  simp only[eO.s2]
  rw[N7]
  rfl) (by have:=hl.1;omega)
 rw[key,oJ (p:=λx=>decide (x≠w))];by_cases h:w∈l
 ·have:¬(l.all λx=>decide (x≠w))=true:=λh2=>by
   have:=O0.1 h2 w h;simp at this
  rw[if_neg this];simp[h]
 ·have:(l.all λx=>decide (x≠w))=true:=O0.2 λx hx=>by
   have:x≠w:=λe=>h (e ▸ hx);simpa using this
  rw[if_pos this];simp[h]
end
end Go.Proofs.YtjmcbfbjajlbhaaGreatDoor.Sym
namespace Go.Proofs.YtjmcbfbjajlbhaaGreatDoor
def M64:Nat:=18446744073709551616
def gold:Nat:=11400714819323198485
def mulA:Nat:=13787848793156543929
def mulB:Nat:=10723151780598845931
def mix(y:Nat):Nat :=
 let z:=(y ^^^ (y >>> 30))*mulA%M64
 let u:=(z ^^^ (z >>> 27))*mulB%M64
 u ^^^ (u >>> 31)
def few:∀(k a:Nat) (l:List Nat),l.Nodup->(∀x∈l,a<=x/\x<a+k)->l.length<=k
 |0,a,l,_,h=>by
  cases l with
  |nil=>simp
  |cons x l=>have:=h x (by simp);omega
 |k+1,a,l,hn,h=>by
  have h1:=few k a (l.erase (a+k)) (hn.erase _) λx hx=>by
   have h2:=(hn.mem_erase_iff).1 hx;have h3:=h x h2.2;have h4:=h2.1;omega
  by_cases hm:a+k∈l
  ·have:=List.length_erase_of_mem hm;omega
  ·rw[List.erase_of_not_mem hm]at h1;omega
def drawF:Nat->Nat->Nat×Nat
 |0,s=>(0,s)
 |f+1,s=>if mix ((s+gold)%M64)<M64-1616 then(mix ((s+gold)%M64)%10000,(s+gold)%M64) else drawF f ((s+gold)%M64)
def draw(s:Nat):Nat×Nat:=drawF 1617 s
end Go.Proofs.YtjmcbfbjajlbhaaGreatDoor
namespace Go.Proofs.YtjmcbfbjajlbhaaGreatDoor.Sym
def steps(nx:Nat->Nat):Nat->Nat->Nat
 |0,s=>s
 |j+1,s=>steps nx j (nx s)
def nxt(s:Nat):Nat:=(s+gold)%M64
section
section
variable {O Z:Type}[BEq O]
def FS{k:O}{v:Z}(hb:∀a b:O,(a==b)=true↔a=b):∀m:List (O×Z),mget k (mset k v m)=some v
 |[]=>by
  unfold mset mget;rw[(hb k k).2 rfl]
 |p::m=>by
  unfold mset;cases h:k==p.1 with
  |true =>
   show mget k ((k,v)::m)=_;unfold mget;rw[(hb k k).2 rfl]
  |false =>
   show mget k (p::mset k v m)=_;unfold mget;rw[h];exact FS hb m
def EM{k k':O}{v:Z}(hb:∀a b:O,(a==b)=true↔a=b)(hne:¬k'=k):∀m:List (O×Z),mget k' (mset k v m)=mget k' m
 |[]=>by
  have e:(k'==k)=false:=by
   cases e:k'==k with
   |true=>exact absurd ((hb _ _).1 e) hne
   |false=>rfl
  unfold mset mget;simp only[e];rfl
 |p::m=>by
  unfold mset;cases h:k==p.1 with
  |true =>
   have e1:k=p.1:=(hb _ _).1 h;show mget k' ((k,v)::m)=mget k' (p::m)
   have e:(k'==k)=false:=by
    cases e:k'==k with
    |true=>exact absurd ((hb _ _).1 e) hne
    |false=>rfl
   unfold mget;rw[<- e1];simp only[e]
  |false =>
   show mget k' (p::mset k v m)=mget k' (p::m);unfold mget;rw[EM hb hne m]
end
def ba_beq(a b:ByteArray):(a==b)=true↔a=b:=by
 cases a;cases b;show ByteArray.beq _ _=true↔_;unfold ByteArray.beq;simp
def U3(l:A3)(i:Nat)(w:A2):Bool:=match i with
 |0=>true
 |i+1=>match l[i]? with|some p=>decide (cmpW p w<0)|none=>true
def zq15{l:A3}(h:∀i w,l[i]?=some w->U3 l i w=true):Asc l:=by
 have one:∀i p w,l[i]?=some p->l[i+1]?=some w->cmpW p w=-1:=λi p w hp hw=>by
  have h1:=h (i+1) w hw;unfold U3 at h1;simp only[hp]at h1;have h1:=of_decide_eq_true h1;have:=lO p w;omega
 have key:∀(d i:Nat) p w,l[i]?=some p->l[i+d+1]?=some w->cmpW p w=-1:=by
  intro d
  induction d with
  |zero=>exact one
  |succ d ih =>
   intro i p w hp hw;have hj:=(G4.1 hw).1;have hm:=get_at (l:=l) (i:=i+d+1) (by omega);exact kD _ _ _ (ih i p _ hp hm) (one _ _ _ hm (by rw[show i+d+1+1=i+(d+1)+1 by omega];exact hw))
 rw[Asc,V8];intro i j hi hj a2;exact key (j-i-1) i _ _ (get_at hi) (by rw[show i+(j-i-1)+1=j by omega];exact get_at hj)
def KU(l:A3)(hl:SmL l){i:Nat}{w:A2}(h:l[i]?=some w):pK l (i:Int)=some (U3 l i w):=by
 have hi:=(G4.1 h).1;have a2:l.length<=2000000:=hl.1;unfold pK U3;cases i with
 |zero=>rfl
 |succ i =>
  have hp:=get_at (show i<l.length by omega)
  rw[show decide ((↑(i+1):Int)=0)=false from E2 (by omega),D6,K1,F9 (i:=i) (by omega) hp,F9 rfl h,
   wA _ _ (by have:SmW (l[i]'(by omega)):=hl.2 _ (H8 hp);unfold SmW at this;omega)]
  simp only[hp];rfl
def preG(t:B8)(known:A2->Bool)(i:Nat)(w:A2):Option Int :=
 if H1 w t.I≠0 then some (H1 w t.I) else if(i=0/\0<w.length)\/U3 t.P i w=false then some 10 else if 0<w.length/\known (w.take (w.length-1))=false then some 1 else none
def sufG(t:B8)(i:Nat)(w:A2):Option Int :=
 if H1 w t.I≠0 then some (H1 w t.I) else if w.length=0 then some 19 else if U3 t.X i w=false then some 10 else none
def M5(t:B8):Int :=
 if t.I<1\/64<t.I then 2 else if t.P.length=0 then 19 else if 10000<t.P.length\/10000<t.X.length\/160000<(t.P.length:Int)*(t.I+1)*↑t.X.length then 11 else
 match scan (preG t λw=>decide (w∈t.P)) 0 t.P with
 |some e=>e
 |none=>match scan (sufG t) 0 t.X with
  |some e=>e
  |none=>if ∀a∈List.range t.I.toNat,[(a:Int)]∈t.X then(if 1023<eU t.P+eU t.X then 3 else 0) else 1
def keys_mget(l:A3)(w:A2):∀(m:List (ByteArray×Bool)),((mget (⟨(keyL w).toArray⟩:ByteArray) (l.foldl (λm x=>mset ⟨(keyL x).toArray⟩ true m) m)).getD false)=(decide (w∈l)||(mget (⟨(keyL w).toArray⟩:ByteArray) m).getD false):=by
 induction l with
 |nil=>intro m;simp
 |cons x l ih =>
  intro m;rw[wV,ih];by_cases h:w=x
  ·subst h;rw[FS ba_beq];simp
  ·have:¬((⟨(keyL w).toArray⟩:ByteArray)=⟨(keyL x).toArray⟩):=λe=>h (keyL_inj (by
    injection e with e
    injection e))
   rw[EM ba_beq this];simp[h]
def IK(l:A3):∀n:Nat,l.foldl (λ(n:Int) w=>max n (w.length:Int)) (n:Int)=↑(l.foldl (λn w=>max n w.length) n):=by
 induction l with
 |nil=>intro n;rfl
 |cons x l ih =>
  intro n;rw[wV,wV,show max (n:Int) (x.length:Int)=((max n x.length:Nat):Int) by omega,ih]
def KQ(l:A3)(hl:SmL l):fF l=some (↑(eU l):Int):=by
 unfold fF
 have h:=iter_fold (step:=λ(s:Int×Nat)=>fF.s2 l s.1 s.2) (l:=l) (λa _ x=>max a (x.length:Int)) (λa=>a) (λ_ _=>True) (λa i x _ hx=>by
  refine⟨?_,trivial⟩
  simp only[fF.s2]
  rw[I8 hx,D2,C6 hx]) (λa _=>by
  simp only[fF.s2]
  rw[N7]
  rfl) (by have:=hl.1;omega) (a0:=0) trivial
 rw[h.1,xZ];have:=IK l 0;simp only[wW]at this;show some _=some _;rw[this];rfl
def JU(l:A3)(hl:SmL l):fE l=some (↑(eU l):Int):=by
 unfold fE
 have h:=iter_fold (step:=λ(s:Int×Nat)=>fE.s2 l s.1 s.2) (l:=l) (λa _ x=>max a (x.length:Int)) (λa=>a) (λ_ _=>True) (λa i x _ hx=>by
  refine⟨?_,trivial⟩
  simp only[fE.s2]
  rw[I8 hx,D2,C6 hx]) (λa _=>by
  simp only[fE.s2]
  rw[N7]
  rfl) (by have:=hl.1;omega) (a0:=0) trivial
 rw[h.1,xZ];have:=IK l 0;simp only[wW]at this;show some _=some _;rw[this];rfl
def zF{l:A3}(hl:SmL l):eU l<=2000000:=(EG l _).2 λx hx=>hl.2 x hx
def SmT(t:B8):Prop:=inR t.I/\SmL t.P/\SmL t.X/\∀x∈t.P,∀a∈x,inR a
def EZ{w:A2}(h:SmW w)(h2:∀a∈w,inR a):qX w=some ⟨(keyL w).toArray⟩:=by
 unfold qX;rw[F0 h2,F0 (show w.length<=2000000 from h)]
def prod_fit{p s:Nat}{n:Int}(hp:¬10000<p)(hs:¬10000<s)(hn1:¬n<1)(hn2:¬64<n):inR (n+1)/\inR ((p:Int)*(n+1))/\inR ((p:Int)*(n+1)*↑s):=by
 have h1:0<=(p:Int)*(n+1):=Int.mul_nonneg (by omega) (by omega);have h2:(p:Int)*(n+1)<=10000*65:=Int.mul_le_mul (by omega) (by omega) (by omega) (by omega);have h3:0<=(p:Int)*(n+1)*↑s:=Int.mul_nonneg h1 (by omega);have h4:(p:Int)*(n+1)*↑s<=10000*65*10000:=Int.mul_le_mul h2 (by omega) (by omega) (by omega);unfold inR;omega
def zzr(t:B8)(ht:SmT t):iV t=some (match scan (preG t λw=>decide (w∈t.P)) 0 t.P with|some e=>e|none=>0):=by
 obtain⟨_,hp,_,_⟩:=ht;have a9:t.P.length<=2000000:=hp.1;unfold iV
 have key:=Q2 (step:=λs=>iV.s2 t s) (l:=t.P) (preG t λw=>decide (w∈t.P)) (λi w hw=>by
  have a5:=H8 hw
  have a4:SmW w:=hp.2 w a5
  have b0:w.length<=2000000:=a4
  simp only[iV.s2]
  rw[I8 hw,D2,C6 hw,kJ w _ a4]
  simp only[N9,preG]
  by_cases h1:H1 w t.I=0
  ·rw[show decide (H1 w t.I≠0)=false from E2 (by simpa using h1),D6,if_neg (by simpa using h1)]
   have hc:(cond (decide ((i:Int)=0)) (cond (decide (0<(w.length:Int))) (some true) (cond (decide (0<(i:Int))) (idx t.P ((i:Int)-1) λa2=>(gJ a2 w).bind λa6=>some (decide (0<=a6))) (some false))) (cond (decide (0<(i:Int))) (idx t.P ((i:Int)-1) λa7=>(gJ a7 w).bind λa8=>some (decide (0<=a8))) (some false)):Option Bool)=some (decide ((i=0/\0<w.length)\/U3 t.P i w=false)):=by
    cases i with
    |zero =>
     by_cases h2:0<w.length
     ·simp[h2]
     ·simp[h2,U3]
    |succ i =>
     have hi:=(G4.1 hw).1
     have a3:=get_at (show i<t.P.length by omega)
     rw[show decide ((↑(i+1):Int)=0)=false from E2 (by omega),D6,show decide (0<(↑(i+1):Int))=true from D3 (by omega),D2,F9 (i:=i) (by omega) a3,
      AO _ _ (hp.2 _ (H8 a3))]
     simp only[U3,a3,N9]
     congr 1
     by_cases h2:cmpW (t.P[i]'(by omega)) w<0
     ·rw[D3 h2,E2 (by omega)]
      simp
     ·rw[E2 h2,D3 (by omega)]
      simp
   rw[hc]
   simp only[N9]
   by_cases h2:(i=0/\0<w.length)\/U3 t.P i w=false
   ·rw[C9 h2,if_pos h2]
   ·rw[B5 h2,if_neg h2]
    by_cases h3:0<w.length
    ·rw[show decide (0<(w.length:Int))=true from D3 (by omega),D2,F0 (by omega),CR _ _ hp,show Int.toNat ((w.length:Int)-1)=w.length-1 by omega]
     by_cases h4:w.take (w.length-1)∈t.P<;>simp[h3,h4]
    ·rw[show decide (0<(w.length:Int))=false from E2 (by omega),D6]
     simp[h3]
  ·rw[show decide (H1 w t.I≠0)=true from D3 h1,D2,if_pos h1]) (by
  simp only[iV.s2]
  rw[N7]
  rfl) (by omega)
 rw[key];cases scan (preG t λw=>decide (w∈t.P)) 0 t.P<;>rfl
def zq37(t:B8)(ht:SmT t)(hn:1<=t.I/\t.I<=64):aY t=some (match scan (sufG t) 0 t.X with|some e=>e|none=>if ∀a∈List.range t.I.toNat,[(a:Int)]∈t.X then 0 else 1):=by
 obtain⟨_,_,hp,_⟩:=ht;have a6:t.X.length<=2000000:=hp.1;unfold aY
 have key:=Q2 (step:=λs=>aY.s2 t s) (l:=t.X) (sufG t) (λi w hw=>by
  have a4:=H8 hw
  have a5:SmW w:=hp.2 w a4
  simp only[aY.s2]
  rw[I8 hw,D2,C6 hw,kJ w _ a5]
  simp only[N9,sufG]
  by_cases h1:H1 w t.I=0
  ·rw[show decide (H1 w t.I≠0)=false from E2 (by simpa using h1),D6,if_neg (by simpa using h1)]
   by_cases h2:w.length=0
   ·rw[show decide ((w.length:Int)=0)=true from D3 (by omega),D2,if_pos h2]
   ·rw[show decide ((w.length:Int)=0)=false from E2 (by omega),D6,if_neg h2]
    cases i with
    |zero=>simp[U3]
    |succ i =>
     have hi:=(G4.1 hw).1
     have a2:=get_at (show i<t.X.length by omega)
     rw[show decide (0<(↑(i+1):Int))=true from D3 (by omega),D2,F9 (i:=i) (by omega) a2,AO _ _ (hp.2 _ (H8 a2))]
     simp only[U3,a2,N9]
     by_cases h3:cmpW (t.X[i]'(by omega)) w<0
     ·rw[E2 (show ¬0<=cmpW (t.X[i]'(by omega)) w by omega),D3 h3]
      rfl
     ·rw[D3 (show 0<=cmpW (t.X[i]'(by omega)) w by omega),E2 h3]
      rfl
  ·rw[show decide (H1 w t.I≠0)=true from D3 h1,D2,if_pos h1]) (by
  simp only[aY.s2]
  rw[N7]
  rfl) (by omega)
 rw[key];cases scan (sufG t) 0 t.X with
 |some e=>rfl
 |none =>
  show(iter (λ(s:Nat)=>aY.s4 t s) fuel 0:Option (Unit⊕Int)).bind (Sum.elim (λ(_:Unit)=>some 0) some)=_
  have a3:=Q2 (step:=λs=>aY.s4 t s) (l:=List.range t.I.toNat) (λ_ (a:Nat)=>if decide ([(a:Int)]∈t.X)=true then none else some (1:Int)) (λi a ha=>by
   have hi:i<t.I.toNat:=by
    have:=(G4.1 ha).1
    simpa using this
   rw[bT hi]at ha
   injection ha with ha
   subst ha
   simp only[aY.s4]
   rw[show decide ((i:Int)<t.I)=true from D3 (by omega),D2,CR _ _ hp,K1]
   by_cases h:[(i:Int)]∈t.X<;>simp[h]) (by
   simp only[aY.s4]
   rw[aE,show decide ((t.I.toNat:Int)<t.I)=false from E2 (by omega)]
   rfl) (by simp;omega)
  rw[a3,oJ (p:=λ(a:Nat)=>decide ([(a:Int)]∈t.X))];by_cases h:∀a∈List.range t.I.toNat,[(a:Int)]∈t.X
  ·rw[if_pos h,if_pos (O0.2 λa ha=>D3 (h a ha))];rfl
  ·rw[if_neg h,if_neg (λh2=>h λa ha=>of_decide_eq_true (O0.1 h2 a ha))];rfl
def rX(t:B8)(ht:SmT t):jZ t=some (M5 t):=by
 unfold jZ M5;by_cases h1:t.I<1
 ·simp[h1]
 by_cases h2:64<t.I
 ·simp[h1,h2]
 rw[if_neg (by omega),B5 h1,E2 h2];simp only[N9,D6];by_cases h3:t.P.length=0
 ·rw[show decide ((t.P.length:Int)=0)=true from D3 (by omega),D2,if_pos h3]
 rw[show decide ((t.P.length:Int)=0)=false from E2 (by omega),D6,if_neg h3];by_cases h4:10000<t.P.length
 ·rw[show decide (10000<(t.P.length:Int))=true from D3 (by omega),if_pos (Or.inl h4)];rfl
 rw[show decide (10000<(t.P.length:Int))=false from E2 (by omega),D6];by_cases h5:10000<t.X.length
 ·rw[show decide (10000<(t.X.length:Int))=true from D3 (by omega),if_pos (Or.inr (Or.inl h5))];rfl
 rw[show decide (10000<(t.X.length:Int))=false from E2 (by omega)];obtain⟨f1,f2,f3⟩:=prod_fit h4 h5 h1 h2;simp only[N9,D6];rw[F0 f1,F0 f2,F0 f3];by_cases h6:160000<(t.P.length:Int)*(t.I+1)*↑t.X.length
 ·rw[C9 h6,if_pos (Or.inr (Or.inr h6))]
 rw[B5 h6,if_neg (λh=>by rcases h with h|h|h<;>contradiction),zzr t ht,zq37 t ht (by omega)]
 have a3:∀{w:A2},H1 w t.I≠0->H1 w t.I≠0:=λh=>h;cases e1:scan (preG t λw=>decide (w∈t.P)) 0 t.P with
 |some e =>
  have a2:e≠0:=by
   have key:∀(l:A3) (j:Nat),scan (preG t λw=>decide (w∈t.P)) j l=some e->e≠0:=by
    intro l
    induction l with
    |nil=>intro j h;cases h
    |cons x l ih =>
     intro j h;unfold scan at h;split at h
     ·rename_i r' h3;injection h with h
      subst h;unfold preG at h3
      repeat' split at h3
      all_goals first|(injection h3 with h3;subst h3;first|assumption|decide)|cases h3
     ·exact ih _ h
   exact key _ 0 e1
  simp[a2]
 |none =>
  simp only[N9];rw[show decide ((0:Int)≠0)=false from rfl,D6];cases e2:scan (sufG t) 0 t.X with
  |some e =>
   have a2:e≠0:=by
    have key:∀(l:A3) (j:Nat),scan (sufG t) j l=some e->e≠0:=by
     intro l
     induction l with
     |nil=>intro j h;cases h
     |cons x l ih =>
      intro j h;unfold scan at h;split at h
      ·rename_i r' h3;injection h with h
       subst h;unfold sufG at h3
       repeat' split at h3
       all_goals first|(injection h3 with h3;subst h3;first|assumption|decide)|cases h3
      ·exact ih _ h
    exact key _ 0 e2
   simp[a2]
  |none =>
   have l1:=zF ht.2.1;have l2:=zF ht.2.2.1;by_cases h7:∀a∈List.range t.I.toNat,[(a:Int)]∈t.X
   ·rw[if_pos h7,if_pos h7];simp only[N9];rw[show decide ((0:Int)≠0)=false from rfl,D6,JU _ ht.2.1,JU _ ht.2.2.1];simp only[N9];rw[K1];by_cases h8:1023<eU t.P+eU t.X
    ·rw[if_pos h8,D3 (by omega)];rfl
    ·rw[if_neg h8,E2 (by omega)];rfl
   ·rw[if_neg h7,if_neg h7];rfl
end

def zB{x y:Int}:cmpW [x] [y]=-1↔x<y:=by
 simp only[cmpW,lexI,H7,V5];by_cases h:x<y
 ·simp[h]
 ·by_cases h2:y<x<;>simp[h,h2]
def cmp_len{x y:A2}(h:cmpW x y=-1):x.length<=y.length:=by
 unfold cmpW at h;split at h
 ·omega
 ·split at h
  ·cases h
  ·omega
def aB{w:A2}{n:Int}(h:H1 w n=0):∀a∈w,0<=a/\a<n:=by
 unfold H1 at h;split at h
 ·split at h
  ·cases h
  ·split at h
   ·rename_i h3;intro a ha;exact of_decide_eq_true (O0.1 h3 a ha)
   ·cases h
 ·cases h
def one_of{w:A2}(h0:w.length≠0)(h1:w.length<=1):∃a,w=[a]:=by
 match w,h0,h1 with
 |[a],_,_=>exact⟨a,rfl⟩
def singles_iff{l:A3}{n:Int}(hA:Asc l)(hc:∀w∈l,H1 w n=0/\w.length≠0)(hn:1<=n):(∀a∈List.range n.toNat,[(a:Int)]∈l)↔∃w,l[n.toNat-1]?=some w/\w.length<=1:=by
 constructor
 ·intro h
  have key:∀a,a<n.toNat->l[a]?=some [(a:Int)]:=by
   intro a
   induction a using Nat.strongRecOn with
   |_ a ih =>
    intro ha;obtain⟨j,hj,e⟩:=Q4.1 (h a (M8.2 ha));have ej:l[j]?=some [(a:Int)]:=by rw[get_at hj,e]
    rcases eE j a with a6|a5|a8
    ·have:=ih j a6 (by omega);rw[ej]at this;injection this with this
     injection this with this
     omega
    ·rw[<- a5,ej];rw[a5]
    ·have hx:=get_at (l:=l) (i:=a) (by omega);have a3:=hA.get a8 hx ej;have a2:=H8 hx;obtain⟨b,hb⟩:=one_of (hc _ a2).2 (cmp_len a3);rw[hb]at a3 hx;have a6:=zB.1 a3;have hr:=aB (hc _ a2).1 b (by rw[hb];simp);have a4:=ih b.toNat (by omega) (by omega);rw[show((b.toNat:Nat):Int)=b by omega]at a4;have:=hA.get (show b.toNat<a by omega) a4 hx;rw[cA]at this;cases this
  exact⟨_,key (n.toNat-1) (by omega),by simp⟩
 ·rintro⟨w,hw,a7⟩
  have one:∀i,i<n.toNat->∃b:Int,l[i]?=some [b]/\0<=b/\b<n:=λi hi=>by
   have b2:=(G4.1 hw).1;have hx:=get_at (l:=l) (i:=i) (by omega)
   have b0:(l[i]'(by omega)).length<=1:=by
    rcases L8 i (n.toNat-1) with h|h
    ·have:=cmp_len (hA.get h hx hw);omega
    ·have e:i=n.toNat-1:=by omega
     subst e;rw[hx]at hw;injection hw with hw
     rw[hw];exact a7
   have a2:=H8 hx;obtain⟨b,hb⟩:=one_of (hc _ a2).2 b0;rw[hb]at hx;exact⟨b,hx,aB (hc _ a2).1 b (by rw[hb];simp)⟩
  have lo:∀i (b:Int),i<n.toNat->l[i]?=some [b]->(i:Int)<=b:=by
   intro i
   induction i with
   |zero =>
    intro b hi hb;obtain⟨b',e,h1,_⟩:=one 0 hi;rw[hb]at e;injection e with e
    injection e with e
    omega
   |succ i ih =>
    intro b hi hb;obtain⟨b',e,h1,_⟩:=one i (by omega);have:=ih b' (by omega) e;have:=zB.1 (hA.get (wX i) e hb);omega
  have a9:∀d i (b:Int),i+d+1=n.toNat->l[i]?=some [b]->b+↑d<n:=by
   intro d
   induction d with
   |zero =>
    intro i b hi hb;obtain⟨b',e,_,h2⟩:=one i (by omega);rw[hb]at e;injection e with e
    injection e with e
    omega
   |succ d ih =>
    intro i b hi hb;obtain⟨b',e,_,_⟩:=one (i+1) (by omega);have:=ih (i+1) b' (by omega) e;have:=zB.1 (hA.get (wX i) hb e);omega
  intro a ha;have ha:=M8.1 ha;obtain⟨b,e,_,_⟩:=one a ha;have h1:=lo a b ha e;have h2:=a9 (n.toNat-1-a) a b (by omega) e;have:b=(a:Int):=by omega
  subst this;exact H8 e
def sufG_none{t:B8}(h:scan (sufG t) 0 t.X=none):Asc t.X/\∀w∈t.X,H1 w t.I=0/\w.length≠0:=by
 have h0:=aK.1 h
 have key:∀i w,t.X[i]?=some w->H1 w t.I=0/\w.length≠0/\U3 t.X i w=true:=λi w hw=>by
  have:=h0 i w hw;rw[J9]at this;unfold sufG at this;split at this
  ·cases this
  ·rename_i h1;split at this
   ·cases this
   ·rename_i h2;split at this
    ·cases this
    ·rename_i h3;refine⟨by simpa using h1,h2,?_⟩;cases hp:U3 t.X i w with
     |true=>rfl
     |false=>exact absurd hp h3
 refine⟨zq15 λi w hw=>(key i w hw).2.2,λw hw=>?_⟩;obtain⟨i,hi,rfl⟩:=Q4.1 hw;exact⟨(key i _ (get_at hi)).1,(key i _ (get_at hi)).2.1⟩
def KB(t:B8)(ht:SmT t):U1 t=some (M5 t):=by
 unfold U1 M5;by_cases h1:t.I<1
 ·simp[h1]
 by_cases h2:64<t.I
 ·simp[h1,h2]
 rw[if_neg (by omega),B5 h1,E2 h2];simp only[N9,D6];by_cases h3:t.P.length=0
 ·rw[show decide ((t.P.length:Int)=0)=true from D3 (by omega),D2,if_pos h3]
 rw[show decide ((t.P.length:Int)=0)=false from E2 (by omega),D6,if_neg h3];by_cases h4:10000<t.P.length
 ·rw[show decide (10000<(t.P.length:Int))=true from D3 (by omega),if_pos (Or.inl h4)];rfl
 rw[show decide (10000<(t.P.length:Int))=false from E2 (by omega),D6];by_cases h5:10000<t.X.length
 ·rw[show decide (10000<(t.X.length:Int))=true from D3 (by omega),if_pos (Or.inr (Or.inl h5))];rfl
 rw[show decide (10000<(t.X.length:Int))=false from E2 (by omega),D6];obtain⟨f1,f2,f3⟩:=prod_fit h4 h5 h1 h2;rw[F0 f1,F0 f2,F0 f3];simp only[N9];by_cases h6:160000<(t.P.length:Int)*(t.I+1)*↑t.X.length
 ·rw[C9 h6,if_pos (Or.inr (Or.inr h6))]
 rw[B5 h6,if_neg (λh=>by rcases h with h|h|h<;>contradiction)]
 obtain⟨_,hp,hs,hr⟩:=ht
 have hk:=iter_fold (step:=λ(s:(List (ByteArray×Bool))×Nat)=>U1.s2 t s.1 s.2) (l:=t.P) (λm _ x=>mset ⟨(keyL x).toArray⟩ true m) (λm=>m) (λ_ _=>True) (λm i x _ hx=>by
  have a7:=H8 hx
  refine⟨?_,trivial⟩
  simp only[U1.s2]
  rw[I8 hx,D2,C6 hx,EZ (hp.2 x a7) (hr x a7)]
  rfl) (λm _=>by
  simp only[U1.s2]
  rw[N7]
  rfl) (by omega) (a0:=[]) trivial
 rw[hk.1,xZ];simp only[N9]
 have key:=Q2 (step:=λs=>U1.s4 t (t.P.foldl (λm x=>mset ⟨(keyL x).toArray⟩ true m) []) s) (l:=t.P) (preG t λw=>decide (w∈t.P)) (λi w hw=>by
  have a3:=H8 hw
  have a4:SmW w:=hp.2 w a3
  have b2:w.length<=2000000:=a4
  simp only[U1.s4]
  rw[I8 hw,D2,C6 hw,nH w _ a4,KU _ hp hw]
  simp only[N9,preG]
  by_cases g1:H1 w t.I=0
  ·rw[show decide (H1 w t.I≠0)=false from E2 (by simpa using g1),D6,if_neg (by simpa using g1)]
   have hc:(cond (decide ((i:Int)=0)) (cond (decide (0<(w.length:Int))) (some true) (some (!U3 t.P i w))) (some (!U3 t.P i w)):Option Bool)=some (decide ((i=0/\0<w.length)\/U3 t.P i w=false)):=by
    by_cases g2:i=0
    ·rw[show decide ((i:Int)=0)=true from D3 (by omega),D2]
     by_cases g3:0<w.length
     ·rw[show decide (0<(w.length:Int))=true from D3 (by omega),D2,D3 (Or.inl ⟨g2,g3⟩)]
     ·rw[show decide (0<(w.length:Int))=false from E2 (by omega),D6]
      cases U3 t.P i w<;>simp[g3]
    ·rw[show decide ((i:Int)=0)=false from E2 (by omega),D6]
     cases U3 t.P i w<;>simp[g2]
   rw[hc]
   simp only[N9]
   by_cases g2:(i=0/\0<w.length)\/U3 t.P i w=false
   ·rw[C9 g2,if_pos g2]
   ·rw[B5 g2,if_neg g2]
    by_cases g3:0<w.length
    ·have a9:SmW (w.take (w.length-1)):=by
      show(w.take (w.length-1)).length<=2000000
      rw[H6]
      omega
     rw[show decide (0<(w.length:Int))=true from D3 (by omega),D2,F0 (by omega),show Int.toNat ((w.length:Int)-1)=w.length-1 by omega,EZ a9 (λa ha=>hr w a3 a (Q1 ha))]
     simp only[N9]
     rw[keys_mget]
     by_cases g4:w.take (w.length-1)∈t.P<;>simp[g3,g4,mget]
    ·rw[show decide (0<(w.length:Int))=false from E2 (by omega),D6]
     simp[g3]
  ·rw[show decide (H1 w t.I≠0)=true from D3 g1,D2,if_pos g1]) (by
  simp only[U1.s4]
  rw[N7]
  rfl) (by omega)
 rw[key];cases e1:scan (preG t λw=>decide (w∈t.P)) 0 t.P with
 |some e=>rfl
 |none =>
  show(iter (λ(s:Nat)=>U1.s6 t s) fuel 0:Option (Unit⊕Int)).bind _=_
  have a8:=Q2 (step:=λs=>U1.s6 t s) (l:=t.X) (sufG t) (λi w hw=>by
   have a3:=H8 hw
   have a4:SmW w:=hs.2 w a3
   simp only[U1.s6]
   rw[I8 hw,D2,C6 hw,nH w _ a4,KU _ hs hw]
   simp only[N9,sufG]
   by_cases g1:H1 w t.I=0
   ·rw[show decide (H1 w t.I≠0)=false from E2 (by simpa using g1),D6,if_neg (by simpa using g1)]
    by_cases g2:w.length=0
    ·rw[show decide ((w.length:Int)=0)=true from D3 (by omega),D2,if_pos g2]
    ·rw[show decide ((w.length:Int)=0)=false from E2 (by omega),D6,if_neg g2]
     cases U3 t.X i w<;>rfl
   ·rw[show decide (H1 w t.I≠0)=true from D3 g1,D2,if_pos g1]) (by
   simp only[U1.s6]
   rw[N7]
   rfl) (by omega)
  rw[a8];cases e2:scan (sufG t) 0 t.X with
  |some e=>rfl
  |none =>
   obtain⟨hA,b0⟩:=sufG_none e2;have a2:=singles_iff hA b0 (show 1<=t.I by omega);have l1:=zF hp;have l2:=zF hs;simp only[N9,aO];rw[KQ _ hp,KQ _ hs];simp only[N9];rw[F0 (show inR ((↑(eU t.P):Int)+↑(eU t.X)) by unfold inR;omega)];by_cases g1:(t.X.length:Int)<t.I
   ·have a5:¬ ∀a∈List.range t.I.toNat,[(a:Int)]∈t.X:=λh=>by
     obtain⟨w,hw,_⟩:=a2.1 h;have:=(G4.1 hw).1;omega
    rw[C9 g1,if_neg a5];rfl
   ·have hx:=get_at (l:=t.X) (i:=t.I.toNat-1) (by omega);rw[B5 g1,K1,F9 (i:=t.I.toNat-1) (by omega) hx];by_cases g2:1<(t.X[t.I.toNat-1]'(by omega)).length
    ·have a5:¬ ∀a∈List.range t.I.toNat,[(a:Int)]∈t.X:=λh=>by
      obtain⟨w,hw,b3⟩:=a2.1 h;rw[hx]at hw;injection hw with hw
      rw[hw]at g2;omega
     rw[if_neg a5,D3 (by omega)];rfl
    ·have a6:∀a∈List.range t.I.toNat,[(a:Int)]∈t.X:=a2.2 ⟨_,hx,by omega⟩;rw[if_pos a6,E2 (by omega)];simp only[N9,D6];by_cases h8:1023<eU t.P+eU t.X
     ·rw[if_pos h8,D3 (by omega)];rfl
     ·rw[if_neg h8,E2 (by omega)];rfl
def T1(n:Nat):A3:=(List.range n).map λ(a:Nat)=>[(a:Int)]
def newT(n:Int):B8×Int:=if n<1\/64<n then(⟨0,[],[]⟩,2) else(⟨n,[[]],T1 n.toNat⟩,0)
def IH(n:Nat):T1 (n+1)=T1 n++[[(n:Int)]]:=by simp[T1,jE]
def vX(n:Nat):(T1 n).length=n:=by simp[T1]
def R23_Singles_eq(n:Int)(h:1<=n/\n<=64):kE n=some (T1 n.toNat):=by
 unfold kE
 rw[O4 (r:=T1 n.toNat) (λs=>s.2<=n.toNat/\s.1=T1 s.2) (λs=>n.toNat-s.2) (λs ⟨h1,h2⟩=>by
  simp only[kE.s2]
  by_cases h3:s.2<n.toNat
  ·left
   refine⟨(T1 (s.2+1),s.2+1),?_,⟨by omega,rfl⟩,by simp only;omega⟩
   rw[C9,h2,IH,F0 (by rw[vX];unfold E5;omega),K1]
  ·right
   rw[B5,h2,show s.2=n.toNat by omega]) (s:=([],0)) ⟨F8 _,rfl⟩]
 rfl
def R23_New_eq(n:Int):R23_New n=some (newT n):=by
 unfold R23_New newT;by_cases h1:n<1
 ·simp[h1]
 ·by_cases h2:64<n
  ·simp[h1,h2]
  ·rw[R23_Singles_eq n (by omega)];simp[h1,h2]
def table_New_eq(n:Int):jX n=some (newT n):=by
 unfold jX newT;by_cases h1:n<1
 ·simp[h1]
 ·by_cases h2:64<n
  ·simp[h1,h2]
  ·rw[O4 (r:=T1 n.toNat) (λs=>s.2<=n.toNat/\s.1=T1 s.2) (λs=>n.toNat-s.2) (λs ⟨h1,h2⟩=>by
    simp only[jX.s2]
    by_cases h3:s.2<n.toNat
    ·left
     refine⟨(T1 (s.2+1),s.2+1),?_,⟨by omega,rfl⟩,by simp only;omega⟩
     rw[C9,h2,IH,F0 (by rw[vX];unfold E5;omega),K1]
    ·right
     rw[B5,h2,show s.2=n.toNat by omega]) (s:=([],0)) ⟨F8 _,rfl⟩]
   simp[h1,h2]
end Go.Proofs.YtjmcbfbjajlbhaaGreatDoor.Sym
namespace Go.Proofs.YtjmcbfbjajlbhaaGreatDoor
structure qS(cf:List Int->List Int->Int):Prop where
 range:∀a b,cf a b=-1\/cf a b=0\/cf a b=1
 zero:∀a b,cf a b=0↔a=b
 swap:∀a b,cf b a=- cf a b
 trans:∀a b c,cf a b=-1->cf b c=-1->cf a c=-1
def cmpW_total:qS cmpW:=⟨lO,rB,qZ,kD⟩
def lexI_total:qS lexI:=⟨lP,oM,mZ,rO⟩
def N1(l:List (List Int)):List (List Int):=l.foldl (λacc x=>if acc.getLast?=some x then acc else acc++[x]) []
def zq29(l:List (List Int))(x:List Int):N1 (l++[x])=if(N1 l).getLast?=some x then N1 l else N1 l++[x]:=by
 unfold N1;rw[List.foldl_append];rfl
def zq23:∀(l acc:List (List Int)),(l.foldl (λacc x=>if acc.getLast?=some x then acc else acc++[x]) acc).getLast?=if l=[] then acc.getLast? else l.getLast?
 |[],acc=>by rw[if_pos rfl];rfl
 |x::l,acc=>by
  have hx:(if acc.getLast?=some x then acc else acc++[x]).getLast?=some x:=by
   split
   ·assumption
   ·simp
  rw[List.foldl_cons,zq23 l,if_neg (show ¬x::l=[] by simp)];cases l with
  |nil=>rw[if_pos rfl,hx];rfl
  |cons y l =>
   rw[if_neg (show ¬y::l=[] by simp),List.getLast?_cons_cons]
def dedupA_last(l:List (List Int)):(N1 l).getLast?=l.getLast?:=by
 unfold N1;rw[zq23];split
 ·rename_i h;rw[h]
 ·rfl
def HS{l:List (List Int)}{k:Nat}{x y:List Int}(hy:l[k]?=some y)(hx:l[k+1]?=some x) :
  N1 (l.take (k+1+1))=if x=y then N1 (l.take (k+1)) else N1 (l.take (k+1))++[x]:=by
 rw[L9 hx,zq29,dedupA_last,L9 hy];simp only[List.getLast?_append,List.getLast?_singleton,Option.some_or];by_cases h:y=x
 ·subst h;simp
 ·have h':¬x=y:=λe=>h e.symm;simp[h,h']
def IN{l:List (List Int)}(h:l.length<=1):N1 l=l:=by
 match l,h with
 |[],_=>rfl
 |[x],_=>rfl
def dedup_asc{cf:List Int->List Int->Int}(T:qS cf):∀{l:List (List Int)},l.Pairwise (λa b=>0<=cf b a)->(N1 l).Pairwise (λa b=>cf a b=-1)/\∀x,x∈N1 l↔x∈l:=by
 intro l
 -- from the end of the list
 suffices H:∀n (l:List (List Int)),l.length=n->l.Pairwise (λa b=>0<=cf b a)->(N1 l).Pairwise (λa b=>cf a b=-1)/\∀x,x∈N1 l↔x∈l from H _ l rfl
 intro n
 induction n with
 |zero =>
  intro l hl _;have:l=[]:=List.eq_nil_of_length_eq_zero hl;subst this;exact⟨List.Pairwise.nil,λx=>Iff.rfl⟩
 |succ n ih =>
  intro l hl hp
  obtain⟨m,x,rfl⟩:∃m x,l=m++[x]:=by
   have a2:l≠[]:=by intro e;rw[e]at hl;simp at hl
   exact⟨l.dropLast,l.getLast a2,(List.dropLast_concat_getLast a2).symm⟩
  have b0:m.length=n:=by simpa using hl
  rw[List.pairwise_append]at hp;obtain⟨a7,_,a5⟩:=hp;obtain⟨h1,h2⟩:=ih m b0 a7;rw[zq29];by_cases h:(N1 m).getLast?=some x
  ·rw[if_pos h];refine⟨h1,λy=>?_⟩;have hx:x∈m:=(h2 x).1 (List.mem_of_getLast? h);rw[h2,List.mem_append,List.mem_singleton];constructor
   ·exact Or.inl
   ·rintro (h'|rfl)
    ·exact h'
    ·exact hx
  ·rw[if_neg h];refine⟨?_,λy=>by rw[List.mem_append,List.mem_append,h2]⟩;rw[List.pairwise_append];refine⟨h1,by simp,λa ha b hb=>?_⟩;rw[List.mem_singleton]at hb;subst hb;have a8:a∈m:=(h2 a).1 ha;have b3:0<=cf b a:=a5 a a8 b (by simp);have hr:=T.range b a;have b2:=T.swap b a;by_cases e:cf b a=0
   ·-- a would be the last one
    exfalso;have a6:b=a:=(T.zero _ _).1 e;subst a6
    -- the last of m is the greatest, and b is in m and not less than it
    have a2:N1 m≠[]:=λe=>by rw[e]at ha;cases ha
    have a9:=List.getLast?_eq_some_getLast a2;have a4:(N1 m).getLast a2∈m:=(h2 _).1 (List.getLast_mem a2);have h3:0<=cf b ((N1 m).getLast a2):=a5 _ a4 b (by simp);have a3:N1 m=(N1 m).dropLast++[(N1 m).getLast a2]:=(List.dropLast_concat_getLast a2).symm
    have h4:b=(N1 m).getLast a2\/cf b ((N1 m).getLast a2)=-1:=by
     rw[a3]at ha h1;rw[List.pairwise_append]at h1;rcases List.mem_append.1 ha with h5|h5
     ·exact Or.inr (h1.2.2 b h5 _ (by simp))
     ·exact Or.inl (List.mem_singleton.1 h5)
    rcases h4 with h4|h4
    ·exact h (by rw[a9,<- h4])
    ·omega
   ·omega
def dedupA_length(l:List (List Int)):(N1 l).length<=l.length:=by
 suffices H:∀(l acc:List (List Int)),(l.foldl (λacc x=>if acc.getLast?=some x then acc else acc++[x]) acc).length<=acc.length+l.length by
  simpa[N1]using H l []
 intro l
 induction l with
 |nil=>intro acc;simp
 |cons x l ih =>
  intro acc;rw[List.foldl_cons];refine Nat.le_trans (ih _) ?_;split
  ·simp
  ·simp;omega
def prefixes(x:List Int):List (List Int):=(List.range (x.length+1)).map x.take
def suffixes(x:List Int):List (List Int):=(List.range (x.length+1)).map x.drop
def preL(l:List (List Int)):List (List Int):=l.flatMap prefixes
def prefixes_take(x:List Int){j:Nat}(hj:j<=x.length):(prefixes x).take (j+1)=(prefixes x).take j++[x.take j]:=by
 have:(prefixes x)[j]?=some (x.take j):=by simp[prefixes,List.getElem?_range (show j<x.length+1 by omega)]
 exact L9 this
def vZ(x:List Int):(prefixes x).length=x.length+1:=by simp[prefixes]
def preL_step{l:List (List Int)}{k:Nat}{x:List Int}(h:l[k]?=some x):preL (l.take (k+1))=preL (l.take k)++prefixes x:=by rw[L9 h];simp[preL]
def topB(all:List (List Int))(x:List Int):Bool:=all.all λy=>decide (y=x\/¬x <+: y)
def maxR(l:List (List Int)):List (List Int):=(sortW l).filter (topB (sortW l))
def tailB(x:List Int)(l:List (List Int)):Bool:=l.all λy=>decide (y.length=x.length\/¬x <+: y)
def top_eq{all:List (List Int)}(hs:Asc all){k:Nat}{x:List Int}(hx:all[k]?=some x):tailB x (all.drop (k+1))=topB all x:=by
 rw[Bool.eq_iff_iff,tailB,topB,List.all_eq_true,List.all_eq_true];simp only[decide_eq_true_eq];constructor
 ·intro h y hy;obtain⟨i,hi⟩:=List.getElem?_of_mem hy;rcases Nat.lt_trichotomy i k with a2|a2|a2
  ·right;intro hp;have hc:=hs.get a2 hi hx;have hl:=hp.length_le
   have:x=y:=hp.eq_of_length_le (by
    unfold cmpW at hc
    split at hc
    ·omega
    ·split at hc
     ·omega
     ·omega)
   rw[this,cA]at hc;omega
  ·left;rw[a2,hx]at hi;injection hi with hi
   exact hi.symm
  ·have a3:y∈all.drop (k+1):=by
    have:(all.drop (k+1))[i-(k+1)]?=some y:=by rw[List.getElem?_drop,show k+1+(i-(k+1))=i by omega];exact hi
    exact List.mem_of_getElem? this
   rcases h y a3 with h1|h1
   ·by_cases hp:x <+: y
    ·left;exact(hp.eq_of_length h1.symm).symm
    ·exact Or.inr hp
   ·exact Or.inr h1
 ·intro h y hy;obtain⟨i,hi⟩:=List.getElem?_of_mem hy;rw[List.getElem?_drop]at hi;rcases h y (List.mem_of_getElem? hi) with h1|h1
  ·have hc:=hs.get (show k<k+1+i by omega) hx hi;rw[h1,cA]at hc;omega
  ·exact Or.inr h1
def tailB_step{x y:List Int}{all:List (List Int)}{k j:Nat}(hk:k+1<=j)(hy:all[j]?=some y) :
  tailB x ((all.take (j+1)).drop (k+1))=(tailB x ((all.take j).drop (k+1))&&decide (y.length=x.length\/¬x <+: y)):=by
 have hj:j<all.length:=(List.getElem?_eq_some_iff.1 hy).1;rw[L9 hy,List.drop_append_of_le_length (by rw[List.length_take];omega)];simp[tailB,List.all_append]
def filter_step{p:List Int->Bool}{all:List (List Int)}{k:Nat}{x:List Int}(h:all[k]?=some x):(all.take (k+1)).filter p=(all.take k).filter p++(if p x=true then [x] else []):=by
 rw[L9 h,List.filter_append];by_cases hp:p x=true<;>simp[hp]
def yF{l:List (List Int)}{x:List Int}(h:x∈maxR l):x∈l:=by
 unfold maxR at h;exact(aC l x).1 (List.mem_filter.1 h).1
def zq16(l:List (List Int)):(maxR l).length<=l.length:=Nat.le_trans (List.length_filter_le _ _) (pI l)
def aH:List (List Int)->List (List Int)
 |[]=>[]
 |[x]=>[x]
 |x::y::l=>if x <+: y then aH (y::l) else x::aH (y::l)
def keepM_end{L:List (List Int)}{k:Nat}{x:List Int}(hx:L[k]?=some x)(hl:k+1=L.length):aH (L.drop k)=x::aH (L.drop (k+1)):=by
 obtain⟨h1,h2⟩:=List.getElem?_eq_some_iff.1 hx;rw[List.drop_eq_getElem_cons h1,h2,List.drop_eq_nil_of_le (by omega)];rfl
def keepM_step{L:List (List Int)}{k:Nat}{x y:List Int}(hx:L[k]?=some x)(hy:L[k+1]?=some y):aH (L.drop k)=if x <+: y then aH (L.drop (k+1)) else x::aH (L.drop (k+1)):=by
 obtain⟨h1,h2⟩:=List.getElem?_eq_some_iff.1 hx;obtain⟨h3,h4⟩:=List.getElem?_eq_some_iff.1 hy;rw[List.drop_eq_getElem_cons h1,h2,List.drop_eq_getElem_cons h3,h4];rfl
def keepM_sub:∀L:List (List Int),(aH L).Sublist L
 |[]=>List.Sublist.refl _
 |[x]=>List.Sublist.refl _
 |x::y::l=>by
  rw[aH];split
  ·exact(keepM_sub (y::l)).cons x
  ·exact(keepM_sub (y::l)).cons_cons x
def EH:∀(x z y:List Int),lexI x z=-1->(z=y\/lexI z y=-1)->x <+: y->x <+: z
 |[],z,_,_,_,_=>List.nil_prefix
 |a::x,[],_,h,_,_=>by simp[lexI]at h
 |a::x,b::z,[],_,_,h=>by simp at h
 |a::x,b::z,c::y,h1,h2,h3=>by
  rw[List.cons_prefix_cons]at h3;obtain⟨rfl,h3⟩:=h3;simp only[lexI]at h1
  have hle:b<=a:=by
   rcases h2 with h2|h2
   ·injection h2 with e1 e2;omega
   ·simp only[lexI]at h2;split at h2
    ·omega
    ·split at h2
     ·omega
     ·omega
  have a2:a=b:=by
   split at h1
   ·omega
   ·split at h1
    ·omega
    ·omega
  subst a2;rw[if_neg (by omega),if_neg (by omega)]at h1;rw[List.cons_prefix_cons];refine⟨rfl,EH x z y h1 ?_ h3⟩;rcases h2 with h2|h2
  ·injection h2 with e1 e2;exact Or.inl e2
  ·simp only[lexI]at h2;rw[if_neg (by omega),if_neg (by omega)]at h2;exact Or.inr h2
def DF:∀(x y:List Int),x <+: y->x≠y->lexI x y=-1
 |[],[],_,h=>absurd rfl h
 |[],_::_,_,_=>rfl
 |a::x,[],h,_=>by simp at h
 |a::x,b::y,h,hne=>by
  rw[List.cons_prefix_cons]at h;obtain⟨rfl,h⟩:=h;simp only[lexI];rw[if_neg (by omega),if_neg (by omega)];exact DF x y h (λe=>hne (by rw[e]))
def mem_keepM:∀{L:List (List Int)},L.Pairwise (λa b=>lexI a b=-1)->∀x,x∈aH L↔x∈L/\∀y∈L,y=x\/¬x <+: y
 |[],_,x=>by simp[aH]
 |[z],_,x=>by
  simp only[aH,List.mem_singleton];constructor
  ·rintro rfl;exact⟨rfl,λy hy=>Or.inl hy⟩
  ·exact λh=>h.1
 |z::y::l,h,x=>by
  obtain⟨h1,h2⟩:=List.pairwise_cons.1 h;have ih:=mem_keepM (L:=y::l) h2
  have hzl:∀t∈y::l,z≠t:=λt ht e=>by
   have:=h1 t ht;rw[e,lexI_refl]at this;omega
  have hlow:∀t∈y::l,¬t <+: z:=λt ht hp=>by
   have h3:=h1 t ht;have h4:=DF t z hp (λe=>hzl t ht e.symm);rw[mZ]at h4;omega
  have hyl:∀t∈y::l,y=t\/lexI y t=-1:=λt ht=>by
   rcases List.mem_cons.1 ht with e|e
   ·exact Or.inl e.symm
   ·exact Or.inr ((List.pairwise_cons.1 h2).1 t e)
  rw[aH];by_cases hp:z <+: y
  ·rw[if_pos hp,ih];constructor
   ·rintro⟨ha,hb⟩;refine⟨List.mem_cons_of_mem _ ha,λt ht=>?_⟩;rcases List.mem_cons.1 ht with rfl|ht
    ·exact Or.inr (hlow x ha)
    ·exact hb t ht
   ·rintro⟨ha,hb⟩;rcases List.mem_cons.1 ha with rfl|ha
    ·rcases hb y (by simp) with e|e
     ·exact absurd e.symm (hzl y (by simp))
     ·exact absurd hp e
    ·exact⟨ha,λt ht=>hb t (List.mem_cons_of_mem _ ht)⟩
  ·rw[if_neg hp,List.mem_cons,ih];constructor
   ·rintro (rfl|⟨ha,hb⟩)
    ·refine⟨by simp,λt ht=>?_⟩;rcases List.mem_cons.1 ht with rfl|ht
     ·exact Or.inl rfl
     ·exact Or.inr λhpt=>hp (EH x y t (h1 y (by simp)) (hyl t ht) hpt)
    ·refine⟨List.mem_cons_of_mem _ ha,λt ht=>?_⟩;rcases List.mem_cons.1 ht with rfl|ht
     ·exact Or.inr (hlow x ha)
     ·exact hb t ht
   ·rintro⟨ha,hb⟩;rcases List.mem_cons.1 ha with rfl|ha
    ·exact Or.inl rfl
    ·exact Or.inr ⟨ha,λt ht=>hb t (List.mem_cons_of_mem _ ht)⟩
def ER(l:List (List Int))(x:List Int):x∈maxR l↔x∈l/\∀y∈l,y=x\/¬x <+: y:=by
 unfold maxR;rw[List.mem_filter,aC,topB,List.all_eq_true];simp only[aC,decide_eq_true_eq]
def maxR_asc(l:List (List Int)):Asc (maxR l):=List.Pairwise.sublist List.filter_sublist (cC l)
def sortW_keepM{L l:List (List Int)}(h:L.Pairwise λa b=>lexI a b=-1)(hm:∀x,x∈L↔x∈l):sortW (aH L)=maxR l :=
 oA (cC _) (maxR_asc l) λx=>by
  rw[aC,mem_keepM h,ER];simp only[hm]
end Go.Proofs.YtjmcbfbjajlbhaaGreatDoor
namespace Go.Proofs.YtjmcbfbjajlbhaaGreatDoor.Sym
def AN{V:Type}{l:List (List V)}{i:Nat}{x:List V}(h:l[i]?=some x):(l.take (i+1)).flatten=(l.take i).flatten++x:=by
 rw[L9 h];simp
def vN{V:Type}{l:List (List V)}(i:Nat):(l.take i).flatten.length<=l.flatten.length:=by
 have h:l.flatten=(l.take i).flatten++(l.drop i).flatten:=by rw[<- nU,sX]
 rw[h,D7];omega
def concat_ints(l:A3)(hl:l.length<=100000000)(hf:l.flatten.length<=1000000000):dC l=some l.flatten:=by
 unfold dC
 rw[O4 (r:=l.flatten.length) (λs=>s.2<=l.length/\s.1=(l.take s.2).flatten.length) (λs=>l.length-s.2) (λs ⟨h1,h2⟩=>by
  simp only[dC.s2]
  by_cases h3:s.2<l.length
  ·left
   have hx:=get_at h3
   have h4:=AN hx
   have h5:=vN (l:=l) (s.2+1)
   rw[h4,D7]at h5
   refine⟨((l.take (s.2+1)).flatten.length,s.2+1),?_,⟨by omega,rfl⟩,by simp only;omega⟩
   rw[I8 hx,D2,C6 hx,K1,B5,h4,D7,h2]
  ·right
   have e:s.2=l.length:=by omega
   rw[B5,h2,e,M4]) (s:=(0,0)) ⟨F8 _,by simp⟩]
 simp only[N9];unfold ES;rw[F0 (by omega)];simp only[N9]
 rw[O4 (r:=l.flatten) (λs=>s.2<=l.length/\s.1=(l.take s.2).flatten) (λs=>l.length-s.2) (λs ⟨h1,h2⟩=>by
  simp only[dC.s4]
  by_cases h3:s.2<l.length
  ·left
   have hx:=get_at h3
   have h4:=AN hx
   have h5:=vN (l:=l) (s.2+1)
   rw[h4,D7]at h5
   refine⟨((l.take (s.2+1)).flatten,s.2+1),?_,⟨by omega,rfl⟩,by simp only;omega⟩
   rw[I8 hx,D2,C6 hx,F0 (by rw[h2];unfold E5;omega),h4,h2]
  ·right
   have e:s.2=l.length:=by omega
   rw[B5,h2,e,M4]) (s:=([],0)) ⟨F8 _,by simp⟩]
 rfl
def iU(l:A3)(hl:l.length<=100000000)(hf:l.flatten.length<=1000000000):aW l=some l.flatten:=by
 unfold aW;rw[concat_ints l hl hf];rfl
def totB_of{cf:A2->A2->Int}(T:qS cf){f:A2->A2->Option Int}{l:A3}(hf:∀a∈l,∀b∈l,f a b=some (cf a b)):totB f l=true:=by
 refine O0.2 λa ha=>O0.2 λb hb=>?_;rw[hf a ha b hb,hf b hb a ha];simp only[M7];refine⟨⟨⟨?_,?_⟩,?_⟩,O0.2 λc hc=>?_⟩
 ·rw[beq_iff_eq];have:=T.zero a b;by_cases h:a=b
  ·simp[h,this.2 h];rw[<- h];exact(T.zero a a).2 rfl
  ·have h2:¬cf a b=0:=λe=>h (this.1 e);simp[h,h2]
 ·rw[beq_iff_eq];have:=T.swap a b;by_cases h:cf a b<0
  ·simp[h];omega
  ·simp[h];omega
 ·have:=T.range a b;exact D3 (by omega)
 ·rw[hf b hb c hc,hf a ha c hc];have r1:=T.range a b;have r2:=T.range b c;by_cases h1:cf a b<0
  ·by_cases h2:cf b c<0
   ·have:=T.trans a b c (by omega) (by omega);simp[h1,h2,this]
   ·simp[h1,h2]
  ·simp[h1]
def libSort_eq{cf:A2->A2->Int}(T:qS cf){f:A2->A2->Option Int}{l:A3}(hl:l.length<=1000000000)(hf:∀a∈l,∀b∈l,f a b=some (cf a b)) :
  ∃S,qC l f=some S/\S.Perm l/\S.Pairwise (λa b=>0<=cf b a):=by
 refine⟨Y0 f l,?_,iN f l,?_⟩
 ·unfold qC;rw[F0 hl,totB_of T hf];rfl
 ·have h:=AE (totB_iff (totB_of T hf));rw[V8]at h ⊢;intro i j hi hj a2;have:=h i j hi hj a2;have m1:=(iN f l).mem_iff.1 (H9 hi);have m2:=(iN f l).mem_iff.1 (H9 hj);unfold NGt cfv at this;rw[hf _ m2 _ m1]at this;simp only[Q3]at this;omega
def compact_eq{q:A2->A2->Option Bool}{l:A3}(hl:l.length<=1000000000)(hq:∀a∈l,∀b∈l,q a b=some (decide (a=b))):Y8 l q=some (N1 l):=by
 unfold Y8;by_cases h2:l.length<2
 ·rw[C9,IN (by omega)]
 rw[B5]
 have key:=cW (step:=λk=>Y8.s20 l q k) (λk=>1<=k/\k<=l.length/\N1 (l.take k)=l.take k) (λk=>l.length-k) (λr=>Sum.elim (λ(_:Unit)=>some l) some r=some (N1 l)) (λk ⟨h1,h3,h4⟩=>by
  simp only[Y8.s20]
  by_cases h5:k<l.length
  ·have hx:=get_at h5
   have hp:=get_at (l:=l) (i:=k-1) (by omega)
   have a3:=HS (l:=l) (k:=k-1) (x:=l[k]) hp (by rw[show k-1+1=k by omega];exact hx)
   rw[show k-1+1=k by omega]at a3
   rw[I8 hx,D2,C6 hx,F9 (i:=k-1) (by omega) hp,hq _ (H9 _) _ (H9 _)]
   simp only[N9]
   by_cases h6:l[k]=l[k-1]'(by omega)
   ·right
    rw[if_pos h6]at a3
    rw[C9 h6,F0 (by omega)]
    have a4:=V3 (step:=λ(s:A3×Nat×Nat)=>Y8.s18 q k s.1 s.2.1 s.2.2) (λs=>1<=s.2.2/\k+s.2.2<=l.length/\s.1.length=l.length/\s.2.1=(N1 (l.take (k+s.2.2))).length/\s.2.1<k+s.2.2/\s.1.take s.2.1=N1 (l.take (k+s.2.2))/\∀j,s.2.1<=j->s.1[j]?=l[j]?) (λs=>l.length-(k+s.2.2))
     (λr=>r.2<=l.length/\r.1.length=l.length/\r.1.take r.2=N1 l) (λs ⟨g1,g2,g3,g4,g5,g6,g7⟩=>by
      obtain⟨y,kk,t⟩:=s
      simp only at g1 g2 g3 g4 g5 g6 g7
      simp only[Y8.s18]
      by_cases g8:k+t<l.length
      ·left
       have gx:=get_at (l:=l) (i:=k+t) g8
       have gp:=get_at (l:=l) (i:=k+(t-1)) (by omega)
       have yx:y[k+t]?=some l[k+t]:=by rw[g7 _ (by omega)];exact gx
       have yp:y[k+(t-1)]?=some (l[k+(t-1)]'(by omega)):=by rw[g7 _ (by omega)];exact gp
       have a2:=HS (l:=l) (k:=k+(t-1)) (x:=l[k+t]) gp (by rw[show k+(t-1)+1=k+t by omega];exact gx)
       rw[show k+(t-1)+1=k+t by omega]at a2
       rw[C9 (show(t:Int)<(↑(List.length y-k):Int) by omega),C6 yx,F0 (by omega),show Int.toNat ((t:Int)-1)=t-1 by omega,C6 yp,hq _ (H9 _) _ (H9 _)]
       simp only[N9]
       by_cases g9:l[k+t]=l[k+(t-1)]'(by omega)
       ·rw[if_pos g9]at a2
        refine⟨(y,kk,t+1),by rw[D3 g9];rfl,⟨by simp only;omega,by simp only;omega,g3,?_,by simp only;omega,?_,g7⟩,by simp only;omega⟩
        ·simp only
         rw[show k+(t+1)=k+t+1 by omega,a2]
         exact g4
        ·simp only
         rw[show k+(t+1)=k+t+1 by omega,a2]
         exact g6
       ·rw[if_neg g9]at a2
        have yk:=get_at (l:=y) (i:=kk) (by omega)
        refine⟨(y.set kk l[k+t],kk+1,t+1),?_,⟨by simp only;omega,by simp only;omega,by simp only[eB];exact g3,?_,by simp only;omega,?_,λj hj=>?_⟩,by simp only;omega⟩
        ·rw[E2 g9]
         simp only[aG,D2]
         rw[C6 yx,C6 yk,K1]
        ·simp only
         rw[show k+(t+1)=k+t+1 by omega,a2,D7,<- g4]
         rfl
        ·simp only
         have e1:(y.set kk l[k+t])[kk]?=some l[k+t]:=by rw[GY];simp;omega
         rw[show k+(t+1)=k+t+1 by omega,a2,L9 e1,List.take_set_of_le (H4 _),g6]
        ·simp only at hj
         rw[qA (by omega)]
         exact g7 j (by omega)
      ·right
       have e:k+t=l.length:=by omega
       refine⟨(y,kk),?_,by simp only;omega,g3,?_⟩
       ·rw[B5]
       ·simp only
        rw[e,M4]at g6
        exact g6) fuel (l,k,1) ⟨H4 _,by simp only;omega,rfl,by simp only;rw[a3,h4,H6];omega,by simp only;omega,by simp only;rw[a3,h4],λj _=>rfl⟩ (by have:=O9;simp only;omega)
    obtain⟨⟨y,kk⟩,e,g1,g2,g3⟩:=a4
    simp only at g1 g2 g3
    refine⟨.inr (N1 l),?_,rfl⟩
    rw[e]
    simp only[N9,Y8.k19]
    have e2:(List.take kk y++List.replicate (List.length y-kk) ([]:A2)).length=l.length:=by
     rw[D7,H6,dG]
     omega
    rw[F0 (by omega),F0 (by omega),F0 (by rw[e2];omega),gS (by rw[H6];omega),lA,Nat.min_self,g3]
   ·left
    rw[if_neg h6]at a3
    refine⟨k+1,by rw[E2 h6];rfl,⟨by omega,by omega,?_⟩,by omega⟩
    rw[a3,h4,L9 hx]
  ·right
   have e:k=l.length:=by omega
   subst e
   refine⟨.inl (),?_,?_⟩
   ·rw[N7];rfl
   ·rw[M4]at h4
    rw[h4]
    rfl) 1 ⟨H4 _,by omega,IN (by rw[H6];omega)⟩
 obtain⟨r,e,hr⟩:=key;rw[e];exact hr
def iR{w:A2}(h:SmW w):cH w=some w:=by
 unfold cH qR;exact F0 (by unfold SmW at h;unfold E5;omega)
def libclone_words{l:A3}(h:l.length<=2000000):AR l=some l:=by
 unfold AR qR;exact eN
def ordered_eq{cf:A2->A2->Int}(T:qS cf){f:A2->A2->Option Int}{l:A3}(hl:SmL l)(hf:∀a∈l,∀b∈l,f a b=some (cf a b)) :
  ∃S,iX l f=some S/\S.Pairwise (λa b=>cf a b=-1)/\(∀x,x∈S↔x∈l)/\S.length<=l.length:=by
 have a4:l.length<=2000000:=hl.1;obtain⟨S,e1,hp,hs⟩:=libSort_eq T (by omega:l.length<=1000000000) hf;obtain⟨d1,d2⟩:=dedup_asc T hs;have hm:∀x,x∈N1 S↔x∈l:=λx=>by rw[d2,hp.mem_iff]
 have a2:(N1 S).length<=l.length:=by
  have:=dedupA_length S;rw[hp.length_eq]at this;exact this
 refine⟨N1 S,?_,d1,hm,a2⟩;unfold iX GG;rw[libclone_words a4];simp only[N9];rw[e1];simp only[N9]
 rw[compact_eq (by rw[hp.length_eq];omega) (λa ha b hb=>by
  unfold wG
  rw[hf a (hp.mem_iff.1 ha) b (hp.mem_iff.1 hb)]
  simp only[N9]
  congr 1
  exact decide_eq_decide.2 (T.zero a b))]
 simp only[N9]
 rw[O4 (r:=N1 S) (λs=>s.1=N1 S) (λs=>(N1 S).length-s.2) (λs h1=>by
  simp only[iX.s2]
  by_cases h3:s.2<(N1 S).length
  ·left
   have hx:=get_at h3
   have a3:SmW ((N1 S)[s.2]):=hl.2 _ ((hm _).1 (H9 _))
   refine⟨(N1 S,s.2+1),?_,rfl,by simp only;omega⟩
   rw[I8 hx,D2,h1,C6 hx,iR a3]
   simp only[N9]
   rw[C6 hx,K1,List.set_getElem_self]
  ·right
   rw[B5,h1]) (s:=(N1 S,0)) rfl]
 rfl
def zxl{l:A3}(hl:SmL l):wD l=some (sortW l):=by
 obtain⟨S,e,h1,h2,_⟩:=ordered_eq cmpW_total (f:=λu0 u1=>cJ u0 u1) hl λa ha b hb=>wA a b (by have:SmW a:=hl.2 a ha;unfold SmW at this;omega);unfold wD;rw[e];show some S=_;congr 1;exact oA h1 (cC l) λx=>by rw[h2,aC]
def mT{l:A3}(h:SmL l):SmL (sortW l):=⟨S1 (pI l) h.1,λx hx=>h.2 x ((aC l x).1 hx)⟩
def R02_place_eq{l:A3}{w:A2}(hA:Asc l)(hl:SmL l):jV l w=some (↑(L2 l w):Int):=by
 have a5:l.length<=2000000:=hl.1;have a2:=zH l w;have a4:=yL l w;unfold jV
 rw[O4 (r:=L2 l w) (λs=>s.1<=L2 l w/\L2 l w<=s.2/\s.2<=l.length) (λs=>s.2-s.1) (λs ⟨h1,h2,h3⟩=>by
  obtain⟨lo,hi⟩:=s
  simp only at h1 h2 h3
  simp only[jV.s2]
  by_cases h4:lo<hi
  ·left
   have hx:=get_at (l:=l) (i:=(lo+hi) / 2) (by omega)
   rw[C9,K1,K1,C6 hx,AO _ _ (hl.2 _ (H9 _))]
   simp only[N9]
   by_cases h5:cmpW (l[(lo+hi) / 2]'(by omega)) w<0
   ·refine⟨((lo+hi) / 2+1,hi),by rw[C9 h5,K1],⟨?_,h2,h3⟩,by simp only;omega⟩
    simp only
    rcases L8 ((lo+hi) / 2) (L2 l w) with h|h
    ·exact h
    ·exfalso
     have hp:=get_at (l:=l) (i:=L2 l w) (by omega)
     have a3:=a2.2 _ hp
     have r1:=lO (l[(lo+hi) / 2]'(by omega)) w
     rcases L8 (L2 l w) ((lo+hi) / 2) with h'|h'
     ·have:=hA.get h' hp hx
      exact a3 (kD _ _ _ this (by omega))
     ·have e:L2 l w=(lo+hi) / 2:=by omega
      simp only[e]at a3
      omega
   ·refine⟨(lo,(lo+hi) / 2),by rw[B5 h5],⟨h1,?_,by simp only;omega⟩,by simp only;omega⟩
    simp only
    rcases L8 ((lo+hi) / 2) (L2 l w) with h|h
    ·exfalso
     have:=a2.1 _ _ h hx
     omega
    ·exact h
  ·right
   rw[B5,show lo=L2 l w by omega]) (s:=(0,l.length)) ⟨F8 _,a4,H4 _⟩]
 rfl
def zq25{l:A3}{w:A2}(hA:Asc l)(hl:SmL l)(hw:SmW w):fX l w=some (insW l w):=by
 have a9:l.length<=2000000:=hl.1;have a8:w.length<=2000000:=hw;have a4:=yL l w;have a5:=hA.mem_place w;unfold fX;rw[R02_place_eq hA hl];simp only[N9];by_cases hm:w∈l
 ·have hx:=a5.1 hm;have a7:=(G4.1 hx).1;rw[C9 (show(↑(L2 l w):Int)<(l.length:Int) by omega),F9 rfl hx,EC _ _ hw];unfold insW;rw[if_pos hm];simp
 ·have hc:(cond (decide ((↑(L2 l w):Int)<(l.length:Int))) (idx l (↑(L2 l w):Int) λa2=>(mV a2 w).bind λa6=>some a6) (some false):Option Bool)=some false:=by
   by_cases a7:L2 l w<l.length
   ·have hx:=get_at a7;rw[C9,F9 rfl hx,EC _ _ (hl.2 _ (H9 _))];have:¬l[L2 l w]=w:=λe=>hm (a5.2 (by rw[hx,e]));simp[this]
   ·rw[B5]
  rw[hc];simp only[N9,D6];have a3:(l++[([]:A2)]).length=l.length+1:=by simp
  rw[eN,F0 (by rw[a3];unfold inR;omega)]
  have key:=V3 (step:=λ(s:A3×Int)=>fX.s2 (↑(L2 l w):Int) s.1 s.2) (λs=>∃i:Nat,s.2=(i:Int)/\L2 l w<=i/\i<=l.length/\∃z,s.1=stage l z i) (λs=>s.2.toNat-L2 l w) (λr=>∃z,r=stage l z (L2 l w)) (λs ⟨i,h1,h2,h3,z,h4⟩=>by
   obtain⟨y,i'⟩:=s
   simp only at h1 h4
   subst h1 h4
   simp only[fX.s2]
   by_cases h5:L2 l w<i
   ·left
    have hx:=get_at (l:=l) (i:=i-1) (by omega)
    have e1:(stage l z i)[i-1]?=some (l[i-1]'(by omega)):=by rw[stage_before (by omega) h3];exact hx
    have e2:(stage l z i)[i]?=some z:=stage_at h3
    refine⟨(stage l (l[i-1]'(by omega)) (i-1),↑(i-1:Nat)),?_,⟨i-1,rfl,by omega,by omega,_,rfl⟩,by simp only;omega⟩
    rw[C9,K1,F9 (i:=i-1) (by omega) e1,F9 rfl e2,K1,P0,stage_set h3]
    have h6:=stage_down (us:=l) (j:=i-1) hx
    rw[show i-1+1=i by omega]at h6
    rw[h6,show(i:Int)-1=((i-1:Nat):Int) by omega]
   ·right
    have e:i=L2 l w:=by omega
    subst e
    refine⟨_,by rw[B5],z,rfl⟩) fuel (l++[[]],(↑(l++[([]:A2)]).length:Int)-1) ⟨l.length,by simp only[a3];omega,a4,H4 _,[],(stage_end l []).symm⟩ (by have:=O9;simp only[a3];omega)
  obtain⟨r,e,z,hz⟩:=key;subst hz;rw[e];simp only[N9];have e2:(stage l z (L2 l w))[L2 l w]?=some z:=stage_at a4;rw[F0 (by unfold E5;simp;omega),F9 rfl e2,P0,stage_set a4,Y9];unfold insW;rw[if_neg hm];rfl
def sml_ins{l:A3}{w:A2}(hl:l.length<=1999999/\∀x∈l,SmW x)(hw:SmW w):SmL (insW l w):=by
 refine⟨by have:=HU l w;omega,λx hx=>?_⟩;rcases (bV l w x).1 hx with h|h
 ·exact hl.2 x h
 ·rw[h];exact hw
def FO{l:A3}(hl:SmL l):gC l=some (sortW l):=by
 have a3:l.length<=2000000:=hl.1;unfold gC
 rw[O4 (r:=sortW l) (λs=>s.2<=l.length/\s.1=sortW (l.take s.2)) (λs=>l.length-s.2) (λs ⟨h1,h2⟩=>by
  obtain⟨y,i⟩:=s
  simp only at h1 h2
  subst h2
  simp only[gC.s2]
  by_cases h3:i<l.length
  ·left
   have hx:=get_at h3
   have a2:SmL (sortW (l.take i)):=mT ⟨by rw[H6];omega,λx hx=>hl.2 x (Q1 hx)⟩
   refine⟨(sortW (l.take (i+1)),i+1),?_,⟨h3,rfl⟩,by simp only;omega⟩
   rw[I8 hx,D2,C6 hx,zq25 (cC _) a2 (hl.2 _ (H9 _)),L9 hx,DK]
   rfl
  ·right
   have e:i=l.length:=by omega
   subst e
   rw[B5,M4]) (s:=([],0)) ⟨F8 _,by simp[sortW]⟩]
 rfl
def EP{ls:List (A3)}(h0:ls.length<=100000000)(hl:SmL ls.flatten):gA ls=some (sortW ls.flatten):=by
 have a2:ls.flatten.length<=2000000:=hl.1;unfold gA
 rw[O4 (r:=ls.flatten) (λs=>s.2<=ls.length/\s.1=(ls.take s.2).flatten) (λs=>ls.length-s.2) (λs ⟨h1,h2⟩=>by
  simp only[gA.s2]
  by_cases h3:s.2<ls.length
  ·left
   have hx:=get_at h3
   have h4:=AN hx
   have h5:=vN (l:=ls) (s.2+1)
   rw[h4,D7]at h5
   refine⟨((ls.take (s.2+1)).flatten,s.2+1),?_,⟨by omega,rfl⟩,by simp only;omega⟩
   rw[I8 hx,D2,C6 hx,F0 (by rw[h2];unfold E5;omega),h4,h2]
  ·right
   have e:s.2=ls.length:=by omega
   rw[B5,h2,e,M4]) (s:=([],0)) ⟨F8 _,by simp⟩]
 simp only[N9];rw[FO hl];rfl
def preL_take_len{l:A3}(i:Nat):(preL (l.take i)).length<=(preL l).length:=by
 unfold preL;rw[BN,BN,wT];exact vN i
def sortW_append(a b:A3):sortW (a++b)=b.foldl insW (sortW a):=by simp[sortW]
def zq35{l:A3}{i:Nat}{x:A2}{y:A3}(hx:l[i]?=some x)(hx1:x.length<=1000000)(hy:SmL y)(hlen:y.length+x.length+1<=2000000) :
  iter (λ(s:A3×Nat)=>bO.s13 l i s.1 s.2) fuel (sortW y,0)=some (sortW (y++prefixes x)):=by
 refine O4 (λs=>s.2<=x.length+1/\s.1=sortW (y++(prefixes x).take s.2)) (λs=>x.length+1-s.2) (λs ⟨g1,g2⟩=>?_) ⟨F8 _,by simp⟩;obtain⟨z,k⟩:=s;simp only at g1 g2;subst g2;simp only[bO.s13];rw[C6 hx];by_cases g3:k<x.length+1
 ·left
  have e1:SmL (y++(prefixes x).take k):=by
   refine⟨by rw[D7,H6,vZ];omega,λu hu=>?_⟩;rcases K0.1 hu with h|h
   ·exact hy.2 u h
   ·have h2:=Q1 h;unfold prefixes at h2;obtain⟨j,_,rfl⟩:=D8.1 h2;unfold SmW;rw[H6];omega
  have e2:SmW (x.take k):=by
   unfold SmW;rw[H6];omega
  have e3:=zq25 (cC (y++(prefixes x).take k)) (mT e1) e2;refine⟨(sortW (y++(prefixes x).take (k+1)),k+1),?_,⟨g3,rfl⟩,by simp only;omega⟩;rw[C9,C6 hx,F0 (by omega),e3];simp only[A5];rw[K1,prefixes_take _ (by omega),<- U8,DK]
 ·right;have e:k=x.length+1:=by omega
  subst e;rw[B5,<- vZ,M4]
def zz4{l:A3}(hl:SmL l)(hw:∀x∈l,x.length<=1000000)(hp:SmL (preL l)):bO l=some (sortW (preL l)):=by
 have a7:l.length<=2000000:=hl.1;have a6:(preL l).length<=2000000:=hp.1;unfold bO
 have key:=O4 (step:=λ(s:A3×Nat)=>bO.s14 l s.1 s.2) (r:=sortW (preL l)) (λs=>s.2<=l.length/\s.1=sortW (preL (l.take s.2))) (λs=>l.length-s.2) (λs ⟨h1,h2⟩=>by
  obtain⟨y,i⟩:=s
  simp only at h1 h2
  subst h2
  simp only[bO.s14]
  by_cases h3:i<l.length
  ·left
   have hx:=get_at h3
   have a2:=preL_step hx
   have a3:=preL_take_len (l:=l) (i+1)
   rw[a2,D7,vZ]at a3
   have a4:=zq35 (y:=preL (l.take i)) hx (hw _ (H9 _)) ⟨by omega,λu hu=>hp.2 u (by
    unfold preL at hu ⊢
    obtain⟨z,hz,a5⟩:=L6.1 hu
    exact L6.2 ⟨z,Q1 hz,a5⟩)⟩ (by omega)
   refine⟨(sortW (preL (l.take i)++prefixes l[i]),i+1),?_,⟨h3,by simp only;rw[a2]⟩,by simp only;omega⟩
   rw[I8 hx,D2,a4]
   simp only[A5]
  ·right
   have e:i=l.length:=by omega
   subst e
   rw[B5,M4]) (n:=fuel) (s:=([],0)) ⟨F8 _,by simp[preL,sortW]⟩
 rw[key];simp only[A5]
def gH(l:A3)(hl:l.length<=100000000)(hf:l.flatten.length<=1000000000):Y5 l=some l.flatten:=by
 unfold Y5
 rw[O4 (r:=l.flatten) (λs=>s.2<=l.length/\s.1=(l.take s.2).flatten) (λs=>l.length-s.2) (λs ⟨h1,h2⟩=>by
  simp only[Y5.s2]
  by_cases h3:s.2<l.length
  ·left
   have hx:=get_at h3
   have h4:=AN hx
   have h5:=vN (l:=l) (s.2+1)
   rw[h4,D7]at h5
   refine⟨((l.take (s.2+1)).flatten,s.2+1),?_,⟨by omega,rfl⟩,by simp only;omega⟩
   rw[I8 hx,D2,C6 hx,F0 (by rw[h2];unfold E5;omega),h4,h2]
  ·right
   have e:s.2=l.length:=by omega
   rw[B5,h2,e,M4]) (s:=([],0)) ⟨F8 _,by simp⟩]
 rfl
def lR{u v:A2}(hu:SmW u)(hv:SmW v):fC u v=some (u++v):=by
 unfold fC;unfold SmW at hu hv;rw[gH [u,v] (by simp) (by simp;omega)];simp
def AK{l:A3}(hl:SmL l):fB l=some l:=by
 have a2:l.length<=2000000:=hl.1;unfold fB
 rw[O4 (r:=l) (λs=>s.2<=l.length/\s.1=l.take s.2) (λs=>l.length-s.2) (λs ⟨h1,h2⟩=>by
  simp only[fB.s2]
  by_cases h3:s.2<l.length
  ·left
   have hx:=get_at h3
   refine⟨(l.take (s.2+1),s.2+1),?_,⟨by omega,rfl⟩,by simp only;omega⟩
   rw[I8 hx,D2,C6 hx,lR (hl.2 _ (H9 _)) (by simp[SmW])]
   simp only[A5]
   rw[F0 (by rw[h2,H6];unfold E5;omega),L9 hx,h2,S5]
  ·right
   have e:s.2=l.length:=by omega
   rw[B5,h2,e,M4]) (s:=([],0)) ⟨F8 _,by simp⟩]
 rfl
def qQ(a b:A3):[a,b].flatten=a++b:=by simp
def rN{a b:A3}(h:a.length+b.length<=2000000)(ha:SmL a)(hb:SmL b):SmL (a++b) :=
 ⟨by rw[D7];exact h,λx hx=>(K0.1 hx).elim (ha.2 x) (hb.2 x)⟩
def U4:SmL []:=⟨by simp,λx hx=>by cases hx⟩
def DZ{t:B8}{p s:A3}(h1:SmL t.P)(h2:SmL t.X)(hp:SmL p)(hs:SmL s)(h3:t.P.length+p.length<=2000000)(h4:t.X.length+s.length<=2000000) :
  mU t p s=some ⟨t.I,sortW (t.P++p),sortW (t.X++s)⟩:=by
 unfold mU;rw[AK h1,AK h2,AK hp,AK hs];simp only[A5];rw[EP (by simp) (by rw[qQ];exact rN h3 h1 hp),EP (by simp) (by rw[qQ];exact rN h4 h2 hs),qQ,qQ];rfl
def growT(t:B8)(p s:A3):B8×Int :=
 if M5 ⟨t.I,sortW (t.P++p),sortW (t.X++s)⟩≠0 then(t,M5 ⟨t.I,sortW (t.P++p),sortW (t.X++s)⟩) else(⟨t.I,sortW (t.P++p),sortW (t.X++s)⟩,0)
def eT(t:B8)(w:A2):B8×Int :=
 if M5 t≠0 then(t,M5 t) else if H1 w t.I≠0 then(t,H1 w t.I) else growT t (sortW (preL [w])) []
def eQ(t:B8)(w:A2):B8×Int :=
 if M5 t≠0 then(t,M5 t) else if w.length=0 then(t,19) else if H1 w t.I≠0 then(t,H1 w t.I) else growT t [] [w]
def smt_grow{t:B8}{p s:A3}(ht:SmT t)(hp:SmL p)(hs:SmL s)(h3:t.P.length+p.length<=2000000)(h4:t.X.length+s.length<=2000000)(hr:∀x∈p,∀a∈x,inR a) :
  SmT ⟨t.I,sortW (t.P++p),sortW (t.X++s)⟩ :=
 ⟨ht.1,mT (rN h3 ht.2.1 hp),mT (rN h4 ht.2.2.1 hs),λx hx=>by
  rcases K0.1 ((aC _ _).1 hx) with h|h
  ·exact ht.2.2.2 x h
  ·exact hr x h⟩
def qT(w:A2):preL [w]=prefixes w:=by simp[preL]
def sml_pre{w:A2}(hw:w.length<=100000):SmL (preL [w]):=by
 rw[qT];refine⟨by rw[vZ];omega,λx hx=>?_⟩;unfold prefixes at hx;obtain⟨k,_,rfl⟩:=D8.1 hx;show(w.take k).length<=2000000;rw[H6];omega
def sml_one{w:A2}(hw:w.length<=100000):SmL [w]:=⟨by simp,λx hx=>by rcases K2.1 hx with rfl;show x.length<=2000000;omega⟩
def R23_Prefix_eq{t:B8}{w:A2}(ht:SmT t)(hw:w.length<=100000)(hr:∀a∈w,inR a)(h3:t.P.length+200000<=2000000):uO t w=some (eT t w):=by
 unfold uO eT
 have a3:(sortW (preL [w])).length<=100001:=by
  have:=pI (preL [w]);rw[qT,vZ]at this;rw[qT];omega
 have a2:=mT (sml_pre hw);rw[rX t ht,kJ w _ (by unfold SmW;omega),zz4 (sml_one hw) (λx hx=>by rcases K2.1 hx with rfl;omega) (sml_pre hw)];simp only[A5];by_cases h1:M5 t=0
 ·by_cases h2:H1 w t.I=0
  ·rw[E2 (by simpa using h1),E2 (by simpa using h2),if_neg (by simpa using h1),if_neg (by simpa using h2),D6,D6];rw[DZ ht.2.1 ht.2.2.1 a2 U4 (by omega) (by have:=ht.2.2.1.1;simp;omega)];simp only[A5]
   have hg:=smt_grow (s:=[]) ht a2 U4 (by omega) (by have:=ht.2.2.1.1;simp;omega) (λx hx a ha=>by
    have hx:=(aC _ _).1 hx
    rw[qT]at hx
    unfold prefixes at hx
    obtain⟨k,_,rfl⟩:=D8.1 hx
    exact hr a (Q1 ha))
   rw[rX _ hg];unfold growT;simp only[A5];by_cases h5:M5 ⟨t.I,sortW (t.P++sortW (preL [w])),sortW (t.X++[])⟩=0
   ·rw[B5 (by simpa using h5),if_neg (by simpa using h5)]
   ·rw[C9 h5,if_pos h5]
  ·rw[E2 (by simpa using h1),D3 h2,if_neg (by simpa using h1),if_pos h2,D6,D2]
 ·rw[D3 h1,if_pos h1,D2]
def R23_Suffix_eq{t:B8}{w:A2}(ht:SmT t)(hw:w.length<=100000)(h3:t.X.length+200000<=2000000):uJ t w=some (eQ t w):=by
 unfold uJ eQ;rw[rX t ht,kJ w _ (by unfold SmW;omega)];simp only[A5];by_cases h1:M5 t=0
 ·rw[E2 (by simpa using h1),if_neg (by simpa using h1),D6];by_cases h0:w.length=0
  ·rw[C9,if_pos h0]
  ·rw[B5,if_neg h0];by_cases h2:H1 w t.I=0
   ·rw[E2 (by simpa using h2),if_neg (by simpa using h2),D6];rw[DZ ht.2.1 ht.2.2.1 U4 (sml_one hw) (by have:=ht.2.1.1;simp;omega) (by simp;omega)];simp only[A5];have hg:=smt_grow (p:=[]) (s:=[w]) ht U4 (sml_one hw) (by have:=ht.2.1.1;simp;omega) (by simp;omega) (λx hx=>by cases hx);rw[rX _ hg];unfold growT;simp only[A5];by_cases h5:M5 ⟨t.I,sortW (t.P++[]),sortW (t.X++[w])⟩=0
    ·rw[B5 (by simpa using h5),if_neg (by simpa using h5)]
    ·rw[C9 h5,if_pos h5]
   ·rw[D3 h2,if_pos h2,D2]
 ·rw[D3 h1,if_pos h1,D2]
def SmO(o:A6):Prop:=o.T.length<=1100000/\∀t∈o.T,t.In.length<=1100000/\t.O.length<=2000000
def AT(w p:A2)(hw:SmW w):lT w p=some (decide (p <+: w)):=by
 unfold lT;rw[AJ w p hw,A5];congr 1;exact decide_eq_decide.2 (by rw[<- yV w p];omega)
def FW(a b:A2)(ha:SmW a):gE a b=some (E9 a b:Int):=by
 have a2:a.length<=2000000:=ha;have a3:=rA a b;unfold gE
 have key:=cW (step:=λk=>gE.s2 a b k) (λk=>k<=a.length/\k<=b.length/\E9 a b=E9 (a.drop k) (b.drop k)+k) (λk=>a.length-k) (λr=>Sum.elim (λ(_:Unit)=>some (min (a.length:Int) (b.length:Int))) some r=some (E9 a b:Int)) (λk ⟨h1,h2,h3⟩=>by
  simp only[gE.s2]
  by_cases h4:k<a.length/\k<b.length
  ·have hx:=get_at h4.1
   have hy:=get_at h4.2
   rw[C9 (show(k:Int)<min (a.length:Int) (b.length:Int) by omega),C6 hx,C6 hy]
   rw[cR h4.1,cR h4.2]at h3
   by_cases e:a[k]=b[k]
   ·left
    refine⟨k+1,by simp[e],⟨h4.1,h4.2,?_⟩,by omega⟩
    rw[h3,e]
    simp[E9]
    omega
   ·right
    simp only[E9,e,if_false,J9]at h3
    exact⟨.inr (k:Int),by simp[e],by rw[h3];rfl⟩
  ·right
   rw[B5]
   refine⟨.inl (),rfl,?_⟩
   rw[CU (by omega),J9]at h3
   simp only[aO]
   congr 1
   omega) 0 ⟨F8 _,F8 _,by simp⟩
 obtain⟨r,e,hq⟩:=key;rw[e];exact hq
def sG(w p:A2)(hw:SmW w):kK w p=some (decide (p <+: w)):=by
 unfold kK;rw[FW w p hw,A5];congr 1;exact decide_eq_decide.2 (by rw[<- yV w p];omega)
def gT(n:Int)(t:A8):Prop:=H1 t.In n=0/\t.O.length=t.In.length/\∀y∈t.O,0<=y/\y<=1048576
def Agree(a b:A8):Prop:=a.O.take (E9 a.In b.In)=b.O.take (E9 a.In b.In)
structure I6(o:A6):Prop where
 inp:1<=o.I/\o.I<=64
 num:o.T.length<=10000
 prop:∀t∈o.T,gT o.I t/\t.In≠[]
 asc:∀(i j:Nat) a b,i<j->o.T[i]?=some a->o.T[j]?=some b->cmpW a.In b.In=-1
 apart:∀(i j:Nat) a b,i<j->o.T[i]?=some a->o.T[j]?=some b->¬a.In <+: b.In/\Agree a b
def ansO(o:A6)(w:A2):Option (A2) :=
 if w=[] then some [] else(o.T.find? λt=>decide (w <+: t.In)).map λt=>t.O.take w.length
abbrev tw{V:Type}(x:Option (List V)):List V×Bool:=match x with|some r=>(r,true)|none=>([],false)
def smo_in{o:A6}(ho:SmO o){t:A8}(h:t∈o.T):SmW t.In:=by
 have:=(ho.2 t h).1;unfold SmW;omega
def pre_len{p w:A2}(h:p <+: w):p.length<=w.length:=h.length_le
def sC{o:A6}{w:A2}(ho:SmO o)(hv:I6 o):cD o w=some (tw (ansO o w)):=by
 have hl:=ho.1;unfold cD ansO;by_cases h0:w=[]
 ·subst h0;rfl
 ·rw[if_neg h0,E2 (by
   intro h
   exact h0 (S9 (by omega))),D6]
  have key:=Q2 (step:=λi=>cD.s2 o w i) (l:=o.T) (λ_ t=>if w <+: t.In then some (t.O.take w.length,true) else none) (λi t ht=>by
   have a2:=H8 ht
   have hP:=(hv.prop t a2).1
   simp only[cD.s2]
   rw[I8 ht,D2,C6 ht,AT _ _ (smo_in ho a2),A5]
   by_cases h:w <+: t.In
   ·have a4:=pre_len h
    have:=hP.2.1
    have h2:=(ho.2 t a2).1
    rw[C9 h,C6 ht,F0 (by omega),gH _ (by simp) (by simp;omega),A5,if_pos h]
    simp
   ·rw[B5 h,if_neg h]) (by
   simp only[cD.s2]
   rw[N7]
   rfl) (by omega)
  rw[key,A5]
  have a3:∀(l:List A8) (j:Nat),scan (λ_ t=>if w <+: t.In then some (t.O.take w.length,true) else none) j l=((l.find? λt=>decide (w <+: t.In)).map λt=>t.O.take w.length).map λr=>(r,true):=by
   intro l
   induction l with
   |nil=>intro j;rfl
   |cons t l ih =>
    intro j;unfold scan;by_cases h:w <+: t.In
    ·rw[if_pos h,BW (by simpa using h)];rfl
    ·rw[if_neg h,xA (by simpa using h)];exact ih _
  rw[a3];cases (o.T.find? λt=>decide (w <+: t.In)).map λt=>t.O.take w.length<;>rfl
def mI(o:A6)(F:List A8):Prop:=F.Perm o.T/\F.Pairwise λa b=>lexI a.In b.In=-1
def in_inj{o:A6}(hv:I6 o){a b:A8}(ha:a∈o.T)(hb:b∈o.T)(h:a.In=b.In):a=b:=by
 obtain⟨i,hi,rfl⟩:=Q4.1 ha;obtain⟨j,hj,rfl⟩:=Q4.1 hb;rcases eE i j with a4|a2|a3
 ·have:=hv.asc i j _ _ a4 (get_at hi) (get_at hj);rw[h,cA]at this;cases this
 ·subst a2;rfl
 ·have:=hv.asc j i _ _ a3 (get_at hj) (get_at hi);rw[h,cA]at this;cases this
def FJ{o:A6}(ho:SmO o)(hv:I6 o):∃F,oU o=some F/\mI o F:=by
 have hl:=ho.1
 have hf:∀a∈o.T,∀b∈o.T,aM a b=some (lexI a.In b.In):=λa ha b hb=>by
  unfold aM;rw[uZ _ _ (by have:=smo_in ho ha;unfold SmW at this;omega),A5]
 have a4:totB (λu0 u1=>aM u0 u1) o.T=true:=by
  refine O0.2 λa ha=>O0.2 λb hb=>?_;simp only[hf a ha b hb,hf b hb a ha,M7];refine⟨⟨⟨?_,?_⟩,?_⟩,O0.2 λc hc=>?_⟩
  ·rw[beq_iff_eq];have:=oM a.In b.In;exact decide_eq_decide.2 ⟨λh=>in_inj hv ha hb (this.1 h),λh=>this.2 (by rw[h])⟩
  ·rw[beq_iff_eq];have:=mZ a.In b.In;exact decide_eq_decide.2 (by omega)
  ·have:=lP a.In b.In;exact D3 (by omega)
  ·rw[hf b hb c hc,hf a ha c hc];have r1:=lP a.In b.In;have r2:=lP b.In c.In;by_cases h1:lexI a.In b.In<0
   ·by_cases h2:lexI b.In c.In<0
    ·have:=rO a.In b.In c.In (by omega) (by omega);simp[h1,h2,this]
    ·simp[h1,h2]
   ·simp[h1]
 refine⟨Y0 (λu0 u1=>aM u0 u1) o.T,?_,iN _ _,?_⟩
 ·unfold oU GA qR GK qC;rw[eN,A5,F0 (by omega),a4];rfl
 ·have T:=totB_iff a4;have h:=AE T;have a2:=iN (λu0 u1=>aM u0 u1) o.T
  have a5:(Y0 (λu0 u1=>aM u0 u1) o.T).Nodup:=by
   refine a2.nodup_iff.2 ?_;rw[List.Nodup,V8];intro i j hi hj a3 e;have:=hv.asc i j _ _ a3 (get_at hi) (get_at hj);rw[e,cA]at this;cases this
  rw[V8]at h ⊢;rw[List.Nodup,V8]at a5;intro i j hi hj a3;have h1:=h i j hi hj a3;have a6:=a5 i j hi hj a3;have m1:=a2.mem_iff.1 (H9 hi);have m2:=a2.mem_iff.1 (H9 hj);unfold NGt cfv at h1;simp only[hf _ m2 _ m1,Q3]at h1;have r:=lP (Y0 (λu0 u1=>aM u0 u1) o.T)[j].In (Y0 (λu0 u1=>aM u0 u1) o.T)[i].In;have s:=mZ (Y0 (λu0 u1=>aM u0 u1) o.T)[j].In (Y0 (λu0 u1=>aM u0 u1) o.T)[i].In;have z:=oM (Y0 (λu0 u1=>aM u0 u1) o.T)[j].In (Y0 (λu0 u1=>aM u0 u1) o.T)[i].In;have hz:¬lexI (Y0 (λu0 u1=>aM u0 u1) o.T)[j].In (Y0 (λu0 u1=>aM u0 u1) o.T)[i].In=0:=λe=>a6 (in_inj hv m1 m2 (z.1 e).symm);omega
def search_eq{F:List A8}{w:A2}(hs:F.Pairwise λa b=>lexI a.In b.In=-1)(hl:F.length<=2000000)(hw:∀t∈F,SmW t.In) :
  ∃k:Nat,∃b,jC F w (λu0 u1=>mA u0 u1)=some ((k:Int),b)/\k<=F.length/\(∀j t,j<k->F[j]?=some t->lexI t.In w=-1)/\∀t,F[k]?=some t->lexI t.In w≠-1:=by
 have hc:∀t∈F,mA t w=some (lexI t.In w):=λt ht=>by
  unfold mA;rw[uZ _ _ (by have:=hw t ht;unfold SmW at this;omega),A5]
 have a3:∀{i j:Nat} {a b:A8},i<j->F[i]?=some a->F[j]?=some b->lexI a.In b.In=-1:=λ{i j a b} hij ha hb=>by
  obtain⟨hi,rfl⟩:=G4.1 ha;obtain⟨hj,rfl⟩:=G4.1 hb;exact V8.1 hs i j hi hj hij
 have key:=V3 (step:=λ(s:Int×Int)=>jC.s2 F w (λu0 u1=>mA u0 u1) s.1 s.2)
  (λs=>∃i j:Nat,s.1=(i:Int)/\s.2=(j:Int)/\i<=j/\j<=F.length/\(∀k t,k<i->F[k]?=some t->lexI t.In w=-1)/\∀k t,j<=k->F[k]?=some t->lexI t.In w≠-1) (λs=>(s.2-s.1).toNat)
  (λr=>∃k:Nat,r=(k:Int)/\k<=F.length/\(∀j t,j<k->F[j]?=some t->lexI t.In w=-1)/\∀t,F[k]?=some t->lexI t.In w≠-1) (λs ⟨i,j,g1,g2,g3,g4,g5,g6⟩=>by
   obtain⟨si,sj⟩:=s
   simp only at g1 g2
   subst g1 g2
   simp only[jC.s2]
   by_cases g7:i<j
   ·left
    have a2:((i:Int)+↑j) / 2^1=((i+j) / 2:Nat):=by omega
    have hx:=get_at (l:=F) (i:=(i+j) / 2) (by omega)
    rw[C9,K1,F0 (by omega),F0 (by omega),K1,F9 a2 hx,hc _ (H9 _),A5]
    have r:=lP (F[(i+j) / 2]'(by omega)).In w
    by_cases g8:lexI (F[(i+j) / 2]'(by omega)).In w<0
    ·refine⟨(((i+j) / 2+1:Nat),(j:Int)),?_,⟨(i+j) / 2+1,j,rfl,rfl,by omega,g4,λk t hk ht=>?_,g6⟩,by simp only;omega⟩
     ·rw[C9 g8,K1,a2]
      simp
     ·rcases L8 k ((i+j) / 2) with h|h
      ·exact rO _ _ _ (a3 h ht hx) (by omega)
      ·have e:k=(i+j) / 2:=by omega
       subst e
       rw[hx]at ht
       injection ht with ht
       subst ht
       omega
    ·refine⟨((i:Int),(((i+j) / 2:Nat):Int)),?_,⟨i,(i+j) / 2,rfl,rfl,by omega,by omega,g5,λk t hk ht=>?_⟩,by simp only;omega⟩
     ·rw[B5 g8,a2]
     ·intro h9
      rcases L8 ((i+j) / 2) k with h|h
      ·have:=rO _ _ _ (a3 h hx ht) h9
       omega
      ·have e:k=(i+j) / 2:=by omega
       subst e
       rw[hx]at ht
       injection ht with ht
       subst ht
       omega
   ·right
    have e:i=j:=by omega
    subst e
    refine⟨(i:Int),by rw[B5],i,rfl,g4,g5,λt ht=>g6 i t (H4 _) ht⟩) fuel (0,(F.length:Int)) ⟨0,F.length,rfl,rfl,F8 _,H4 _,λk t h=>by omega,λk t h ht=>by
    have:=(G4.1 ht).1
    omega⟩ (by have:=O9;simp only;omega)
 obtain⟨r,e,k,hk,h1,h2,h3⟩:=key;subst hk;unfold jC;rw[e,A5];by_cases h4:k<F.length
 ·have hx:=get_at h4;rw[C9,F9 rfl hx,show(λ(u0:A8) (u1:A2)=>mA u0 u1) F[k] w=some (lexI F[k].In w) from hc _ (H9 _),A5,A5];exact⟨k,_,rfl,h1,h2,h3⟩
 ·rw[B5,A5];exact⟨k,_,rfl,h1,h2,h3⟩
def KR{o:A6}{F:List A8}{w:A2}(ho:SmO o)(hv:I6 o)(hF:mI o F):sH F w=some (tw (ansO o w)):=by
 obtain⟨hp,hs⟩:=hF;have e2:F.length<=1100000:=by rw[hp.length_eq];exact ho.1
 have a8:∀t∈F,t∈o.T:=λt ht=>hp.mem_iff.1 ht;obtain⟨k,b,e,h1,h2,h3⟩:=search_eq (w:=w) hs (by omega) λt ht=>smo_in ho (a8 t ht);unfold sH ansO;by_cases h0:w=[]
 ·subst h0;rfl
 ·have d9:w.length≠0:=λh=>h0 (S9 h);rw[if_neg h0,B5,e,A5];simp only
  -- whatever trace begins with c9 word, c9 first one d5 is not before it d6
  have a4:∀t∈o.T,w <+: t.In->∃u,F[k]?=some u/\w <+: u.In:=λt ht a3=>by
   have d2:t∈F:=hp.mem_iff.2 ht;obtain⟨j,hj,rfl⟩:=Q4.1 d2
   have d1:lexI F[j].In w≠-1:=by
    by_cases b8:w=F[j].In
    ·rw[<- b8,lexI_refl];decide
    ·have:=DF w F[j].In a3 b8;have:=mZ w F[j].In;omega
   have e0:k<=j:=by
    rcases L8 j k with h|h
    ·exact absurd (h2 j _ h (get_at hj)) d1
    ·exact h
   have hx:=get_at (l:=F) (i:=k) (by omega);refine⟨_,hx,?_⟩;have d7:=h3 _ hx;rcases L8 k j with h|h
   ·have b4:lexI (F[k]'(by omega)).In F[j].In=-1:=V8.1 hs k j (by omega) hj h;have r:=lP (F[k]'(by omega)).In w;have s:=mZ (F[k]'(by omega)).In w;by_cases hz:lexI (F[k]'(by omega)).In w=0
    ·rw[(oM _ _).1 hz];exact eC _
    ·exact EH w _ _ (by omega) (Or.inr b4) a3
   ·have ej:j=k:=by omega
    subst ej;exact a3
  cases hfd:o.T.find? λt=>decide (w <+: t.In) with
  |none =>
   have c8:∀t∈o.T,¬w <+: t.In:=λt ht=>by simpa using pX.1 hfd t ht
   by_cases h4:k=F.length
   ·rw[C9,A5,D2];rfl
   ·have hx:=get_at (l:=F) (i:=k) (by omega);have b7:=a8 _ (H9 (show k<F.length by omega));rw[B5,F9 rfl hx,sG _ _ (smo_in ho b7),A5,E2 (c8 _ b7)];rfl
  |some t =>
   have a9:=dE hfd;have a3:w <+: t.In:=by simpa using mE hfd
   obtain⟨u,hu,b0⟩:=a4 t a9 a3;have b3:=a8 u (H8 hu);have d8:=(G4.1 hu).1;have lt:=(hv.prop t a9).1.2.1;have lu:=(hv.prop u b3).1.2.1;have p1:=pre_len a3;have p2:=pre_len b0
   -- both answer alike
   have b2:u.O.take w.length=t.O.take w.length:=by
    by_cases b6:u=t
    ·rw[b6]
    ·have d3:∀a∈o.T,∀b∈o.T,a≠b->w <+: a.In->w <+: b.In->a.O.take w.length=b.O.take w.length:=by
      intro a ha b hb e1 c6 c0
      have b5:w.length<=E9 a.In b.In:=by
       obtain⟨x,hx⟩:=c6;obtain⟨y,hy⟩:=c0;rw[<- hx,<- hy]
       have:∀(w x y:A2),w.length<=E9 (w++x) (w++y):=by
        intro w
        induction w with
        |nil=>intro x y;exact F8 _
        |cons z w ih =>
         intro x y;have:=ih x y;simp only[eD,E9,if_true,H7];omega
       exact this w x y
      have a5:∀(a b:A8),Agree a b->w.length<=E9 a.In b.In->a.O.take w.length=b.O.take w.length:=λa b hA d4=>by
       have h5:=congrArg (List.take w.length) hA;rw[lA,lA,mF d4]at h5;exact h5
      obtain⟨i,hi,rfl⟩:=Q4.1 ha;obtain⟨j,hj,rfl⟩:=Q4.1 hb;rcases eE i j with b4|c7|b9
      ·exact a5 _ _ (hv.apart i j _ _ b4 (get_at hi) (get_at hj)).2 b5
      ·subst c7;rfl
      ·have d0:w.length<=E9 o.T[j].In o.T[i].In:=by
        have:∀a b:A2,E9 a b=E9 b a:=by
         intro a
         induction a with
         |nil=>intro b;cases b<;>rfl
         |cons x a ih =>
          intro b;cases b with
          |nil=>rfl
          |cons y b =>
           simp only[E9];by_cases h:x=y
           ·subst h;simp[ih b]
           ·have h':¬y=x:=λe=>h e.symm;simp[h,h']
        rw[this];exact b5
       exact(a5 _ _ (hv.apart j i _ _ b9 (get_at hj) (get_at hi)).2 d0).symm
     exact d3 u b3 t a9 b6 b0 a3
   have hc:(cond (decide ((k:Int)=(F.length:Int))) (some true) (idx F (k:Int) λa2=>(kK a2.In w).bind λa6=>cond ((!a6)) (some true) (idx F (k:Int) λa7=>some (decide ((a7.O.length:Int)<(w.length:Int))))):Option Bool)=some false:=by
    rw[B5,F9 rfl hu,sG _ _ (smo_in ho b3),A5,D3 b0,N2,D6,F9 rfl hu,E2 (by omega)]
   rw[hc,A5,D6,F9 rfl hu,F0 (by omega),b2];rfl
def scan_idx{V:Type}{p:V->Bool}:∀(l:List V) (j:Nat),scan (λi x=>if p x=true then some (i:Int) else none) j l=if l.any p=true then some (↑(j+l.findIdx p):Int) else none
 |[],_=>rfl
 |x::l,j=>by
  unfold scan;by_cases h:p x=true
  ·simp[h,List.findIdx_cons]
  ·have hf:p x=false:=by simpa using h
   rw[if_neg h];simp only;rw[scan_idx l (j+1)];simp only[List.any_cons,hf,cQ,List.findIdx_cons,D6];split
   ·congr 2;omega
   ·rfl
def tindex_eq{l:List A8}{f:A8->Option Bool}{p:A8->Bool}(hl:l.length<=100000000000000)(hf:∀x∈l,f x=some (p x)) :
  cN l f=some (if l.any p=true then(↑(l.findIdx p):Int) else -1):=by
 unfold cN
 have key:=Q2 (step:=λs=>cN.s2 l f s) (l:=l) (λi x=>if p x=true then some (i:Int) else none) (λi x hx=>by
  simp only[cN.s2]
  rw[I8 hx,D2,C6 hx,hf x (H8 hx),A5]
  cases p x<;>rfl) (by
  simp only[cN.s2]
  rw[N7]
  rfl) hl
 rw[key,scan_idx,A5];by_cases h:l.any p=true
 ·rw[if_pos h,if_pos h,J9];rfl
 ·rw[if_neg h,if_neg h];rfl
def cindex_eq{l:A2}{f:Int->Option Bool}{p:Int->Bool}(hl:l.length<=100000000000000)(hf:∀x∈l,f x=some (p x)) :
  wQ l f=some (l.any p):=by
 unfold wQ kQ
 have key:=Q2 (step:=λs=>kQ.s2 l f s) (l:=l) (λi x=>if p x=true then some (i:Int) else none) (λi x hx=>by
  simp only[kQ.s2]
  rw[I8 hx,D2,C6 hx,hf x (H8 hx),A5]
  cases p x<;>rfl) (by
  simp only[kQ.s2]
  rw[N7]
  rfl) hl
 rw[key,scan_idx];by_cases h:l.any p=true
 ·rw[if_pos h,h];simp
 ·have h':l.any p=false:=by simpa using h
  rw[if_neg h,h'];rfl
def dK(t:A8)(n:Int):Int :=
 if H1 t.In n≠0 then H1 t.In n else if t.O.length≠t.In.length then 1 else if(t.O.all λy=>decide (0<=y/\y<=1048576))=true then 0 else 2
def zD{t:A8}{n:Int}:dK t n=0↔gT n t:=by
 unfold dK gT;by_cases h1:H1 t.In n=0
 ·rw[if_neg (by simpa using h1)];by_cases h2:t.O.length=t.In.length
  ·rw[if_neg (by simpa using h2)];by_cases h3:(t.O.all λy=>decide (0<=y/\y<=1048576))=true
   ·rw[if_pos h3];exact⟨λ_=>⟨h1,h2,λy hy=>of_decide_eq_true (O0.1 h3 y hy)⟩,λ_=>rfl⟩
   ·rw[if_neg h3];exact⟨λh=>(by cases h),λh=>absurd (O0.2 λy hy=>D3 (h.2.2 y hy)) h3⟩
  ·rw[if_pos h2];exact⟨λh=>(by cases h),λh=>absurd h.2.1 h2⟩
 ·rw[if_pos h1];exact⟨λh=>absurd h h1,λh=>absurd h.1 h1⟩
def R16_Proper_eq(t:A8)(n:Int)(h1:SmW t.In)(h2:SmW t.O):iJ t n=some (dK t n):=by
 unfold iJ dK;rw[kJ _ _ h1,A5];by_cases g1:H1 t.In n=0
 ·rw[B5 (by simpa using g1),if_neg (by simpa using g1)];by_cases g2:t.O.length=t.In.length
  ·rw[B5,if_neg (by simpa using g2)]
   have key:=Q2 (step:=λs=>iJ.s2 t s) (l:=t.O) (λ_ y=>if decide (0<=y/\y<=1048576)=true then none else some (2:Int)) (λi y hy=>by
    simp only[iJ.s2]
    rw[I8 hy,D2,C6 hy,C6 hy]
    by_cases a1:y<0
    ·rw[C9 a1,A5,D2,E2 (show ¬(0<=y/\y<=1048576) by omega)];rfl
    ·by_cases a2:1048576<y
     ·rw[B5 a1,D3 a2,A5,D2,E2 (show ¬(0<=y/\y<=1048576) by omega)];rfl
     ·rw[B5 a1,E2 a2,A5,D6,D3 (show(0<=y/\y<=1048576) by omega)];rfl) (by
    simp only[iJ.s2]
    rw[N7]
    rfl) (by unfold SmW at h2;omega)
   rw[key,oJ (p:=λy=>decide (0<=y/\y<=1048576)),A5];by_cases h:(t.O.all λy=>decide (0<=y/\y<=1048576))=true
   ·rw[if_pos h,if_pos h];rfl
   ·rw[if_neg h,if_neg h];rfl
  ·rw[C9,if_pos g2]
 ·rw[C9 g1,if_pos g1]
def zxf(t:A8)(n:Int)(h1:SmW t.In)(h2:SmW t.O):vU t n=some (dK t n):=by
 unfold vU dK;rw[nH _ _ h1,A5];by_cases g1:H1 t.In n=0
 ·rw[B5 (by simpa using g1),if_neg (by simpa using g1)];by_cases g2:t.O.length=t.In.length
  ·rw[B5,if_neg (by simpa using g2)]
   rw[cindex_eq (p:=λy=>!decide (0<=y/\y<=1048576)) (by unfold SmW at h2;omega) λy _=>by
    unfold wE
    by_cases a1:y<0
    ·rw[C9 a1,A5,E2 (show ¬(0<=y/\y<=1048576) by omega)];rfl
    ·by_cases a2:1048576<y
     ·rw[B5 a1,D3 a2,A5,E2 (show ¬(0<=y/\y<=1048576) by omega)];rfl
     ·rw[B5 a1,E2 a2,A5,D3 (show(0<=y/\y<=1048576) by omega)];rfl,A5]
   by_cases h:(t.O.all λy=>decide (0<=y/\y<=1048576))=true
   ·have h':(t.O.any λy=>!decide (0<=y/\y<=1048576))=false:=by
     rw[sR];intro y hy;have:=O0.1 h y hy;simp only[this,N2];exact W5
    rw[h',D6,if_pos h]
   ·have h':(t.O.any λy=>!decide (0<=y/\y<=1048576))=true:=by
     refine Q5 λhn=>h (O0.2 λy hy=>?_);refine Q5 λhm=>hn (gQ.2 ⟨y,hy,?_⟩);have:decide (0<=y/\y<=1048576)=false:=by simpa only[Bool.not_eq_true]using hm
     rw[this];rfl
    rw[h',D2,if_neg h]
  ·rw[C9,if_pos g2]
 ·rw[C9 g1,if_pos g1]
def zq18:∀a b:A2,E9 a b=E9 b a
 |[],[]=>rfl
 |[],_::_=>rfl
 |_::_,[]=>rfl
 |x::a,y::b=>by
  unfold E9;by_cases h:x=y
  ·rw[if_pos h,if_pos h.symm,zq18 a b]
  ·rw[if_neg h,if_neg λe=>h e.symm]
def Agree.symm{a b:A8}(h:Agree a b):Agree b a:=by
 unfold Agree at h ⊢;rw[zq18];exact h.symm
def R16_Differ_iff(a b:A8){n:Int}(ha:gT n a)(hb:gT n b)(h1:SmW a.In):∃d,kB a b=some d/\(0<=d↔¬Agree a b):=by
 have a2:a.In.length<=2000000:=h1;have hc:=rA a.In b.In;have la:=ha.2.1;have lb:=hb.2.1;unfold kB;rw[AJ _ _ h1,A5]
 have key:=cW (step:=λk=>kB.s2 a b (↑(E9 a.In b.In):Int) k) (λk=>k<=E9 a.In b.In/\a.O.take k=b.O.take k) (λk=>E9 a.In b.In-k) (λr=>match r with|.inl ()=>Agree a b|.inr d=>0<=d/\¬Agree a b) (λk ⟨g1,g2⟩=>by
  simp only[kB.s2]
  by_cases g3:k<E9 a.In b.In
  ·have hx:=get_at (l:=a.O) (i:=k) (by omega)
   have hy:=get_at (l:=b.O) (i:=k) (by omega)
   rw[C9,C6 hx,C6 hy]
   by_cases e:a.O[k]'(by omega)=b.O[k]'(by omega)
   ·left
    refine⟨k+1,by rw[B5 (by simpa using e),K1],⟨g3,?_⟩,by omega⟩
    rw[L9 hx,L9 hy,g2,e]
   ·right
    refine⟨.inr (k:Int),by rw[C9 e],by simp,λhA=>e ?_⟩
    have h3:(a.O.take (E9 a.In b.In))[k]?=(b.O.take (E9 a.In b.In))[k]?:=by rw[hA]
    rw[R3,R3,if_pos g3,if_pos g3,hx,hy]at h3
    injection h3
  ·right
   have e:k=E9 a.In b.In:=by omega
   subst e
   exact⟨.inl (),by rw[B5],g2⟩) 0 ⟨F8 _,by simp⟩
 obtain⟨r,e,hq⟩:=key;rw[e];cases r with
 |inl u=>exact⟨-1,rfl,λh=>absurd h (by decide),λh=>absurd hq h⟩
 |inr d=>exact⟨d,rfl,λ_=>hq.2,λ_=>hq.1⟩
def common_eq_iff{x y:A2}(h:x.length=y.length):E9 x y=y.length↔x=y:=by
 rw[yV];exact⟨λhp=>(hp.eq_of_length h.symm).symm,λe=>e ▸ eC _⟩
def zu8(a b:A8){n:Int}(ha:gT n a)(hb:gT n b)(h1:SmW a.In):∃d,vW a b=some d/\(0<=d↔¬Agree a b):=by
 have a4:a.In.length<=2000000:=h1;have hc:=rA a.In b.In;have la:=ha.2.1;have lb:=hb.2.1;unfold vW;rw[FW _ _ h1,A5];have hm:min (min (↑(E9 a.In b.In):Int) (a.O.length:Int)) (b.O.length:Int)=↑(E9 a.In b.In):=by omega
 rw[hm,F0 (by omega),F0 (by omega),P0,FW _ _ (by unfold SmW;rw[H6];omega),A5];have l1:(a.O.take (E9 a.In b.In)).length=E9 a.In b.In:=by rw[H6];omega
 have l2:(b.O.take (E9 a.In b.In)).length=E9 a.In b.In:=by rw[H6];omega
 have a3:=rA (a.O.take (E9 a.In b.In)) (b.O.take (E9 a.In b.In));have a2:=common_eq_iff (x:=a.O.take (E9 a.In b.In)) (y:=b.O.take (E9 a.In b.In)) (by omega);by_cases h:E9 (a.O.take (E9 a.In b.In)) (b.O.take (E9 a.In b.In))<E9 a.In b.In
 ·rw[C9];exact⟨_,rfl,λ_ hA=>by have:=a2.2 hA;omega,λ_=>by omega⟩
 ·rw[B5];exact⟨-1,rfl,λh=>absurd h (by decide),λhA=>absurd (a2.1 (by omega)) hA⟩
def gZ(l:List A8)(t:A8):Prop:=∃u∈l,¬Agree u t
def T9(l:List A8)(w:A2):Bool:=l.any λu=>decide (w <+: u.In)
def insT:List A8->A8->List A8
 |[],t=>[t]
 |x::r,t=>if cmpW t.In x.In=-1 then t::x::r else x::insT r t
def bU(l:List A8)(t:A8):List A8:=l.filter λu=>!decide (u.In <+: t.In)
def addL(l:List A8)(t:A8):List A8:=if T9 l t.In=true\/t.In=[] then l else insT (bU l t) t
instance (a b:A8):Decidable (Agree a b):=by unfold Agree;infer_instance
instance (l:List A8) (t:A8):Decidable (gZ l t):=by unfold gZ;infer_instance
def addO(o:A6)(t:A8):A6×Int :=
 if dK t o.I≠0 then(o,dK t o.I) else if gZ o.T t then(o,13) else if 10000<(addL o.T t).length then(o,11) else(⟨o.I,addL o.T t⟩,0)
def EB(l:List A8)(t:A8):(insT l t).length=l.length+1:=by
 induction l with
 |nil=>rfl
 |cons x r ih =>
  unfold insT;split
  ·rfl
  ·simp[ih]
def JA(l:List A8)(t:A8):(bU l t).length<=l.length:=nR _ _
def zq14(l:List A8)(t:A8):(addL l t).length<=l.length+1:=by
 unfold addL;split
 ·omega
 ·rw[EB];have:=JA l t;omega
def lI{l:List A8}{t x:A8}:x∈insT l t↔x=t\/x∈l:=by
 induction l with
 |nil=>simp[insT]
 |cons y r ih =>
  unfold insT;split
  ·simp
  ·simp only[I2,ih];constructor
   ·rintro (h|h|h)
    ·exact .inr (.inl h)
    ·exact .inl h
    ·exact .inr (.inr h)
   ·rintro (h|h|h)
    ·exact .inr (.inl h)
    ·exact .inl h
    ·exact .inr (.inr h)
def insT_at:∀{l:List A8} {t:A8} {k:Nat},k<=l.length->(∀j x,j<k->l[j]?=some x->cmpW x.In t.In=-1)->(∀x,l[k]?=some x->cmpW x.In t.In≠-1)->(∀x∈l,x.In≠t.In)->insT l t=l.take k++[t]++l.drop k
 |[],t,k,hk,_,_,_=>by
  have:k=0:=by simpa using hk
  subst this;rfl
 |x::r,t,0,_,_,h2,h3=>by
  have h4:=h2 x rfl;have h5:=h3 x (by simp);have r1:=lO x.In t.In;have z1:=rB x.In t.In;have s1:=qZ x.In t.In;have h6:¬cmpW x.In t.In=0:=λe=>h5 (z1.1 e);unfold insT;rw[if_pos (by omega)];rfl
 |x::r,t,k+1,hk,h1,h2,h3=>by
  have h4:=h1 0 x (Nat.succ_pos _) rfl;have s1:=qZ x.In t.In;unfold insT;rw[if_neg (by omega),insT_at (k:=k) (by simpa using hk) (λj y hj hy=>h1 (j+1) y (by omega) (by simpa using hy)) (λy hy=>h2 y (by simpa using hy)) λy hy=>h3 y (by simp[hy])];rfl
def insT_pair{S:A8->A8->Prop}{t:A8}:∀{l:List A8},l.Pairwise S->(∀x∈l,S x t/\S t x)->(insT l t).Pairwise S
 |[],_,_=>by simp[insT]
 |x::r,h,ht=>by
  unfold insT;have hx:=dF.1 h;split
  ·exact dF.2 ⟨λy hy=>(ht y hy).2,h⟩
  ·refine dF.2 ⟨λy hy=>?_,insT_pair hx.2 λy hy=>ht y (by simp[hy])⟩;rcases lI.1 hy with e|e
   ·subst e;exact(ht x (by simp)).1
   ·exact hx.1 y e
def insT_asc{t:A8}:∀{l:List A8},l.Pairwise (λa b=>cmpW a.In b.In=-1)->(∀x∈l,x.In≠t.In)->(insT l t).Pairwise (λa b=>cmpW a.In b.In=-1)
 |[],_,_=>by simp[insT]
 |x::r,h,hn=>by
  unfold insT;have hx:=dF.1 h;split
  ·rename_i h1;refine dF.2 ⟨λy hy=>?_,h⟩;rcases I2.1 hy with e|e
   ·rw[e];exact h1
   ·exact kD _ _ _ h1 (hx.1 y e)
  ·rename_i h1;refine dF.2 ⟨λy hy=>?_,insT_asc hx.2 λy hy=>hn y (by simp[hy])⟩;rcases lI.1 hy with e|e
   ·subst e;have r1:=lO x.In y.In;have z1:=rB x.In y.In;have s1:=qZ x.In y.In;have h6:¬cmpW x.In y.In=0:=λe=>hn x (by simp) (z1.1 e);omega
   ·exact hx.1 y e
def I6.pw{o:A6}(hv:I6 o):o.T.Pairwise (λa b=>cmpW a.In b.In=-1)/\o.T.Pairwise (λa b=>¬a.In <+: b.In/\Agree a b) :=
 ⟨V8.2 λi j hi hj hij=>hv.asc i j _ _ hij (get_at hi) (get_at hj),V8.2 λi j hi hj hij=>hv.apart i j _ _ hij (get_at hi) (get_at hj)⟩
def obsOk_of{o:A6}(h1:1<=o.I/\o.I<=64)(h2:o.T.length<=10000)(h3:∀t∈o.T,gT o.I t/\t.In≠[])(h4:o.T.Pairwise (λa b=>cmpW a.In b.In=-1))(h5:o.T.Pairwise (λa b=>¬a.In <+: b.In/\Agree a b)):I6 o:=by
 refine⟨h1,h2,h3,λi j a b a2 ha hb=>?_,λi j a b a2 ha hb=>?_⟩
 all_goals
  obtain⟨hi,rfl⟩:=G4.1 ha;obtain⟨hj,rfl⟩:=G4.1 hb
 ·exact V8.1 h4 i j hi hj a2
 ·exact V8.1 h5 i j hi hj a2
def JO{l:List A8}{w:A2}(h:¬T9 l w=true):∀u∈l,¬w <+: u.In:=λu hu hp=>h (gQ.2 ⟨u,hu,D3 hp⟩)
def addO_ok{o:A6}{t:A8}(hv:I6 o):I6 (addO o t).1:=by
 unfold addO;split
 ·exact hv
 rename_i hp;have hp:gT o.I t:=zD.1 (by simpa using hp);split
 ·exact hv
 rename_i hc;split
 ·exact hv
 rename_i hn;have hn:(addL o.T t).length<=10000:=by omega
 unfold addL at hn ⊢;by_cases h:T9 o.T t.In=true\/t.In=[]
 ·rw[if_pos h];exact hv
 ·rw[if_neg h]at hn ⊢;have h1:=JO λe=>h (.inl e);have h2:t.In≠[]:=λe=>h (.inr e);have a3:(bU o.T t).Sublist o.T:=xJ
  have a2:∀x∈bU o.T t,x∈o.T/\¬x.In <+: t.In:=λx hx=>by
   have:=fK.1 hx;refine⟨this.1,λe=>?_⟩;rw[D3 e]at this;exact W5 this.2
  have a4:∀x∈o.T,Agree x t:=λx hx=>Q5 λe=>hc ⟨x,hx,e⟩;refine obsOk_of hv.inp hn (λx hx=>?_) (insT_asc (hv.pw.1.sublist a3) λx hx e=>(a2 x hx).2 (e ▸ eC _)) (insT_pair (hv.pw.2.sublist a3) λx hx=>⟨⟨(a2 x hx).2,a4 x (a2 x hx).1⟩,h1 x (a2 x hx).1,(a4 x (a2 x hx).1).symm⟩);rcases lI.1 hx with e|e
  ·rw[e];exact⟨hp,h2⟩
  ·exact hv.prop x (a2 x e).1
def SmX(t:A8):Prop:=SmW t.In/\SmW t.O
def SmTr(l:List A8):Prop:=l.length<=1200000/\∀t∈l,SmX t
def capT{n:Nat}(h:n<=3000000):E5 n 48:=by unfold E5;omega
def LD{t:A8}(h:SmX t):sD t=some t:=by
 unfold sD;rw[iR h.1,A5,iR h.2,A5]
def zy0{l:List A8}(h:SmTr l):iS l=some l:=by
 have hl:=h.1;unfold iS;rw[F0 ⟨by decide,by omega,by rw[show((l.length:Int)+1).toNat=l.length+1 by omega];exact capT (by omega)⟩]
 have key:=cW (step:=λ(s:List A8×Nat)=>iS.s2 l s.1 s.2) (λs=>s.2<=l.length/\s.1=l.take s.2) (λs=>l.length-s.2) (λr=>r=l) (λ⟨y,i⟩ ⟨g1,g2⟩=>by
  simp only at g1 g2
  subst g2
  simp only[iS.s2]
  by_cases g3:i<l.length
  ·left
   have hx:=get_at g3
   refine⟨(l.take (i+1),i+1),?_,⟨g3,rfl⟩,by simp only;omega⟩
   rw[I8 hx,D2,C6 hx,LD (h.2 _ (H9 _)),A5,F0 (capT (by rw[H6];omega)),L9 hx]
  ·right
   have e:i=l.length:=by omega
   subst e
   exact⟨l,by rw[N7,D6,M4],rfl⟩) ([],0) ⟨F8 _,rfl⟩
 obtain⟨r,e,rfl⟩:=key;rw[e,A5]
def tdelete_eq{l:List A8}{f:A8->Option Bool}{p:A8->Bool}(hl:l.length<=100000000)(hf:∀x∈l,f x=some (p x)) :
  cO l f=some (l.filter λx=>!p x):=by
 unfold cO;rw[tindex_eq (by omega) hf,A5];by_cases h:l.any p=true
 ·rw[if_pos h,B5];have hi:l.findIdx p<l.length:=List.findIdx_lt_length_of_exists (by simpa using gQ.1 h);have hx:=get_at hi;have a5:p l[l.findIdx p]=true:=List.findIdx_getElem
  have a2:∀(k:Nat),k<=l.findIdx p->(l.take k).filter (λx=>!p x)=l.take k:=λk hk=>by
   refine xI.2 λx hx=>?_;obtain⟨j,hj,rfl⟩:=Q4.1 hx;rw[H6]at hj;rw[List.getElem_take];have:=List.not_of_lt_findIdx (p:=p) (xs:=l) (i:=j) (by omega);have h9:p l[j]=false:=by simpa using this
   rw[h9];rfl
  rw[K1]
  have key:=V3 (step:=λ(s:List A8×Int×Int)=>cO.s2 f s.1 s.2.1 s.2.2)
   (λs=>∃i j:Nat,s.2.1=(i:Int)/\s.2.2=(j:Int)/\i<j/\j<=l.length/\s.1.length=l.length/\s.1.drop j=l.drop j/\s.1.take i=(l.take j).filter λx=>!p x) (λs=>(↑l.length-s.2.2).toNat)
   (λr=>∃i:Nat,r.2=(i:Int)/\i<=l.length/\0<l.length/\r.1.length=l.length/\r.1.take i=l.filter λx=>!p x) (λ⟨y,si,sj⟩ ⟨i,j,g1,g2,g3,g4,g5,g6,g7⟩=>by
    simp only at g1 g2 g5 g6 g7
    subst g1 g2
    simp only[cO.s2]
    by_cases g8:j<l.length
    ·left
     have hz:=get_at g8
     have hy:y[j]?=some l[j]:=by
      have h1:(y.drop j)[0]?=(l.drop j)[0]?:=by rw[g6]
      rw[W6,W6,W7,hz]at h1
      exact h1
     rw[C9,F9 rfl hy,hf _ (H9 _),A5]
     have hd:∀u:List A8,u.drop j=l.drop j->u.drop (j+1)=l.drop (j+1):=λu hu=>by
      rw[<- wU,hu,wU]
     cases hp:p l[j]with
     |false =>
      have a6:=get_at (l:=y) (i:=i) (by omega)
      refine⟨(y.set i l[j],((i+1:Nat):Int),((j+1:Nat):Int)),?_,⟨i+1,j+1,rfl,rfl,by omega,by omega,by simpa using g5,?_,?_⟩,by simp only;omega⟩
      ·rw[aG,D2,F9 rfl a6,K1,K1]
       simp
      ·rw[List.drop_set_of_lt (by omega)]
       exact hd y g6
      ·rw[L9 hz,pW,<- g7]
       have a3:(y.set i l[j])[i]?=some l[j]:=by rw[pY (by omega)]
       rw[L9 a3,List.take_set_of_le (by omega)]
       simp[hp]
     |true =>
      refine⟨(y,(i:Int),((j+1:Nat):Int)),?_,⟨i,j+1,rfl,rfl,by omega,by omega,g5,hd y g6,?_⟩,by simp only;omega⟩
      ·rw[N2,D6,K1]
       simp
      ·rw[L9 hz,pW,<- g7]
       simp[hp]
    ·right
     have e:j=l.length:=by omega
     subst e
     refine⟨(y,(i:Int)),by rw[B5],i,rfl,by omega,by omega,g5,?_⟩
     rw[g7,M4]) fuel (l,(↑(l.findIdx p):Int),(↑(l.findIdx p):Int)+1) ⟨l.findIdx p,l.findIdx p+1,rfl,by simp,by omega,hi,rfl,rfl,by
    rw[L9 hx,pW,a2 _ (H4 _)]
    simp[a5]⟩ (by have:=O9;simp only;omega)
  obtain⟨⟨y,si⟩,e,i,g1,g2,g3,g4,g5⟩:=key;simp only at g1 g4 g5;subst g1;rw[e,A5];simp only[cO.k3]
  have a4:(List.take i y++List.replicate (y.length-i) (⟨[],[]⟩:A8)).length=y.length:=by
   rw[D7,H6,dG];omega
  rw[P0,a4,F0 (by omega),F0 (by omega),F0 (by omega),gS (by rw[H6];omega),lA,Nat.min_self,g5]
 ·have h':l.any p=false:=by simpa using h
  rw[if_neg h,C9 rfl];congr 1;refine(xI.2 λx hx=>?_).symm;have:=sR.1 h' x hx;simpa using this
def tsearch_eq{F:List A8}{t:A8}(hs:F.Pairwise λa b=>cmpW a.In b.In=-1)(hl:F.length<=2000000)(hw:∀x∈F,SmW x.In) :
  ∃k:Nat,∃b,jD F t (λu0 u1=>lU u0 u1)=some ((k:Int),b)/\k<=F.length/\(∀j x,j<k->F[j]?=some x->cmpW x.In t.In=-1)/\∀x,F[k]?=some x->cmpW x.In t.In≠-1:=by
 have hc:∀x∈F,lU x t=some (cmpW x.In t.In):=λx hx=>by
  unfold lU;rw[wA _ _ (by have:=hw x hx;unfold SmW at this;omega),A5]
 have a4:∀{i j:Nat} {a b:A8},i<j->F[i]?=some a->F[j]?=some b->cmpW a.In b.In=-1:=λ{i j a b} hij ha hb=>by
  obtain⟨hi,rfl⟩:=G4.1 ha;obtain⟨hj,rfl⟩:=G4.1 hb;exact V8.1 hs i j hi hj hij
 have key:=V3 (step:=λ(s:Int×Int)=>jD.s2 F t (λu0 u1=>lU u0 u1) s.1 s.2)
  (λs=>∃i j:Nat,s.1=(i:Int)/\s.2=(j:Int)/\i<=j/\j<=F.length/\(∀k x,k<i->F[k]?=some x->cmpW x.In t.In=-1)/\∀k x,j<=k->F[k]?=some x->cmpW x.In t.In≠-1) (λs=>(s.2-s.1).toNat)
  (λr=>∃k:Nat,r=(k:Int)/\k<=F.length/\(∀j x,j<k->F[j]?=some x->cmpW x.In t.In=-1)/\∀x,F[k]?=some x->cmpW x.In t.In≠-1) (λs ⟨i,j,g1,g2,g3,g4,g5,g6⟩=>by
   obtain⟨si,sj⟩:=s
   simp only at g1 g2
   subst g1 g2
   simp only[jD.s2]
   by_cases g7:i<j
   ·left
    have a3:((i:Int)+↑j) / 2^1=((i+j) / 2:Nat):=by omega
    have hx:=get_at (l:=F) (i:=(i+j) / 2) (by omega)
    rw[C9,K1,F0 (by omega),F0 (by omega),K1,F9 a3 hx,hc _ (H9 _),A5]
    have r:=lO (F[(i+j) / 2]'(by omega)).In t.In
    by_cases g8:cmpW (F[(i+j) / 2]'(by omega)).In t.In<0
    ·refine⟨(((i+j) / 2+1:Nat),(j:Int)),?_,⟨(i+j) / 2+1,j,rfl,rfl,by omega,g4,λk x hk a2=>?_,g6⟩,by simp only;omega⟩
     ·rw[C9 g8,K1,a3]
      simp
     ·rcases L8 k ((i+j) / 2) with h|h
      ·exact kD _ _ _ (a4 h a2 hx) (by omega)
      ·have e:k=(i+j) / 2:=by omega
       subst e
       rw[hx]at a2
       injection a2 with a2
       subst a2
       omega
    ·refine⟨((i:Int),(((i+j) / 2:Nat):Int)),?_,⟨i,(i+j) / 2,rfl,rfl,by omega,by omega,g5,λk x hk a2=>?_⟩,by simp only;omega⟩
     ·rw[B5 g8,a3]
     ·intro h9
      rcases L8 ((i+j) / 2) k with h|h
      ·have:=kD _ _ _ (a4 h hx a2) h9
       omega
      ·have e:k=(i+j) / 2:=by omega
       subst e
       rw[hx]at a2
       injection a2 with a2
       subst a2
       omega
   ·right
    have e:i=j:=by omega
    subst e
    refine⟨(i:Int),by rw[B5],i,rfl,g4,g5,λx a2=>g6 i x (H4 _) a2⟩) fuel (0,(F.length:Int)) ⟨0,F.length,rfl,rfl,F8 _,H4 _,λk x h=>by omega,λk x h a2=>by
    have:=(G4.1 a2).1
    omega⟩ (by have:=O9;simp only;omega)
 obtain⟨r,e,k,hk,h1,h2,h3⟩:=key;subst hk;unfold jD;rw[e,A5];by_cases h4:k<F.length
 ·have hx:=get_at h4;rw[C9,F9 rfl hx,show(λ(u0:A8) (u1:A8)=>lU u0 u1) F[k] t=some (cmpW F[k].In t.In) from hc _ (H9 _),A5,A5];exact⟨k,_,rfl,h1,h2,h3⟩
 ·rw[B5,A5];exact⟨k,_,rfl,h1,h2,h3⟩
def observe_add_eq{o:A6}{t:A8}(ho:SmTr o.T)(hv:I6 o)(ht:SmX t)(hp:gT o.I t) :
  iM o.T t=some (if gZ o.T t then([],13) else if 10000<(addL o.T t).length then([],11) else(addL o.T t,0)):=by
 have hl:=ho.1;unfold iM
 have key:=V3 (step:=λ(s:Bool×Nat)=>iM.s2 o.T t s.1 s.2) (λs=>s.2<=o.T.length/\(∀u∈o.T.take s.2,Agree u t)/\s.1=T9 (o.T.take s.2) t.In) (λs=>o.T.length-s.2)
  (λr=>match r with|.inl b=>¬gZ o.T t/\b=T9 o.T t.In|.inr x=>gZ o.T t/\x=([],13)) (λ⟨b,i⟩ ⟨g1,g2,g3⟩=>by
   simp only at g1 g2 g3
   simp only[iM.s2]
   by_cases g4:i<o.T.length
   ·have hx:=get_at g4
    have a2:=H9 g4
    obtain⟨d,hd,a4⟩:=zu8 o.T[i] t (hv.prop _ a2).1 hp (ho.2 _ a2).1
    rw[I8 hx,D2,C6 hx,hd,A5]
    by_cases g5:0<=d
    ·right
     exact⟨.inr ([],13),by rw[C9 g5],⟨_,a2,a4.1 g5⟩,rfl⟩
    ·left
     have hA:Agree o.T[i] t:=Q5 λe=>g5 (a4.2 e)
     have a5:T9 (o.T.take (i+1)) t.In=(b||decide (t.In <+: o.T[i].In)):=by
      rw[L9 hx,g3]
      unfold T9
      rw[CB]
      simp
     refine⟨(T9 (o.T.take (i+1)) t.In,i+1),?_,⟨g4,λu hu=>?_,rfl⟩,by simp only;omega⟩
     ·rw[B5 g5,a5]
      cases b with
      |true=>rfl
      |false =>
       rw[D6,sG _ _ (ho.2 _ a2).1,A5]
       rfl
     ·rw[L9 hx]at hu
      rcases K0.1 hu with h|h
      ·exact g2 u h
      ·rw[K2.1 h]
       exact hA
   ·right
    have e:i=o.T.length:=by omega
    subst e
    rw[M4]at g2 g3
    exact⟨.inl b,by rw[N7,D6],λ⟨u,hu,h⟩=>h (g2 u hu),g3⟩) fuel (false,0) ⟨F8 _,λu hu=>by simp at hu,rfl⟩ (by have:=O9;simp only;omega)
 obtain⟨r,e,hq⟩:=key;rw[e,A5];cases r with
 |inr x =>
  rw[if_pos hq.1,hq.2];rfl
 |inl b =>
  obtain⟨h1,rfl⟩:=hq;rw[if_neg h1];simp only[aO]
  have hb:(cond (T9 o.T t.In) (some true) (some (decide ((t.In.length:Int)=0))):Option Bool)=some (decide (T9 o.T t.In=true\/t.In=[])):=by
   cases hi:T9 o.T t.In with
   |true=>rfl
   |false =>
    rw[D6];congr 1;refine decide_eq_decide.2 ⟨λh=>.inr (S9 (by omega)),λh=>?_⟩;rcases h with h|h
    ·cases h
    ·rw[h];rfl
  rw[hb,A5];by_cases h2:T9 o.T t.In=true\/t.In=[]
  ·have ha:addL o.T t=o.T:=if_pos h2;have hn:=hv.num;rw[C9 h2,ha,if_neg (by omega)]
  ·have ha:addL o.T t=insT (bU o.T t) t:=if_neg h2
   rw[B5 h2,tdelete_eq (p:=λu=>decide (u.In <+: t.In)) (by omega) λx hx=>by
    unfold vL
    rw[sG _ _ ht.1,A5],A5]
   have a8:=JA o.T t;have hn:=hv.num;have a7:=EB (bU o.T t) t;rw[show(o.T.filter λx=>!decide (x.In <+: t.In))=bU o.T t from rfl,ha];by_cases h3:(bU o.T t).length=10000
   ·rw[C9,if_pos (by omega)]
   ·rw[B5,if_neg (by omega)];have a3:(bU o.T t).Sublist o.T:=xJ
    have a6:∀x∈bU o.T t,x.In≠t.In:=λx hx e=>by
     have:=(fK.1 hx).2;rw[e,D3 (eC _)]at this;exact W5 this
    obtain⟨k,b,e,k1,k2,k3⟩:=tsearch_eq (t:=t) (hv.pw.1.sublist a3) (by omega) λx hx=>(ho.2 x (a3.subset hx)).1;rw[e,A5,LD ht,A5];simp only;unfold GI;rw[F0 ⟨by omega,by omega,rfl,by omega⟩,A5,P0,<- insT_at k1 k2 k3 a6]
def observe_Add_eq{o:A6}{t:A8}(ho:SmTr o.T)(hv:I6 o)(ht:SmX t):uY o t=some (addO o t):=by
 have hl:=ho.1;unfold uY gI addO;rw[zy0 ho,A5,show fuel=2+(fuel-2) by unfold fuel;rfl]
 have h1:gI.s2 o [t] o.T 0=if dK t o.I≠0 then some (.inr (.inr (o,dK t o.I))) else if gZ o.T t then some (.inr (.inr (o,13))) else if 10000<(addL o.T t).length then some (.inr (.inr (o,11))) else some (.inl (addL o.T t,1)):=by
  unfold gI.s2;rw[C9 (by simp),C6 (x:=t) rfl,zxf _ _ ht.1 ht.2,A5];by_cases g1:dK t o.I=0
  ·rw[B5 (by simpa using g1),if_neg (by simpa using g1),observe_add_eq ho hv ht (zD.1 g1),A5];split
   ·rfl
   ·split
    ·rfl
    ·rfl
  ·rw[C9 g1,if_pos g1]
 have h2:∀l,gI.s2 o [t] l 1=some (.inr (.inl l)):=λl=>by
  unfold gI.s2;rw[B5 (by simp)]
 rw[cP 2 (fuel-2)];unfold iter;rw[h1];by_cases g1:dK t o.I≠0
 ·simp[g1]
 ·simp only[g1,if_false];by_cases g2:gZ o.T t
  ·simp[g2]
  ·simp only[g2,if_false];by_cases g3:10000<(addL o.T t).length
   ·simp[g3]
   ·simp only[g3,if_false];unfold iter;rw[h2];simp
def FN{t:A8}(h:SmX t):oR t=some t:=by
 have h1:=h.1;have h2:=h.2;unfold SmW at h1 h2;unfold oR;rw[gH _ (by simp) (by simp;omega),A5,gH _ (by simp) (by simp;omega),A5];simp
def dL(t x:A8):Bool:=decide (¬x.In <+: t.In\/t.In.length=x.In.length)
def dH(t:A8):Bool->List A8->List A8
 |done,[]=>if done=true then [] else [t]
 |done,x::r=>(if done=false/\cmpW t.In x.In=-1 then [t] else [])++((if dL t x=true then [x] else [])++dH t (done||decide (cmpW t.In x.In=-1)) r)
def DO{t:A8}:∀(l:List A8),dH t true l=l.filter (dL t)
 |[]=>rfl
 |x::r=>by
  unfold dH;rw[if_neg (by simp),nN,Bool.true_or,DO r];split<;>rfl
def passT_ins{t:A8}:∀(l:List A8),(∀x∈l,x.In≠t.In)->dH t false l=insT (bU l t) t
 |[],_=>rfl
 |x::r,hn=>by
  have hne:=hn x (by simp)
  have hk:dL t x=!decide (x.In <+: t.In):=by
   unfold dL;by_cases h:x.In <+: t.In
   ·rw[D3 h,N2];refine E2 λe=>?_;rcases e with e|e
    ·exact e h
    ·exact hne (h.eq_of_length (by omega))
   ·rw[E2 h,D3 (.inl h)];rfl
  have a2:∀l:List A8,(∀x∈l,x.In≠t.In)->l.filter (dL t)=bU l t:=λl hl=>by
   unfold bU;refine List.filter_congr λy hy=>?_;unfold dL;by_cases h:y.In <+: t.In
   ·rw[D3 h,N2];refine E2 λe=>?_;rcases e with e|e
    ·exact e h
    ·exact hl y hy (h.eq_of_length (by omega))
   ·rw[E2 h,D3 (.inl h)];rfl
  have hr:∀y∈r,y.In≠t.In:=λy hy=>hn y (by simp[hy]);unfold dH bU;rw[nN,hk];by_cases h:x.In <+: t.In
  ·have h1:¬cmpW t.In x.In=-1:=λe=>by
    have:=h.length_le;unfold cmpW at e;split at e
    ·omega
    ·split at e
     ·cases e
     ·have h2:=h.eq_of_length (by omega);exact hne h2
   rw[if_neg λe=>h1 e.2,D3 h,E2 h1,N2,if_neg W5,if_neg W5,BY];exact passT_ins r hr
  ·rw[E2 h,aG,if_pos rfl,if_pos rfl];unfold insT;by_cases h1:cmpW t.In x.In=-1
   ·rw[if_pos ⟨rfl,h1⟩,if_pos h1,D3 h1,BM,DO,a2 r hr];rfl
   ·rw[if_neg λe=>h1 e.2,if_neg h1,E2 h1,BY,passT_ins r hr];rfl
def keep_all{o:A6}{t:A8}(hv:I6 o)(h:T9 o.T t.In=true\/t.In=[]):o.T.filter (dL t)=o.T:=by
 refine xI.2 λx hx=>D3<|Q5 λhn=>?_;have h1:x.In <+: t.In:=Q5 λe=>hn (.inl e);have h2:¬t.In.length=x.In.length:=λe=>hn (.inr e);have hl:=h1.length_le;rcases h with h|h
 ·obtain⟨u,hu,hp⟩:=gQ.1 h;have hp:t.In <+: u.In:=of_decide_eq_true hp;have a2:=hp.length_le;obtain⟨i,hi,rfl⟩:=Q4.1 hx;obtain⟨j,hj,rfl⟩:=Q4.1 hu;rcases eE i j with e|e|e
  ·exact(hv.apart i j _ _ e (get_at hi) (get_at hj)).1 (h1.trans hp)
  ·subst e;omega
  ·have:=hv.asc j i _ _ e (get_at hj) (get_at hi);unfold cmpW at this;split at this
   ·omega
   ·split at this
    ·cases this
    ·omega
 ·rw[h]at h2 hl;simp at h2 hl;exact h2 (by rw[hl];rfl)
def R16_add_eq{o:A6}{t:A8}(ho:SmTr o.T)(hv:I6 o)(ht:SmX t):T4 o t=some ⟨o.I,addL o.T t⟩:=by
 have hl:=ho.1;unfold T4
 have key:=cW (step:=λ(s:Bool×Nat)=>T4.s2 o t s.1 s.2) (λs=>s.2<=o.T.length/\s.1=(decide (t.In=[])||T9 (o.T.take s.2) t.In)) (λs=>o.T.length-s.2) (λr=>r=(decide (t.In=[])||T9 o.T t.In)) (λ⟨b,i⟩ ⟨g1,g2⟩=>by
  simp only at g1 g2
  simp only[T4.s2]
  by_cases g4:i<o.T.length
  ·left
   have hx:=get_at g4
   have a4:=H9 g4
   have b2:T9 (o.T.take (i+1)) t.In=(T9 (o.T.take i) t.In||decide (t.In <+: o.T[i].In)):=by
    rw[L9 hx]
    unfold T9
    rw[CB]
    simp
   refine⟨(decide (t.In=[])||T9 (o.T.take (i+1)) t.In,i+1),?_,⟨g4,rfl⟩,by simp only;omega⟩
   rw[I8 hx,D2,b2,<- Bool.or_assoc,<- g2]
   cases b with
   |true=>rfl
   |false =>
    rw[D6,C6 hx,AT _ _ (ho.2 _ a4).1,A5]
    rfl
  ·right
   have e:i=o.T.length:=by omega
   subst e
   rw[M4]at g2
   exact⟨b,by rw[N7,D6],g2⟩) (decide ((t.In.length:Int)=0),0) ⟨F8 _,by
    simp only[GQ,T9,List.any_nil,BY]
    exact decide_eq_decide.2 ⟨λh=>S9 (by omega),λh=>by rw[h];rfl⟩⟩
 obtain⟨d0,e,rfl⟩:=key;rw[e,A5];generalize hd:(decide (t.In=[])||T9 o.T t.In)=d0
 have a9:=cW (step:=λ(s:List A8×Bool×Nat)=>T4.s10 o t s.1 s.2.1 s.2.2) (λs=>s.2.2<=o.T.length/\s.1.length<=2*s.2.2/\s.1++dH t s.2.1 (o.T.drop s.2.2)=dH t d0 o.T) (λs=>o.T.length-s.2.2) (λr=>r.1.length<=2400000/\r.1++dH t r.2 []=dH t d0 o.T) (λ⟨y,b,i⟩ ⟨g1,g2,g3⟩=>by
  simp only at g1 g2 g3
  simp only[T4.s10]
  by_cases g4:i<o.T.length
  ·left
   have hx:=get_at g4
   have a4:=H9 g4
   rw[cR g4]at g3
   rw[I8 hx,D2,C6 hx]
   have a3:((lT t.In o.T[i].In).bind λa2=>cond (!a2) (some true) (some (decide ((t.In.length:Int)=(↑(List.length o.T[i].In):Int)))):Option Bool)=some (dL t o.T[i]):=by
    unfold dL
    rw[AT _ _ ht.1,A5]
    by_cases h:o.T[i].In <+: t.In
    ·rw[D3 h,N2,D6]
     congr 1
     exact decide_eq_decide.2 ⟨λe=>.inr (by omega),λe=>by rcases e with e|e;exact absurd h e;omega⟩
    ·rw[E2 h,aG,D2,D3 (.inl h)]
   have a7:∀(z:List A8) (c:Bool),z.length<=2*i+1->T4.k9 t i o.T[i] z c=some (.inl (z++(if dL t o.T[i]=true then [o.T[i]] else []),c,i+1)):=λz c hz=>by
    unfold T4.k9
    rw[a3,A5]
    cases dL t o.T[i]with
    |true=>rw[D2,FN (ho.2 _ a4),A5,F0 (capT (by omega)),if_pos rfl]
    |false=>rw[D6,if_neg W5,S5]
   have a5:((cond (!b) ((gJ t.In o.T[i].In).bind λa6=>some (decide (a6<0))) (some false)):Option Bool)=some (decide (b=false/\cmpW t.In o.T[i].In=-1)):=by
    cases b with
    |true=>rfl
    |false =>
     have r1:=lO t.In o.T[i].In
     rw[aG,D2,AO _ _ ht.1,A5]
     congr 1
     exact decide_eq_decide.2 ⟨λe=>⟨rfl,by omega⟩,λe=>by have:=e.2;omega⟩
   rw[a5,A5]
   have b0:dH t b (o.T[i]::o.T.drop (i+1))=(if b=false/\cmpW t.In o.T[i].In=-1 then [t] else [])++((if dL t o.T[i]=true then [o.T[i]] else [])++dH t (b||decide (cmpW t.In o.T[i].In=-1)) (o.T.drop (i+1))):=rfl
   rw[b0]at g3
   by_cases hc:b=false/\cmpW t.In o.T[i].In=-1
   ·rw[if_pos hc,hc.1,cQ,D3 hc.2]at g3
    refine⟨(y++[t]++(if dL t o.T[i]=true then [o.T[i]] else []),true,i+1),?_,⟨g4,?_,?_⟩,by simp only;omega⟩
    ·rw[C9 hc,FN ht,A5,F0 (capT (by omega)),A5]
     exact a7 _ _ (by rw[D7,S6];omega)
    ·simp only[D7,S6]
     split<;>simp<;>omega
    ·simp only
     rw[<- g3]
     simp only[U8]
   ·rw[if_neg hc,Y9]at g3
    have hb:(b||decide (cmpW t.In o.T[i].In=-1))=b:=by
     cases b with
     |true=>rfl
     |false =>
      rw[cQ]
      exact E2 λe=>hc ⟨rfl,e⟩
    rw[hb]at g3
    refine⟨(y++(if dL t o.T[i]=true then [o.T[i]] else []),b,i+1),?_,⟨g4,?_,?_⟩,by simp only;omega⟩
    ·rw[B5 hc,A5]
     exact a7 y b (by omega)
    ·simp only[D7]
     split<;>simp<;>omega
    ·simp only
     rw[<- g3]
     simp only[U8]
  ·right
   have e:i=o.T.length:=by omega
   subst e
   rw[kV]at g3
   exact⟨(y,b),by rw[N7,D6],by simp only;omega,g3⟩) ([],d0,0) ⟨F8 _,by simp,by simp⟩
 obtain⟨⟨y,b⟩,e2,k1,k2⟩:=a9;simp only at k1 k2;rw[e2,A5]
 have a8:dH t d0 o.T=addL o.T t:=by
  unfold addL;by_cases h:T9 o.T t.In=true\/t.In=[]
  ·have h0:d0=true:=by
    rw[<- hd];rcases h with h|h
    ·rw[h,BM]
    ·rw[D3 h,Bool.true_or]
   rw[h0,DO,if_pos h,keep_all hv h]
  ·have h1:T9 o.T t.In=false:=by
    cases hi:T9 o.T t.In with
    |true=>exact absurd (.inl hi) h
    |false=>rfl
   have h0:d0=false:=by
    rw[<- hd,h1,E2 λe=>h (.inr e)];rfl
   rw[h0,passT_ins _ λx hx e=>h (.inl (gQ.2 ⟨x,hx,D3 (e ▸ eC _)⟩)),if_neg h]
 rw[a8]at k2;simp only[T4.k11];cases b with
 |true =>
  rw[N2,D6,A5,<- k2];simp[dH]
 |false =>
  rw[aG,D2,FN ht,A5,F0 (capT (by omega)),A5,<- k2];simp[dH]
def R16_Add_eq{o:A6}{t:A8}(ho:SmTr o.T)(hv:I6 o)(ht:SmX t):jO o t=some (addO o t):=by
 have hl:=ho.1;unfold jO addO;rw[R16_Proper_eq _ _ ht.1 ht.2,A5];by_cases g1:dK t o.I=0
 ·rw[B5 (by simpa using g1),if_neg (by simpa using g1)];have hp:=zD.1 g1
  have key:=cW (step:=λi=>jO.s2 o t i) (λi=>i<=o.T.length/\∀u∈o.T.take i,Agree u t) (λi=>o.T.length-i) (λr=>match r with|.inl ()=>¬gZ o.T t|.inr x=>gZ o.T t/\x=(o,13)) (λi ⟨g2,g3⟩=>by
   simp only[jO.s2]
   by_cases g4:i<o.T.length
   ·have hx:=get_at g4
    have a2:=H9 g4
    obtain⟨d,hd,a3⟩:=R16_Differ_iff o.T[i] t (hv.prop _ a2).1 hp (ho.2 _ a2).1
    rw[I8 hx,D2,C6 hx,hd,A5]
    by_cases g5:0<=d
    ·exact .inr ⟨.inr (o,13),by rw[C9 g5],⟨_,a2,a3.1 g5⟩,rfl⟩
    ·left
     have hA:Agree o.T[i] t:=Q5 λe=>g5 (a3.2 e)
     refine⟨i+1,by rw[B5 g5],⟨g4,λu hu=>?_⟩,by omega⟩
     rw[L9 hx]at hu
     rcases K0.1 hu with h|h
     ·exact g3 u h
     ·rw[K2.1 h]
      exact hA
   ·right
    have e:i=o.T.length:=by omega
    subst e
    rw[M4]at g3
    exact⟨.inl (),by rw[N7,D6],λ⟨u,hu,h⟩=>h (g3 u hu)⟩) 0 ⟨F8 _,λu hu=>by simp at hu⟩
  obtain⟨r,e,hq⟩:=key;rw[e,A5];cases r with
  |inr x =>
   rw[if_pos hq.1,hq.2];rfl
  |inl u =>
   rw[if_neg hq];simp only[aO];rw[R16_add_eq ho hv ht,A5];simp only;by_cases g2:10000<(addL o.T t).length
   ·rw[C9,if_pos g2]
   ·rw[B5,if_neg g2]
 ·rw[C9 g1,if_pos g1]
def iF{o:A6}(hv:I6 o){w r:A2}(h:ansO o w=some r):r.length=w.length:=by
 unfold ansO at h;split at h
 ·rename_i h0;injection h with h
  rw[<- h,h0]
 ·obtain⟨t,ht,rfl⟩:=eG.1 h;have hm:=dE ht;have hp:w <+: t.In:=by simpa using mE ht
  have:=(hv.prop t hm).1.2.1;have:=pre_len hp;rw[H6];omega
def rowO(o:A6)(w:A2):A3->Option (A3)
 |[]=>some []
 |e::S=>match ansO o (w++e) with
  |none=>none
  |some r=>(rowO o w S).map λl=>r.drop w.length::l
def rowO_drop{o:A6}{w:A2}{S:A3}{k:Nat}{e:A2}(h:S[k]?=some e):rowO o w (S.drop k)=match ansO o (w++e) with|none=>none|some r=>(rowO o w (S.drop (k+1))).map λl=>r.drop w.length::l:=by
 obtain⟨hk,rfl⟩:=G4.1 h;rw[cR hk];rfl
def FK{o:A6}{F:List A8}{t:B8}{w:A2}(ho:SmO o)(hv:I6 o)(hF:mI o F)(hS:SmL t.X)(hw:SmW w):fI F t w=some (tw (rowO o w t.X)):=by
 have a6:t.X.length<=2000000:=hS.1;have a5:w.length<=2000000:=hw;unfold fI
 have key:=V3 (step:=λ(s:A3×Nat)=>fI.s2 F t w s.1 s.2) (λs=>s.2<=t.X.length/\s.1.length=s.2/\rowO o w t.X=(rowO o w (t.X.drop s.2)).map (s.1++·)) (λs=>t.X.length-s.2)
  (λr=>Sum.elim (λ(a2:A3)=>some (a2,true)) some r=some (tw (rowO o w t.X))) (λs ⟨g1,g2,g3⟩=>by
   obtain⟨y,k⟩:=s
   simp only at g1 g2 g3
   simp only[fI.s2]
   by_cases g4:k<t.X.length
   ·have hx:=get_at g4
    have a4:SmW t.X[k]:=hS.2 _ (H9 _)
    have a7:t.X[k].length<=2000000:=a4
    rw[I8 hx,D2,C6 hx,iU _ (by simp) (by simp;omega),A5]
    simp only[V6,GW,S5]
    rw[KR ho hv hF,A5]
    rw[rowO_drop hx]at g3
    cases ha:ansO o (w++t.X[k]) with
    |none =>
     right
     rw[ha]at g3
     refine⟨.inr ([],false),rfl,?_⟩
     rw[g3]
     rfl
    |some r =>
     left
     rw[ha]at g3
     have a3:=iF hv ha
     rw[D7]at a3
     have hd:SmW (r.drop w.length):=by unfold SmW;rw[O5];omega
     refine⟨(y++[r.drop w.length],k+1),?_,⟨g4,by simp[g2],?_⟩,by simp only;omega⟩
     ·simp only[tw,N2,D6]
      rw[F0 (by omega),iR hd,A5,eN]
     ·rw[g3,GT]
      simp only
      congr 1
      funext l
      simp
   ·right
    have e:k=t.X.length:=by omega
    subst e
    refine⟨.inl y,by rw[B5],?_⟩
    rw[g3,kV]
    simp[rowO,tw]) fuel ([],0) ⟨F8 _,rfl,by simp⟩ (by have:=O9;simp only;omega)
 obtain⟨r,e,hq⟩:=key;rw[eN,e];exact hq
def EU{o:A6}{w e:A2}(ho:SmO o)(hv:I6 o)(hw:SmW w)(he:SmW e):lJ o w e=some (match ansO o (w++e) with|none=>([],false)|some r=>(r.drop w.length,true)):=by
 unfold lJ;rw[lR hw he,A5,sC ho hv,A5];cases ha:ansO o (w++e) with
 |none=>rfl
 |some r =>
  have a2:=iF hv ha;rw[D7]at a2;simp only[tw,N2,D6];rw[F0 (by omega)]
def oS{o:A6}{S:A3}{w:A2}(ho:SmO o)(hv:I6 o)(hS:SmL S)(hw:SmW w):bJ o S w=some (tw (rowO o w S)):=by
 have a4:S.length<=2000000:=hS.1;unfold bJ
 have key:=V3 (step:=λ(s:A3×Nat)=>bJ.s2 o S w s.1 s.2) (λs=>s.2<=S.length/\s.1.length=s.2/\rowO o w S=(rowO o w (S.drop s.2)).map (s.1++·)) (λs=>S.length-s.2)
  (λr=>Sum.elim (λ(a2:A3)=>some (a2,true)) some r=some (tw (rowO o w S))) (λs ⟨g1,g2,g3⟩=>by
   obtain⟨y,k⟩:=s
   simp only at g1 g2 g3
   simp only[bJ.s2]
   by_cases g4:k<S.length
   ·have hx:=get_at g4
    have a3:SmW S[k]:=hS.2 _ (H9 _)
    rw[I8 hx,D2,C6 hx,EU ho hv hw a3,A5]
    rw[rowO_drop hx]at g3
    cases ha:ansO o (w++S[k]) with
    |none =>
     right
     rw[ha]at g3
     refine⟨.inr ([],false),rfl,?_⟩
     rw[g3]
     rfl
    |some r =>
     left
     rw[ha]at g3
     refine⟨(y++[r.drop w.length],k+1),?_,⟨g4,by simp[g2],?_⟩,by simp only;omega⟩
     ·simp only[N2,D6]
      rw[eN]
     ·rw[g3,GT]
      simp only
      congr 1
      funext l
      simp
   ·right
    have e:k=S.length:=by omega
    subst e
    refine⟨.inl y,by rw[B5],?_⟩
    rw[g3,kV]
    simp[rowO,tw]) fuel ([],0) ⟨F8 _,rfl,by simp⟩ (by have:=O9;simp only;omega)
 obtain⟨r,e,hq⟩:=key;rw[e];exact hq
def chkT(t:B8)(o:A6):Int:=if M5 t≠0 then M5 t else if t.I≠o.I then 15 else 0
def FV{t:B8}{o:A6}(ht:SmT t):oZ t o=some (chkT t o):=by
 unfold oZ chkT;rw[KB t ht,A5];by_cases h:M5 t=0
 ·rw[B5 (by simpa using h),if_neg (by simpa using h)];by_cases h2:t.I=o.I<;>simp[h2]
 ·rw[C9 h,if_pos h]
def IZ{t:B8}{o:A6}(ht:SmT t):rH t o=some (chkT t o):=by
 unfold rH chkT;rw[rX t ht,A5];by_cases h:M5 t=0
 ·rw[B5 (by simpa using h),if_neg (by simpa using h)];by_cases h2:t.I=o.I<;>simp[h2]
 ·rw[C9 h,if_pos h]
def rowT(t:B8)(o:A6)(w:A2):A3×Bool:=if chkT t o≠0 then([],false) else tw (rowO o w t.X)
def table_Row_eq{t:B8}{o:A6}{w:A2}(ht:SmT t)(ho:SmO o)(hv:I6 o)(hw:SmW w):uB t o w=some (rowT t o w):=by
 obtain⟨F,a2,hF⟩:=FJ ho hv;unfold uB rowT;rw[FV ht,A5];by_cases h:chkT t o=0
 ·rw[B5 (by simpa using h),if_neg (by simpa using h),a2,A5,FK ho hv hF ht.2.2.1 hw,A5]
 ·rw[C9 h,if_pos h]
def R23_Row_eq{t:B8}{o:A6}{w:A2}(ht:SmT t)(ho:SmO o)(hv:I6 o)(hw:SmW w):jP t o w=some (rowT t o w):=by
 unfold jP rowT;rw[IZ ht,A5];by_cases h:chkT t o=0
 ·rw[B5 (by simpa using h),if_neg (by simpa using h),oS ho hv ht.2.2.1 hw,A5]
 ·rw[C9 h,if_pos h]
def sortW_ext{l m:A3}(h:∀x,x∈l↔x∈m):sortW l=sortW m:=oA (cC l) (cC m) λx=>by rw[aC,aC,h]
def maxR_ext{l m:A3}(h:∀x,x∈l↔x∈m):maxR l=maxR m:=by unfold maxR;rw[sortW_ext h]
def JW{l:A3}(hl:SmL l):bA l=some (maxR l):=by
 have hA:=cC l;have hs:=mT hl;have a5:(sortW l).length<=2000000:=hs.1;unfold bA maxR;rw[FO hl,A5]
 have a3:∀(i:Nat) (x:A2),(sortW l)[i]?=some x->iter (λ(s:Bool×Nat)=>bA.s13 (sortW l) i s.1 s.2) fuel (true,i+1)=some (topB (sortW l) x):=by
  intro i x hx;have hi:=(G4.1 hx).1;refine O4 (λs=>i+1<=s.2/\s.2<=(sortW l).length/\s.1=tailB x (((sortW l).take s.2).drop (i+1))) (λs=>(sortW l).length-s.2) (λs ⟨g1,g2,g3⟩=>?_) ⟨H4 _,by simp only;omega,by simp[tailB]⟩;obtain⟨b,k⟩:=s;simp only at g1 g2 g3;simp only[bA.s13];by_cases g4:k<(sortW l).length
  ·left;have hy:=get_at g4;have a2:=tailB_step (x:=x) g1 hy;rw[<- g3]at a2;refine⟨(tailB x (((sortW l).take (k+1)).drop (i+1)),k+1),?_,⟨by simp only;omega,by simp only;omega,rfl⟩,by simp only;omega⟩;rw[I8 hy,D2,a2];cases b with
   |false=>rfl
   |true =>
    rw[D2,C6 hy,C6 hx,Bool.true_and];by_cases g5:(sortW l)[k].length=x.length
    ·rw[C9,D3 (Or.inl g5)]
    ·rw[B5,C6 hy,C6 hx,AT _ _ (hs.2 _ (H9 _)),A5];by_cases g6:x <+: (sortW l)[k]
     ·rw[D3 g6,E2 (λh=>h.elim g5 λh=>h g6)];rfl
     ·rw[E2 g6,D3 (Or.inr g6)];rfl
  ·right;have e:k=(sortW l).length:=by omega
   subst e;rw[B5,g3,M4,top_eq hA hx]
 have key:=O4 (step:=λ(s:A3×Nat)=>bA.s14 (sortW l) s.1 s.2) (r:=(sortW l).filter (topB (sortW l))) (λs=>s.2<=(sortW l).length/\s.1=((sortW l).take s.2).filter (topB (sortW l))) (λs=>(sortW l).length-s.2) (λs ⟨g1,g2⟩=>by
  obtain⟨y,i⟩:=s
  simp only at g1 g2
  subst g2
  simp only[bA.s14]
  by_cases g4:i<(sortW l).length
  ·left
   have hx:=get_at g4
   have a2:=filter_step (p:=topB (sortW l)) hx
   have a4:=nR (topB (sortW l)) ((sortW l).take i)
   rw[H6]at a4
   refine⟨(((sortW l).take (i+1)).filter (topB (sortW l)),i+1),?_,⟨by simp only;omega,rfl⟩,by simp only;omega⟩
   rw[I8 hx,D2,a3 i _ hx,A5,a2]
   cases topB (sortW l) (sortW l)[i]with
   |true =>
    rw[D2,C6 hx,eN]
    rfl
   |false=>simp
  ·right
   have e:i=(sortW l).length:=by omega
   subst e
   rw[B5,M4]) (n:=fuel) (s:=([],0)) ⟨F8 _,by simp⟩
 rw[key,A5]
def LM{l:A3}(hl:SmL l):gN l=some (maxR l):=by
 have a4:l.length<=2000000:=hl.1;obtain⟨L,e1,h1,h2,h3⟩:=ordered_eq lexI_total (f:=λu0 u1=>jT u0 u1) hl λa ha b hb=>uZ a b (by have:SmW a:=hl.2 a ha;unfold SmW at this;omega);have a2:∀x∈L,SmW x:=λx hx=>hl.2 x ((h2 x).1 hx);unfold gN;rw[e1,A5]
 have key:=O4 (step:=λ(s:A3×Nat)=>gN.s2 L s.1 s.2) (r:=aH L) (λs=>s.2<=L.length/\s.1.length<=s.2/\aH L=s.1++aH (L.drop s.2)) (λs=>L.length-s.2) (λs ⟨g1,g2,g3⟩=>by
  obtain⟨y,i⟩:=s
  simp only at g1 g2 g3
  simp only[gN.s2]
  by_cases g4:i<L.length
  ·left
   have hx:=get_at g4
   rw[I8 hx,D2,C6 hx]
   by_cases g5:i+1=L.length
   ·rw[keepM_end hx g5]at g3
    refine⟨(y++[L[i]],i+1),?_,⟨by simp only;omega,by simp;omega,by simp only;rw[g3];simp⟩,by simp only;omega⟩
    rw[C9,A5,D2,eN]
   ·have hy:=get_at (l:=L) (i:=i+1) (by omega)
    rw[keepM_step hx hy]at g3
    rw[B5,C6 hy,sG _ _ (a2 _ (H9 _)),A5,A5]
    by_cases g6:L[i] <+: (L[i+1]'(by omega))
    ·rw[if_pos g6]at g3
     refine⟨(y,i+1),?_,⟨by simp only;omega,by simp only;omega,g3⟩,by simp only;omega⟩
     rw[D3 g6]
     rfl
    ·rw[if_neg g6]at g3
     refine⟨(y++[L[i]],i+1),?_,⟨by simp only;omega,by simp;omega,by simp only;rw[g3];simp⟩,by simp only;omega⟩
     rw[E2 g6,aG,D2,eN]
  ·right
   have e:i=L.length:=by omega
   subst e
   rw[kV]at g3
   rw[B5,g3]
   simp[aH]) (n:=fuel) (s:=([],0)) ⟨F8 _,by simp,by simp⟩
 have hk:=keepM_sub L;have a3:SmL (aH L):=⟨by have:=hk.length_le;omega,λx hx=>a2 x (hk.mem hx)⟩;rw[key,A5,zxl a3,A5,sortW_keepM h1 h2]
section
structure N0(m:B7):Prop where
 i1:1<=m.I
 i2:m.I<=64
 n1:0<m.N.length
 n2:m.N.length<=128
 st:0<=m.S/\m.S<(m.N.length:Int)
 ol:m.O.length=m.N.length
 row:∀s,s<m.N.length->∃x y,m.N[s]?=some x/\m.O[s]?=some y/\(x.length:Int)=m.I/\(y.length:Int)=m.I/\(∀u∈x,0<=u/\u<(m.N.length:Int))/\∀v∈y,0<=v/\v<=1048576
def nx(m:B7)(s a:Nat):Nat:=((((m.N[s]?).getD [])[a]?).getD 0).toNat
def ot(m:B7)(s a:Nat):Int:=(((m.O[s]?).getD [])[a]?).getD 0
section
variable {m:B7}
def N0.at(H:N0 m){s a:Nat}(hs:s<m.N.length)(ha:a<m.I.toNat):nx m s a<m.N.length/\0<=ot m s a/\ot m s a<=1048576/\∃x y,m.N[s]?=some x/\m.O[s]?=some y/\x[a]?=some (↑(nx m s a):Int)/\y[a]?=some (ot m s a):=by
 obtain⟨x,y,h1,h2,h3,h4,h5,h6⟩:=H.row s hs;have hx:=get_at (l:=x) (i:=a) (by omega);have hy:=get_at (l:=y) (i:=a) (by omega)
 have e1:nx m s a=(x[a]'(by omega)).toNat:=by
  unfold nx;rw[h1,Q3,hx,Q3]
 have e2:ot m s a=y[a]'(by omega):=by
  unfold ot;rw[h2,Q3,hy,Q3]
 have g1:=h5 _ (H9 (by omega:a<x.length));have g2:=h6 _ (H9 (by omega:a<y.length));refine⟨by rw[e1];omega,by rw[e2];exact g2.1,by rw[e2];exact g2.2,x,y,h1,h2,?_,by rw[e2];exact hy⟩;rw[hx,e1];congr 1;omega
def outs(m:B7):Nat->A2->A2
 |_,[]=>[]
 |s,a::w=>ot m s a.toNat::outs m (nx m s a.toNat) w
def dest(m:B7):Nat->A2->Nat
 |s,[]=>s
 |s,a::w=>dest m (nx m s a.toNat) w
def WOk(n:Int)(w:A2):Prop:=∀a∈w,0<=a/\a<n
def iL:∀(w v:A2) (s:Nat),outs m s (w++v)=outs m s w++outs m (dest m s w) v
 |[],_,_=>rfl
 |a::w,v,s=>by
  show ot m s a.toNat::outs m (nx m s a.toNat) (w++v)=_;rw[iL w v];rfl
def kG:∀(w v:A2) (s:Nat),dest m s (w++v)=dest m (dest m s w) v
 |[],_,_=>rfl
 |_::w,v,_=>kG w v _
def cX:∀(w:A2) (s:Nat),(outs m s w).length=w.length
 |[],_=>rfl
 |a::w,s=>by
  show(outs m (nx m s a.toNat) w).length+1=w.length+1;rw[cX w]
def WOk.tail{n a:Int}{w:A2}(h:WOk n (a::w)):WOk n w:=λx hx=>h x (K3 _ hx)
def WOk.head{n a:Int}{w:A2}(h:WOk n (a::w)):0<=a/\a<n:=h a (by simp)
def WOk.take{n:Int}{w:A2}(h:WOk n w)(k:Nat):WOk n (w.take k):=λx hx=>h x (Q1 hx)
def WOk.append{n:Int}{w v:A2}(h:WOk n w)(g:WOk n v):WOk n (w++v):=λx hx=>(K0.1 hx).elim (h x) (g x)
def N0.dest(H:N0 m):∀{w:A2} {s:Nat},WOk m.I w->s<m.N.length->dest m s w<m.N.length
 |[],_,_,hs=>hs
 |a::w,s,hw,hs=>by
  have:=hw.head;exact H.dest (w:=w) hw.tail (H.at hs (a:=a.toNat) (by omega)).1
def zI(H:N0 m){s:Nat}(hs:s<m.N.length){w:A2}(hw:WOk m.I w)(hl:w.length<=100000000):W2 m (s:Int) w=some (outs m s w,(↑(dest m s w):Int)):=by
 unfold W2
 have key:=O4 (step:=λ(q:Int×A2×Nat)=>W2.s2 m w q.1 q.2.1 q.2.2) (r:=((↑(dest m s w):Int),outs m s w)) (λq=>q.2.2<=w.length/\q.1=(↑(dest m s (w.take q.2.2)):Int)/\q.2.1=outs m s (w.take q.2.2)) (λq=>w.length-q.2.2) (λq ⟨g1,g2,g3⟩=>by
  obtain⟨st,y,k⟩:=q
  simp only at g1 g2 g3
  subst g2
  subst g3
  simp only[W2.s2]
  by_cases g4:k<w.length
  ·left
   have hx:=get_at g4
   obtain⟨x0,x1⟩:=hw _ (H9 g4)
   have ha:w[k].toNat<m.I.toNat:=by omega
   have hd:Sym.dest m s (w.take k)<m.N.length:=H.dest (hw.take k) hs
   obtain⟨_,_,_,x,y,e1,e2,e3,e4⟩:=H.at hd ha
   refine⟨((↑(Sym.dest m s (w.take (k+1))):Int),outs m s (w.take (k+1)),k+1),?_,⟨g4,rfl,rfl⟩,by simp only;omega⟩
   rw[I8 hx,D2,F9 rfl e2,C6 hx,F9 (i:=w[k].toNat) (by omega) e4,F0 (by unfold E5;rw[cX,H6];omega),F9 rfl e1,C6 hx,F9 (i:=w[k].toNat) (by omega) e3,L9 hx,kG,iL]
   rfl
  ·right
   have e:k=w.length:=by omega
   subst e
   rw[B5,M4]) (n:=fuel) (s:=((s:Int),[],0)) ⟨F8 _,rfl,rfl⟩
 rw[key,A5];rfl
def RowRng(n:Nat)(u v:Int):Prop:=(0<=u/\u<(n:Int))/\0<=v/\v<=1048576
def R06_row_tot(h1:m.I<=64){s:Nat}(hs:s<m.N.length)(ho:m.O.length=m.N.length):∃e,aU m (s:Int)=some e/\(e=0->∃x y,m.N[s]?=some x/\m.O[s]?=some y/\(x.length:Int)=m.I/\(y.length:Int)=m.I/\(∀u∈x,0<=u/\u<(m.N.length:Int))/\∀v∈y,0<=v/\v<=1048576):=by
 obtain⟨x,hx⟩:∃x,m.N[s]?=some x:=⟨_,get_at hs⟩;obtain⟨y,hy⟩:∃y,m.O[s]?=some y:=⟨_,get_at (l:=m.O) (i:=s) (by omega)⟩;unfold aU;rw[F9 rfl hx];by_cases g1:(x.length:Int)=m.I
 ·by_cases g2:(y.length:Int)=m.I
  ·rw[B5 (λh=>h g1),F9 rfl hy,E2 (λh=>h g2),A5,D6]
   obtain⟨r,hr,hq⟩:=cW (step:=λa=>aU.s2 m (s:Int) a) (λa=>a<=x.length/\∀b u v,b<a->x[b]?=some u->y[b]?=some v->RowRng m.N.length u v) (λa=>x.length-a) (λr=>r=.inr 2\/(r=.inl ()/\∀b u v,b<x.length->x[b]?=some u->y[b]?=some v->RowRng m.N.length u v)) (λa ⟨q1,q2⟩=>by
    simp only[aU.s2]
    by_cases q3:a<x.length
    ·obtain⟨u,ha⟩:∃u,x[a]?=some u:=⟨_,get_at q3⟩
     obtain⟨v,hb⟩:∃v,y[a]?=some v:=⟨_,get_at (l:=y) (i:=a) (by omega)⟩
     rw[C9,F9 rfl hx,C6 ha]
     by_cases z1:u<0
     ·right
      exact⟨.inr 2,by rw[D3 z1];rfl,Or.inl rfl⟩
     rw[B5 z1,F9 rfl hx,C6 ha]
     by_cases z2:(m.N.length:Int)<=u
     ·right
      exact⟨.inr 2,by rw[D3 z2];rfl,Or.inl rfl⟩
     rw[B5 z2,F9 rfl hy,C6 hb]
     by_cases z3:v<0
     ·right
      exact⟨.inr 2,by rw[D3 z3];rfl,Or.inl rfl⟩
     rw[B5 z3,F9 rfl hy,C6 hb]
     by_cases z4:1048576<v
     ·right
      exact⟨.inr 2,by rw[D3 z4];rfl,Or.inl rfl⟩
     left
     refine⟨a+1,by rw[E2 z4,A5,D6,K1],⟨q3,λb u' v' a2 hu hv=>?_⟩,by omega⟩
     rcases L8 b a with h|h
     ·exact q2 b u' v' h hu hv
     ·have e:b=a:=by omega
      subst e
      rw[ha]at hu
      rw[hb]at hv
      injection hu with hu
      injection hv with hv
      subst hu
      subst hv
      exact⟨⟨by omega,by omega⟩,by omega,by omega⟩
    ·right
     have e:a=x.length:=by omega
     subst e
     exact⟨.inl (),by rw[B5],Or.inr ⟨rfl,q2⟩⟩) 0 ⟨F8 _,λb _ _ h=>absurd h (CC _)⟩
   rw[hr,A5];rcases hq with rfl|⟨rfl,hq⟩
   ·exact⟨2,rfl,λh=>by cases h⟩
   ·refine⟨0,rfl,λ_=>⟨x,y,hx,hy,g1,g2,λu hu=>?_,λv hv=>?_⟩⟩
    ·obtain⟨b,hb,rfl⟩:=Q4.1 hu;exact(hq b _ _ hb (get_at hb) (get_at (l:=y) (by omega))).1
    ·obtain⟨b,hb,rfl⟩:=Q4.1 hv;exact(hq b _ _ (by omega) (get_at (l:=x) (by omega)) (get_at hb)).2
  ·exact⟨1,by rw[B5 (λh=>h g1),F9 rfl hy,D3 g2];rfl,λh=>by cases h⟩
 ·exact⟨1,by rw[D3 g1];rfl,λh=>by cases h⟩
def R06_Valid_tot(m:B7):∃e,S4 m=some e/\(e=0->N0 m):=by
 unfold S4;by_cases c1:m.I<1
 ·exact⟨2,by rw[D3 c1];rfl,λh=>by cases h⟩
 rw[B5 c1];by_cases c2:64<m.I
 ·exact⟨2,by rw[D3 c2];rfl,λh=>by cases h⟩
 rw[E2 c2,A5,D6];by_cases c3:(m.N.length:Int)=0
 ·exact⟨19,by rw[D3 c3];rfl,λh=>by cases h⟩
 rw[B5 c3];by_cases c4:128<(m.N.length:Int)
 ·exact⟨11,by rw[D3 c4];rfl,λh=>by cases h⟩
 rw[B5 c4];by_cases c5:m.S<0
 ·exact⟨2,by rw[D3 c5];rfl,λh=>by cases h⟩
 rw[B5 c5];by_cases c6:(m.N.length:Int)<=m.S
 ·exact⟨2,by rw[D3 c6];rfl,λh=>by cases h⟩
 rw[E2 c6,A5,D6];by_cases c7:(m.O.length:Int)=(m.N.length:Int)
 ·rw[B5 (λh=>h c7)];have ho:m.O.length=m.N.length:=by omega
  obtain⟨r,hr,hq⟩:=cW (step:=λs=>S4.s2 m s) (λa=>a<=m.N.length/\∀s,s<a->∃x y,m.N[s]?=some x/\m.O[s]?=some y/\(x.length:Int)=m.I/\(y.length:Int)=m.I/\(∀u∈x,0<=u/\u<(m.N.length:Int))/\∀v∈y,0<=v/\v<=1048576) (λa=>m.N.length-a) (λr=>(∃e,r=.inr e/\e≠0)\/(r=.inl ()/\∀s,s<m.N.length->∃x y,m.N[s]?=some x/\m.O[s]?=some y/\(x.length:Int)=m.I/\(y.length:Int)=m.I/\(∀u∈x,0<=u/\u<(m.N.length:Int))/\∀v∈y,0<=v/\v<=1048576)) (λa ⟨q1,q2⟩=>by
   simp only[S4.s2]
   by_cases q3:a<m.N.length
   ·obtain⟨e,he,hz⟩:=R06_row_tot (m:=m) (by omega) q3 ho
    rw[C9,he,A5]
    by_cases z:e=0
    ·left
     refine⟨a+1,by rw[B5 (λh=>h z)],⟨q3,λs hs=>?_⟩,by omega⟩
     rcases L8 s a with h|h
     ·exact q2 s h
     ·have e2:s=a:=by omega
      subst e2
      exact hz z
    ·right
     exact⟨.inr e,by rw[C9 z],Or.inl ⟨e,rfl,z⟩⟩
   ·right
    have e:a=m.N.length:=by omega
    subst e
    exact⟨.inl (),by rw[B5],Or.inr ⟨rfl,q2⟩⟩) 0 ⟨F8 _,λs h=>absurd h (CC _)⟩
  rw[hr,A5];rcases hq with⟨e,rfl,hz⟩|⟨rfl,hq⟩
  ·exact⟨e,rfl,λh=>absurd h hz⟩
  ·exact⟨0,rfl,λ_=>⟨by omega,by omega,by omega,by omega,⟨by omega,by omega⟩,ho,hq⟩⟩
 ·exact⟨1,by rw[D3 c7];rfl,λh=>by cases h⟩
def macOk_of(h:S4 m=some 0):N0 m:=by
 obtain⟨e,he,hz⟩:=R06_Valid_tot m;rw[h]at he;injection he with he
 exact hz he.symm
end
end
section
abbrev costOk(l:JJ):Prop:=(∀c∈l.Step,0<=c/\c<=1048576)/\0<=l.Reset/\l.Reset<=1048576
abbrev cntOk(n:Int):Prop:=0<=n/\n<=1125899906842624
abbrev faultOk(f:JF):Prop:=(0<=f.Lost/\f.Lost<=10000)/\(0<=f.Wrong/\f.Wrong<=10000)/\(0<=f.Crash/\f.Crash<=10000)/\f.Lost+f.Wrong+f.Crash<=10000
structure DevOk(d:nC):Prop where
 v6:S4 d.M=some 0
 st:0<=d.State/\d.State<(d.M.N.length:Int)
 ll:(d.Latency.Step.length:Int)=d.M.I
 lc:costOk d.Latency
 fl:faultOk d.Faults
 c1:cntOk d.Steps
 c2:cntOk d.Resets
 c3:cntOk d.Time
section
variable {d:nC}
end
end
def WrdOk(w:A2):Prop:=w.length<=100000/\∀x∈w,inR x
def Few(need:Int)(l:A3):Prop:=∀w,(↑(l.count w):Int)<need
section
abbrev SeedOk(d:nC):Prop:=0<=d.Seed/\d.Seed<18446744073709551616
section
variable {d:nC}{w ys:A2}
end
end
end Go.Proofs.YtjmcbfbjajlbhaaGreatDoor.Sym

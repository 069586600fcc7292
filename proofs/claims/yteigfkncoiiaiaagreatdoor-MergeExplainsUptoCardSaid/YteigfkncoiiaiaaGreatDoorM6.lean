/-
  The contracts of the functions, read from the code by a program (ext.py): each function has its plain twin as its contract.
-/
import Derived.Test.YteigfkncoiiaiaaGreatDoorM5
set_option linter.all false
namespace Go.Proofs.YteigfkncoiiaiaaGreatDoor.Sym
open Go.RowKit
set_option maxRecDepth 100000
set_option linter.unusedVariables false
set_option maxHeartbeats 4000000
theorem zf5 (p_:zaa) (s_:Int) (t_:Int) (r:zaa×List Int×Bool) (h:Ok (.agg (zak p_))→Ok (nI s_)→Ok (nI t_)→zac p_ s_ t_=some r):Sp Tryz.prog 34 [.im (.agg (zak p_)),.im (nI s_),.im (nI t_)] (.tup [.agg (zak r.1),nL cI r.2.1,nB r.2.2]):=by
 refine sp_of rfl [35,47,63,73000,79000,94000,202000,209000,229000,700003,2073000,2079000,2094000,2202000,2209000,2229000,8000072,8000078,8000093,8000201,8000208,8000228,9000042,9000054] rfl rfl rfl (Nat.le_of_ble_eq_true rfl) rfl fun hk=>?_
 replace h:=h hk.1 hk.2.1 hk.2.2.1
 have z1:lZ p_.Next:=ok_len (Ok.agg_at hk.1 2 rfl)
 have z2:lZ p_.Out:=ok_len (Ok.agg_at hk.1 3 rfl)
 unfold zac at h
 conv=>whnf
 refine Side.mk rfl ?_
 conv=>whnf
 refine Nf.mk (List.length p_.Next) len_map ?_
 conv=>whnf
 obtain ⟨⟨y77,y78⟩,hc,hk51⟩:=bind_some h
 clear h
 have h:=hc
 clear hc
 refine Cut.mk (mkSt [(1,.im (nI s_)),(2,.im (nI t_)),(3,.im (.ref (zak p_))),(6,.own 235 1 0),(9,.own 236 1 0)] [(235,.box 24 4),(236,.box 24 4),(237,.grid 25 3 1 (List.map (cL cI) y77) none),(238,.grid 25 3 1 (List.map (cL cI) y78) none)] [(235,0,.im (nI 0)),(235,1,.im (nI 0)),(235,2,.im (.val (.slice none 0 0))),(235,3,.im (.val (.slice none 0 0))),(236,0,.im (nI p_.Inputs)),(236,1,.im (nI 0)),(236,2,.osl 237 1),(236,3,.osl 238 1)]) (lZ y77∧lZ y78∧True) ((Holds.kdg 237 rfl).and ((Holds.kdg 238 rfl).and (hT))) ?_ (fun hp=>?_)
 conv=>whnf
 refine Loops.iter (fun (s:List (List Int)×List (List Int)×Nat)=>zac.s2 p_ s.1 s.2.1 s.2.2) (fun (y84,y85,y86)=>mkSt [(1,.im (nI s_)),(2,.im (nI t_)),(3,.im (.ref (zak p_))),(6,.own 235 1 0),(9,.own 236 1 0),(29,.im (nI (↑(List.length p_.Next):Int))),(30,.im (nI (↑y86:Int)))] [(235,.box 24 4),(236,.box 24 4),(237,.grid 25 3 1 (List.map (cL cI) y84) none),(238,.grid 25 3 1 (List.map (cL cI) y85) none)] [(235,0,.im (nI 0)),(235,1,.im (nI 0)),(235,2,.im (.val (.slice none 0 0))),(235,3,.im (.val (.slice none 0 0))),(236,0,.im (nI p_.Inputs)),(236,1,.im (nI 0)),(236,2,.osl 237 1),(236,3,.osl 238 1)]) (fun (y84,y85,y86)=>lZ y84∧lZ y85∧True) h (Ent.mk [(235,some 6),(236,some 9),(237,none),(238,none)] rfl ⟨eI rfl rfl,eI rfl rfl,eI rfl rfl,⟨.own 6 _ 0,rfl,.own rfl rfl rfl⟩,⟨.own 9 _ 0,rfl,.own rfl rfl rfl⟩,eI rfl rfl,eI rfl rfl,trivial⟩ ⟨.inl ⟨6,rfl,rfl,trivial⟩,.inl ⟨9,rfl,rfl,trivial⟩,.inr ⟨rfl,rfl,.inr (.inl ⟨_,_,_,rfl⟩)⟩,.inr ⟨rfl,rfl,.inr (.inl ⟨_,_,_,rfl⟩)⟩,trivial⟩ ⟨⟨6,.im _,rfl,rfl,.im (Sub.rfl' rfl)⟩,⟨6,.im _,rfl,rfl,.im (Sub.rfl' rfl)⟩,⟨6,.im (.val (.slice none 0 0)),rfl,rfl,.im (Sub.rfl' rfl)⟩,⟨6,.im (.val (.slice none 0 0)),rfl,rfl,.im (Sub.rfl' rfl)⟩,⟨9,.im _,rfl,rfl,.im (Sub.rfl' rfl)⟩,⟨9,.im _,rfl,rfl,.im (Sub.rfl' rfl)⟩,⟨9,.im (.val (.slice none 0 0)),rfl,rfl,.made rfl rfl⟩,⟨9,.im (.val (.slice none 0 0)),rfl,rfl,.made rfl rfl⟩,trivial⟩) (by rintro ⟨y84,y85,y86⟩;exact ((Holds.kdg 237 rfl).and ((Holds.kdg 238 rfl).and (hT)))) ?_
 clear h
 rintro k ⟨y84,y85,y86⟩ o hp h ho94
 replace h:zac.s2 p_ y84 y85 y86=some o:=h
 unfold zac.s2 at h
 obtain ⟨z102,z103,_⟩:=hp
 conv=>whnf
 refine Both.mk ?_ ?_<;>intro b95
 obtain ⟨h,b95d⟩:=ctd b95 h
 conv=>whnf
 refine Side.mk rfl ?_
 conv=>whnf
 refine Side.mk rfl ?_
 conv=>whnf
 obtain ⟨e96,he96,h⟩:=zab h
 refine ⟨_,⟨(by omega),map_at he96,rfl⟩,?_⟩
 conv=>whnf
 obtain ⟨c97,h⟩:=chk_some h
 refine Side.mk ⟨rfl,map_len (l:=e96) (c:=cI) fun _=>rfl,show capOk _ 8 by simpa only [List.length_map,List.length_cons,List.length_nil,Nat.zero_add] using c97⟩ ?_
 conv=>whnf
 refine Nf.mk (List.map cI ([]++e96)) (app_map (l:=[]) (m:=e96) (c:=cI)) ?_
 conv=>whnf
 refine Side.mk ⟨rfl,trivial⟩ ?_
 conv=>whnf
 refine Nf.mk (List.map (cL cI) [([]++e96)]) rfl ?_
 conv=>whnf
 obtain ⟨c98,h⟩:=chk_some h
 refine Side.mk ⟨rfl,rfl,trivial⟩ ?_
 conv=>whnf
 refine Side.mk (show capOk _ 24 by have hh_:=c98;simpa only [List.length_map] using hh_) ?_
 conv=>whnf
 refine Nf.mk (List.map (cL cI) (y84++[([]++e96)])) (app_map (l:=y84) (m:=[([]++e96)]) (c:=cL cI)) ?_
 conv=>whnf
 refine Side.mk rfl ?_
 conv=>whnf
 refine Side.mk rfl ?_
 conv=>whnf
 refine Side.mk rfl ?_
 conv=>whnf
 refine Side.mk rfl ?_
 conv=>whnf
 obtain ⟨e99,he99,h⟩:=zab h
 refine ⟨_,⟨(by omega),map_at he99,rfl⟩,?_⟩
 conv=>whnf
 obtain ⟨c100,h⟩:=chk_some h
 refine Side.mk ⟨rfl,map_len (l:=e99) (c:=cI) fun _=>rfl,show capOk _ 8 by simpa only [List.length_map,List.length_cons,List.length_nil,Nat.zero_add] using c100⟩ ?_
 conv=>whnf
 refine Nf.mk (List.map cI ([]++e99)) (app_map (l:=[]) (m:=e99) (c:=cI)) ?_
 conv=>whnf
 refine Side.mk ⟨rfl,trivial⟩ ?_
 conv=>whnf
 refine Nf.mk (List.map (cL cI) [([]++e99)]) rfl ?_
 conv=>whnf
 obtain ⟨c101,h⟩:=chk_some h
 refine Side.mk ⟨rfl,rfl,trivial⟩ ?_
 conv=>whnf
 refine Side.mk (show capOk _ 24 by have hh_:=c101;simpa only [List.length_map] using hh_) ?_
 conv=>whnf
 refine Nf.mk (List.map (cL cI) (y85++[([]++e99)])) (app_map (l:=y85) (m:=[([]++e99)]) (c:=cL cI)) ?_
 conv=>whnf
 refine Side.mk rfl ?_
 conv=>whnf
 refine Side.mk rfl ?_
 conv=>whnf
 refine Arith.mk (by show inR _;unfold inR;omega) ?_
 conv=>whnf
 cases h
 exact Nxt.mk _ ho94 (eA [(235,some 235),(236,some 236),(237,some 43),(238,some 55)])
 obtain ⟨h,b95d⟩:=cfd b95 h
 conv=>whnf
 cases h
 have ho94:_=_:=ho94
 cases ho94
 exact Join.mk (eA [(235,some 235),(236,some 236),(237,some 237),(238,some 238)])
 replace h:zac.k71 p_ s_ t_ y77 y78=some _:=hk51
 unfold zac.k71 at h
 obtain ⟨z104,z105,_⟩:=hp
 conv=>whnf
 refine Side.mk rfl ?_
 conv=>whnf
 obtain ⟨oc,hc,hk106⟩:=bind_some h
 clear h
 have h:=hc
 clear hc
 refine Cut.mkS oc (Y:=List (List Int)×List (List Int)×(List (Int×Int))) (fun (y1156,y1157,y1158)=>mkSt [(3,.im (.ref (zak p_))),(6,.own 235 1 0),(9,.own 236 1 0),(11,.own 239 1 0)] [(235,.box 24 4),(236,.box 24 4),(237,.grid 25 3 1 (List.map (cL cI) y1156) none),(238,.grid 25 3 1 (List.map (cL cI) y1157) none),(239,.box 104 1),(240,.map (mapV wI wI y1158))] [(235,0,.im (nI 0)),(235,1,.im (nI 0)),(235,2,.im (.val (.slice none 0 0))),(235,3,.im (.val (.slice none 0 0))),(236,0,.im (nI p_.Inputs)),(236,1,.im (nI 0)),(236,2,.osl 237 1),(236,3,.osl 238 1),(239,0,.osl 240 1)]) (fun (y1156,y1157,y1158)=>lZ y1156∧lZ y1157∧True) (by rintro ⟨y1156,y1157,y1158⟩;exact ((Holds.kdg 237 rfl).and ((Holds.kdg 238 rfl).and (hT)))) ?_ ?_
 conv=>whnf
 refine Loops.iter (fun (s:List (List Int)×List (List Int)×(List (Int×Int))×List T_A2)=>zac.s46 s.1 s.2.1 s.2.2.1 s.2.2.2) (fun (y1506,y1507,y1508,y1509)=>mkSt [(3,.im (.ref (zak p_))),(6,.own 235 1 0),(9,.own 236 1 0),(11,.own 239 1 0),(12,.osl 241 1)] [(235,.box 24 4),(236,.box 24 4),(237,.grid 25 3 1 (List.map (cL cI) y1506) none),(238,.grid 25 3 1 (List.map (cL cI) y1507) none),(239,.box 104 1),(240,.map (mapV wI wI y1508)),(241,.que 105 2 (List.map c_A2 y1509))] [(235,0,.im (nI 0)),(235,1,.im (nI 0)),(235,2,.im (.val (.slice none 0 0))),(235,3,.im (.val (.slice none 0 0))),(236,0,.im (nI p_.Inputs)),(236,1,.im (nI 0)),(236,2,.osl 237 1),(236,3,.osl 238 1),(239,0,.osl 240 1)]) (fun (y1506,y1507,y1508,y1509)=>lZ y1506∧lZ y1507∧lZ y1509∧True) h ((Ent.que 63 rfl).trans (eA [(235,some 235),(236,some 236),(237,some 237),(238,some 238),(239,some 11),(240,some 58),(241,some 63)])) (by rintro ⟨y1506,y1507,y1508,y1509⟩;exact ((Holds.kdg 237 rfl).and ((Holds.kdg 238 rfl).and ((Holds.kdql 241 rfl).and (hT))))) ?_
 clear h
 rintro k ⟨y1506,y1507,y1508,y1509⟩ o hp h ho1857
 replace h:zac.s46 y1506 y1507 y1508 y1509=some o:=h
 unfold zac.s46 at h
 obtain ⟨z2205,z2206,z2207,_⟩:=hp
 conv=>whnf
 refine Side.mk rfl ?_
 conv=>whnf
 refine Nf.mk (List.length y1509) len_map ?_
 conv=>whnf
 refine Both.mk ?_ ?_<;>intro b1858
 obtain ⟨h,b1858d⟩:=ctd b1858 h
 conv=>whnf
 obtain ⟨oc,hc,hk1859⟩:=bind_some h
 clear h
 have h:=hc
 clear hc
 refine Cut.mkS oc (Y:=List (List Int)×List (List Int)×(List (Int×Int))×List T_A2) (fun (y2029,y2030,y2031,y2032)=>mkSt [(3,.im (.ref (zak p_))),(6,.own 235 1 0),(9,.own 236 1 0),(11,.own 239 1 0),(12,.osl 241 1)] [(235,.box 24 4),(236,.box 24 4),(237,.grid 25 3 1 (List.map (cL cI) y2029) none),(238,.grid 25 3 1 (List.map (cL cI) y2030) none),(239,.box 104 1),(240,.map (mapV wI wI y2031)),(241,.que 105 2 (List.map c_A2 y2032))] [(235,0,.im (nI 0)),(235,1,.im (nI 0)),(235,2,.im (.val (.slice none 0 0))),(235,3,.im (.val (.slice none 0 0))),(236,0,.im (nI p_.Inputs)),(236,1,.im (nI 0)),(236,2,.osl 237 1),(236,3,.osl 238 1),(239,0,.osl 240 1)]) (fun (y2029,y2030,y2031,y2032)=>lZ y2029∧lZ y2030∧lZ y2032∧True) (by rintro ⟨y2029,y2030,y2031,y2032⟩;exact ((Holds.kdg 237 rfl).and ((Holds.kdg 238 rfl).and ((Holds.kdql 241 rfl).and (hT))))) ?_ ?_
 conv=>whnf
 refine Side.mk rfl ?_
 conv=>whnf
 obtain ⟨e2033,he2033,h⟩:=zab h
 refine Side.mk ⟨(by omega),rfl,map_lt he2033⟩ ?_
 conv=>whnf
 refine Side.mk ⟨by decide,by decide,rfl⟩ ?_
 conv=>whnf
 refine ⟨_,_,⟨rfl,map_at he2033,rfl,rfl⟩,?_⟩
 conv=>whnf
 refine Side.mk ⟨rfl,trivial⟩ ?_
 conv=>whnf
 obtain ⟨c2034,hc2034,h⟩:=bind_some h
 refine ⟨_,(zb2 (⟨y1508⟩:zaq) e2033.f0 c2034 (fun _ _=>hc2034)),?_⟩
 conv=>whnf
 refine Side.mk rfl ?_
 conv=>whnf
 obtain ⟨e2035,he2035,h⟩:=zab h
 refine Side.mk ⟨(by omega),rfl,map_lt he2035⟩ ?_
 conv=>whnf
 refine Side.mk ⟨by decide,by decide,rfl⟩ ?_
 conv=>whnf
 refine ⟨_,_,⟨rfl,map_at he2035,rfl,rfl⟩,?_⟩
 conv=>whnf
 refine Side.mk ⟨rfl,trivial⟩ ?_
 conv=>whnf
 obtain ⟨c2036,hc2036,h⟩:=bind_some h
 refine ⟨_,(zb2 (⟨c2034.2⟩:zaq) e2035.f1 c2036 (fun _ _=>hc2036)),?_⟩
 conv=>whnf
 obtain ⟨c2037,h⟩:=chk_some h
 refine Side.mk ⟨rfl,by decide,by have hh_:=c2037;simp only [List.length_map];exact hh_⟩ ?_
 conv=>whnf
 refine Nf.mk (List.map c_A2 (List.drop 1 y1509)) List.map_drop ?_
 conv=>whnf
 refine Both.mk ?_ ?_<;>intro b2038
 obtain ⟨h,b2038d⟩:=ctd b2038 h
 conv=>whnf
 cases h
 exact JoinS.mk' _ rfl (eA [(235,some 235),(236,some 236),(237,some 237),(238,some 238),(239,some 239),(240,some 240),(241,some 241)])
 obtain ⟨h,b2038d⟩:=cfd b2038 h
 conv=>whnf
 refine Side.mk rfl ?_
 conv=>whnf
 refine Side.mk ⟨rfl,trivial⟩ ?_
 conv=>whnf
 obtain ⟨c2039,hc2039,h⟩:=bind_some h
 refine ⟨_,(zfi (⟨c2036.2⟩:zaq) (min c2034.1 c2036.1) (max c2034.1 c2036.1) c2039 (fun _ _ _=>hc2039)),?_⟩
 conv=>whnf
 refine Side.mk rfl ?_
 conv=>whnf
 refine Side.mk rfl ?_
 conv=>whnf
 obtain ⟨e2040,he2040z,he2040,h⟩:=idx_some h
 refine Side.mk ⟨he2040z,rfl,map_lt he2040⟩ ?_
 conv=>whnf
 refine Side.mk ⟨rfl,map_lt he2040⟩ ?_
 conv=>whnf
 refine ⟨_,⟨rfl,map_at he2040⟩,?_⟩
 conv=>whnf
 refine Nf.mk (List.length e2040) len_map ?_
 conv=>whnf
 obtain ⟨oc,hc,hk2041⟩:=bind_some h
 clear h
 have h:=hc
 clear hc
 refine Cut.mkS oc (Y:=List (List Int)×List (List Int)×List T_A2) (fun (y2119,y2120,y2121)=>mkSt [(3,.im (.ref (zak p_))),(6,.own 235 1 0),(9,.own 236 1 0),(11,.own 239 1 0),(12,.osl 241 1)] [(235,.box 24 4),(236,.box 24 4),(237,.grid 25 3 1 (List.map (cL cI) y2119) none),(238,.grid 25 3 1 (List.map (cL cI) y2120) none),(239,.box 104 1),(240,.map (mapV wI wI c2039)),(241,.que 105 2 (List.map c_A2 y2121))] [(235,0,.im (nI 0)),(235,1,.im (nI 0)),(235,2,.im (.val (.slice none 0 0))),(235,3,.im (.val (.slice none 0 0))),(236,0,.im (nI p_.Inputs)),(236,1,.im (nI 0)),(236,2,.osl 237 1),(236,3,.osl 238 1),(239,0,.osl 240 1)]) (fun (y2119,y2120,y2121)=>lZ y2119∧lZ y2120∧lZ y2121∧True) (by rintro ⟨y2119,y2120,y2121⟩;exact ((Holds.kdg 237 rfl).and ((Holds.kdg 238 rfl).and ((Holds.kdql 241 rfl).and (hT))))) ?_ ?_
 conv=>whnf
 refine Loops.iter (fun (s:List (List Int)×List (List Int)×List T_A2×Nat)=>zac.s43 c2034 c2036 e2040 s.1 s.2.1 s.2.2.1 s.2.2.2) (fun (y2143,y2144,y2145,y2146)=>mkSt [(3,.im (.ref (zak p_))),(6,.own 235 1 0),(9,.own 236 1 0),(11,.own 239 1 0),(12,.osl 241 1),(13,.im (nI (min c2034.1 c2036.1))),(14,.im (nI (max c2034.1 c2036.1))),(98,.sub 237 0 (Int.toNat (max c2034.1 c2036.1))),(99,.im (nI (↑(List.length e2040):Int))),(100,.im (nI (↑y2146:Int)))] [(235,.box 24 4),(236,.box 24 4),(237,.grid 25 3 1 (List.map (cL cI) y2143) none),(238,.grid 25 3 1 (List.map (cL cI) y2144) none),(239,.box 104 1),(240,.map (mapV wI wI c2039)),(241,.que 105 2 (List.map c_A2 y2145))] [(235,0,.im (nI 0)),(235,1,.im (nI 0)),(235,2,.im (.val (.slice none 0 0))),(235,3,.im (.val (.slice none 0 0))),(236,0,.im (nI p_.Inputs)),(236,1,.im (nI 0)),(236,2,.osl 237 1),(236,3,.osl 238 1),(239,0,.osl 240 1)]) (fun (y2143,y2144,y2145,y2146)=>lZ y2143∧lZ y2144∧lZ y2145∧True) h (Ent.mk [(235,some 235),(236,some 236),(237,some 237),(238,some 238),(239,some 239),(240,some 240),(241,some 241)] rfl ⟨eI rfl rfl,⟨.own 235 _ 0,rfl,.own rfl rfl rfl⟩,⟨.own 236 _ 0,rfl,.own rfl rfl rfl⟩,⟨.own 239 _ 0,rfl,.own rfl rfl rfl⟩,⟨.osl 241 _,rfl,.osl rfl rfl rfl⟩,eI rfl rfl,eI rfl rfl,⟨.sub 237 _ _,rfl,.sub rfl rfl⟩,eI rfl rfl,eI rfl rfl,trivial⟩ ⟨.inl ⟨235,rfl,rfl,trivial⟩,.inl ⟨236,rfl,rfl,trivial⟩,.inl ⟨237,rfl,rfl,trivial⟩,.inl ⟨238,rfl,rfl,trivial⟩,.inl ⟨239,rfl,rfl,trivial⟩,.inl ⟨240,rfl,rfl,trivial⟩,.inl ⟨241,rfl,rfl,trivial⟩,trivial⟩ ⟨⟨235,.im _,rfl,rfl,.im (Sub.rfl' rfl)⟩,⟨235,.im _,rfl,rfl,.im (Sub.rfl' rfl)⟩,⟨235,.im (.val (.slice none 0 0)),rfl,rfl,.im (Sub.rfl' rfl)⟩,⟨235,.im (.val (.slice none 0 0)),rfl,rfl,.im (Sub.rfl' rfl)⟩,⟨236,.im _,rfl,rfl,.im (Sub.rfl' rfl)⟩,⟨236,.im _,rfl,rfl,.im (Sub.rfl' rfl)⟩,⟨236,.osl 237 _,rfl,rfl,.osl rfl rfl rfl⟩,⟨236,.osl 238 _,rfl,rfl,.osl rfl rfl rfl⟩,⟨239,.osl 240 _,rfl,rfl,.osl rfl rfl rfl⟩,trivial⟩) (by rintro ⟨y2143,y2144,y2145,y2146⟩;exact ((Holds.kdg 237 rfl).and ((Holds.kdg 238 rfl).and ((Holds.kdql 241 rfl).and (hT))))) ?_
 clear h
 rintro k ⟨y2143,y2144,y2145,y2146⟩ o hp h ho2171
 replace h:zac.s43 c2034 c2036 e2040 y2143 y2144 y2145 y2146=some o:=h
 unfold zac.s43 at h
 obtain ⟨z2196,z2197,z2198,_⟩:=hp
 conv=>whnf
 refine Both.mk ?_ ?_<;>intro b2172
 obtain ⟨h,b2172d⟩:=ctd b2172 h
 conv=>whnf
 obtain ⟨e2174,he2174,h⟩:=zab h
 obtain ⟨e2173,he2173,h⟩:=zab h
 refine ⟨_,⟨(by omega),rfl,map_at he2174,map_lt he2173⟩,?_⟩
 conv=>whnf
 refine ⟨_,_,_,⟨rfl,map_at he2174,map_at he2173,rfl⟩,?_⟩
 conv=>whnf
 refine Both.mk ?_ ?_<;>intro b2175
 obtain ⟨h,b2175d⟩:=ctd b2175 h
 conv=>whnf
 obtain ⟨c2176,h⟩:=chk_some h
 refine Arith.mk c2176 ?_
 conv=>whnf
 cases h
 exact Nxt.mk _ ho2171 (Ent.mk [(235,some 235),(236,some 236),(237,some 237),(238,some 238),(239,some 239),(240,some 240),(241,some 241)] rfl ⟨eI rfl rfl,⟨.own 235 _ 0,rfl,.own rfl rfl rfl⟩,⟨.own 236 _ 0,rfl,.own rfl rfl rfl⟩,⟨.own 239 _ 0,rfl,.own rfl rfl rfl⟩,⟨.osl 241 _,rfl,.osl rfl rfl rfl⟩,eI rfl rfl,eI rfl rfl,⟨.sub 237 _ _,rfl,.sub rfl rfl⟩,eI rfl rfl,eI rfl rfl,trivial⟩ ⟨.inl ⟨235,rfl,rfl,trivial⟩,.inl ⟨236,rfl,rfl,trivial⟩,.inl ⟨237,rfl,rfl,trivial⟩,.inl ⟨238,rfl,rfl,trivial⟩,.inl ⟨239,rfl,rfl,trivial⟩,.inl ⟨240,rfl,rfl,trivial⟩,.inl ⟨241,rfl,rfl,trivial⟩,trivial⟩ ⟨⟨235,.im _,rfl,rfl,.im (Sub.rfl' rfl)⟩,⟨235,.im _,rfl,rfl,.im (Sub.rfl' rfl)⟩,⟨235,.im (.val (.slice none 0 0)),rfl,rfl,.im (Sub.rfl' rfl)⟩,⟨235,.im (.val (.slice none 0 0)),rfl,rfl,.im (Sub.rfl' rfl)⟩,⟨236,.im _,rfl,rfl,.im (Sub.rfl' rfl)⟩,⟨236,.im _,rfl,rfl,.im (Sub.rfl' rfl)⟩,⟨236,.osl 237 _,rfl,rfl,.osl rfl rfl rfl⟩,⟨236,.osl 238 _,rfl,rfl,.osl rfl rfl rfl⟩,⟨239,.osl 240 _,rfl,rfl,.osl rfl rfl rfl⟩,trivial⟩)
 obtain ⟨h,b2175d⟩:=cfd b2175 h
 conv=>whnf
 refine Side.mk rfl ?_
 conv=>whnf
 refine Side.mk rfl ?_
 conv=>whnf
 obtain ⟨e2177,he2177z,he2177,h⟩:=idx_some h
 refine Side.mk ⟨he2177z,rfl,map_lt he2177⟩ ?_
 conv=>whnf
 refine Side.mk ⟨rfl,map_lt he2177⟩ ?_
 conv=>whnf
 obtain ⟨e2178,he2178,h⟩:=zab h
 refine ⟨_,⟨(by omega),rfl,map_at he2177,map_lt he2178⟩,?_⟩
 conv=>whnf
 refine ⟨_,_,_,⟨rfl,map_at he2177,map_at he2178,rfl⟩,?_⟩
 conv=>whnf
 refine Both.mk ?_ ?_<;>intro b2179
 obtain ⟨h,b2179d⟩:=ctd b2179 h
 conv=>whnf
 refine Side.mk rfl ?_
 conv=>whnf
 refine Side.mk rfl ?_
 conv=>whnf
 obtain ⟨e2180,he2180z,he2180,h⟩:=idx_some h
 refine Side.mk ⟨he2180z,rfl,map_lt he2180⟩ ?_
 conv=>whnf
 refine Side.mk ⟨rfl,map_lt he2180⟩ ?_
 conv=>whnf
 refine Side.mk rfl ?_
 conv=>whnf
 refine Side.mk rfl ?_
 conv=>whnf
 obtain ⟨e2181,he2181z,he2181,h⟩:=idx_some h
 refine Side.mk ⟨he2181z,rfl,map_lt he2181⟩ ?_
 conv=>whnf
 refine Side.mk ⟨rfl,map_lt he2181⟩ ?_
 conv=>whnf
 refine Side.mk rfl ?_
 conv=>whnf
 refine Side.mk rfl ?_
 conv=>whnf
 obtain ⟨e2182,he2182z,he2182,h⟩:=idx_some h
 refine Side.mk ⟨he2182z,rfl,map_lt he2182⟩ ?_
 conv=>whnf
 refine Side.mk ⟨rfl,map_lt he2182⟩ ?_
 conv=>whnf
 obtain ⟨e2183,he2183,h⟩:=zab h
 refine ⟨_,⟨(by omega),rfl,map_at he2182,map_lt he2183⟩,?_⟩
 conv=>whnf
 refine ⟨_,_,_,⟨rfl,map_at he2182,map_at he2183,rfl⟩,?_⟩
 conv=>whnf
 obtain ⟨e2184,he2184,h⟩:=zab h
 refine ⟨_,⟨(by omega),rfl,map_at he2180,map_lt he2184⟩,?_⟩
 conv=>whnf
 refine ⟨_,_,⟨rfl,map_at he2180,map_at he2184⟩,?_⟩
 conv=>whnf
 refine Nf.mk (List.map (cL cI) (List.set y2143 (Int.toNat (min c2034.1 c2036.1)) (List.set e2180 y2146 e2173))) (zel rfl) ?_
 conv=>whnf
 obtain ⟨e2185,he2185,h⟩:=zab h
 refine ⟨_,⟨(by omega),rfl,map_at he2181,map_lt he2185⟩,?_⟩
 conv=>whnf
 refine ⟨_,_,⟨rfl,map_at he2181,map_at he2185⟩,?_⟩
 conv=>whnf
 refine Nf.mk (List.map (cL cI) (List.set y2144 (Int.toNat (min c2034.1 c2036.1)) (List.set e2181 y2146 e2183))) (zel rfl) ?_
 conv=>whnf
 obtain ⟨c2186,h⟩:=chk_some h
 refine Arith.mk c2186 ?_
 conv=>whnf
 cases h
 exact Nxt.mk _ ho2171 (Ent.mk [(235,some 235),(236,some 236),(237,some 237),(238,some 238),(239,some 239),(240,some 240),(241,some 241)] rfl ⟨eI rfl rfl,⟨.own 235 _ 0,rfl,.own rfl rfl rfl⟩,⟨.own 236 _ 0,rfl,.own rfl rfl rfl⟩,⟨.own 239 _ 0,rfl,.own rfl rfl rfl⟩,⟨.osl 241 _,rfl,.osl rfl rfl rfl⟩,eI rfl rfl,eI rfl rfl,⟨.sub 237 _ _,rfl,.sub rfl rfl⟩,eI rfl rfl,eI rfl rfl,trivial⟩ ⟨.inl ⟨235,rfl,rfl,trivial⟩,.inl ⟨236,rfl,rfl,trivial⟩,.inl ⟨237,rfl,rfl,trivial⟩,.inl ⟨238,rfl,rfl,trivial⟩,.inl ⟨239,rfl,rfl,trivial⟩,.inl ⟨240,rfl,rfl,trivial⟩,.inl ⟨241,rfl,rfl,trivial⟩,trivial⟩ ⟨⟨235,.im _,rfl,rfl,.im (Sub.rfl' rfl)⟩,⟨235,.im _,rfl,rfl,.im (Sub.rfl' rfl)⟩,⟨235,.im (.val (.slice none 0 0)),rfl,rfl,.im (Sub.rfl' rfl)⟩,⟨235,.im (.val (.slice none 0 0)),rfl,rfl,.im (Sub.rfl' rfl)⟩,⟨236,.im _,rfl,rfl,.im (Sub.rfl' rfl)⟩,⟨236,.im _,rfl,rfl,.im (Sub.rfl' rfl)⟩,⟨236,.osl 237 _,rfl,rfl,.osl rfl rfl rfl⟩,⟨236,.osl 238 _,rfl,rfl,.osl rfl rfl rfl⟩,⟨239,.osl 240 _,rfl,rfl,.osl rfl rfl rfl⟩,trivial⟩)
 obtain ⟨h,b2179d⟩:=cfd b2179 h
 conv=>whnf
 refine Side.mk rfl ?_
 conv=>whnf
 refine Side.mk rfl ?_
 conv=>whnf
 obtain ⟨e2187,he2187z,he2187,h⟩:=idx_some h
 refine Side.mk ⟨he2187z,rfl,map_lt he2187⟩ ?_
 conv=>whnf
 refine Side.mk ⟨rfl,map_lt he2187⟩ ?_
 conv=>whnf
 obtain ⟨e2188,he2188,h⟩:=zab h
 refine ⟨_,⟨(by omega),rfl,map_at he2187,map_lt he2188⟩,?_⟩
 conv=>whnf
 refine ⟨_,_,_,⟨rfl,map_at he2187,map_at he2188,rfl⟩,?_⟩
 conv=>whnf
 refine Side.mk rfl ?_
 conv=>whnf
 refine Side.mk rfl ?_
 conv=>whnf
 obtain ⟨e2189,he2189z,he2189,h⟩:=idx_some h
 refine Side.mk ⟨he2189z,rfl,map_lt he2189⟩ ?_
 conv=>whnf
 refine Side.mk ⟨rfl,map_lt he2189⟩ ?_
 conv=>whnf
 obtain ⟨e2190,he2190,h⟩:=zab h
 refine ⟨_,⟨(by omega),rfl,map_at he2189,map_lt he2190⟩,?_⟩
 conv=>whnf
 refine ⟨_,_,_,⟨rfl,map_at he2189,map_at he2190,rfl⟩,?_⟩
 conv=>whnf
 refine Both.mk ?_ ?_<;>intro b2191
 obtain ⟨h,b2191d⟩:=ctd b2191 h
 conv=>whnf
 refine Side.mk rfl ?_
 conv=>whnf
 cases h
 have ho2171:_=_:=ho2171
 cases ho2171
 replace h:some _=some _:=hk2041
 cases h
 replace h:some _=some _:=hk1859
 cases h
 have ho1857:_=_:=ho1857
 cases ho1857
 replace h:some _=some _:=hk106
 cases h
 conv=>whnf
 refine Side.mk ⟨rfl,trivial⟩ ?_
 conv=>whnf
 exact ⟨rfl,rfl⟩
 obtain ⟨h,b2191d⟩:=cfd b2191 h
 conv=>whnf
 refine Side.mk rfl ?_
 conv=>whnf
 refine Side.mk rfl ?_
 conv=>whnf
 obtain ⟨e2192,he2192z,he2192,h⟩:=idx_some h
 refine Side.mk ⟨he2192z,rfl,map_lt he2192⟩ ?_
 conv=>whnf
 refine Side.mk ⟨rfl,map_lt he2192⟩ ?_
 conv=>whnf
 obtain ⟨e2193,he2193,h⟩:=zab h
 refine ⟨_,⟨(by omega),rfl,map_at he2192,map_lt he2193⟩,?_⟩
 conv=>whnf
 refine ⟨_,_,_,⟨rfl,map_at he2192,map_at he2193,rfl⟩,?_⟩
 conv=>whnf
 obtain ⟨c2194,h⟩:=chk_some h
 refine Side.mk ⟨rfl,Nat.succ_pos _,map_len (l:=[(⟨e2193,e2173⟩:T_A2)]) (c:=c_A2) fun _=>rfl,show capOk _ 16 by simpa only [List.length_map,List.length_cons,List.length_nil,Nat.zero_add] using c2194⟩ ?_
 conv=>whnf
 refine Nf.mk (List.map c_A2 (y2145++[(⟨e2193,e2173⟩:T_A2)])) (app_map (l:=y2145) (m:=[(⟨e2193,e2173⟩:T_A2)]) (c:=c_A2)) ?_
 conv=>whnf
 obtain ⟨c2195,h⟩:=chk_some h
 refine Arith.mk c2195 ?_
 conv=>whnf
 cases h
 exact Nxt.mk _ ho2171 (Ent.mk [(235,some 235),(236,some 236),(237,some 237),(238,some 238),(239,some 239),(240,some 240),(241,some 241)] rfl ⟨eI rfl rfl,⟨.own 235 _ 0,rfl,.own rfl rfl rfl⟩,⟨.own 236 _ 0,rfl,.own rfl rfl rfl⟩,⟨.own 239 _ 0,rfl,.own rfl rfl rfl⟩,⟨.osl 241 _,rfl,.osl rfl rfl rfl⟩,eI rfl rfl,eI rfl rfl,⟨.sub 237 _ _,rfl,.sub rfl rfl⟩,eI rfl rfl,eI rfl rfl,trivial⟩ ⟨.inl ⟨235,rfl,rfl,trivial⟩,.inl ⟨236,rfl,rfl,trivial⟩,.inl ⟨237,rfl,rfl,trivial⟩,.inl ⟨238,rfl,rfl,trivial⟩,.inl ⟨239,rfl,rfl,trivial⟩,.inl ⟨240,rfl,rfl,trivial⟩,.inl ⟨241,rfl,rfl,trivial⟩,trivial⟩ ⟨⟨235,.im _,rfl,rfl,.im (Sub.rfl' rfl)⟩,⟨235,.im _,rfl,rfl,.im (Sub.rfl' rfl)⟩,⟨235,.im (.val (.slice none 0 0)),rfl,rfl,.im (Sub.rfl' rfl)⟩,⟨235,.im (.val (.slice none 0 0)),rfl,rfl,.im (Sub.rfl' rfl)⟩,⟨236,.im _,rfl,rfl,.im (Sub.rfl' rfl)⟩,⟨236,.im _,rfl,rfl,.im (Sub.rfl' rfl)⟩,⟨236,.osl 237 _,rfl,rfl,.osl rfl rfl rfl⟩,⟨236,.osl 238 _,rfl,rfl,.osl rfl rfl rfl⟩,⟨239,.osl 240 _,rfl,rfl,.osl rfl rfl rfl⟩,trivial⟩)
 obtain ⟨h,b2172d⟩:=cfd b2172 h
 conv=>whnf
 cases h
 have ho2171:_=_:=ho2171
 cases ho2171
 exact JoinS.mk' _ rfl (eA [(235,some 235),(236,some 236),(237,some 237),(238,some 238),(239,some 239),(240,some 240),(241,some 241)])
 rintro ⟨y2119,y2120,y2121⟩ rfl hp
 have hx_:=sum_inl hk2041
 replace h:zac.k44 c2039 y2119 y2120 y2121=some _:=hx_
 clear hx_
 unfold zac.k44 at h
 obtain ⟨z2199,z2200,z2201,_⟩:=hp
 conv=>whnf
 cases h
 exact JoinS.mk' _ rfl (eA [(235,some 235),(236,some 236),(237,some 237),(238,some 238),(239,some 239),(240,some 240),(241,some 241)])
 rintro ⟨y2029,y2030,y2031,y2032⟩ rfl hp
 have hx_:=sum_inl hk1859
 replace h:zac.k45 y2029 y2030 y2031 y2032=some _:=hx_
 clear hx_
 unfold zac.k45 at h
 obtain ⟨z2202,z2203,z2204,_⟩:=hp
 conv=>whnf
 cases h
 exact Nxt.mk _ ho1857 (eA [(235,some 235),(236,some 236),(237,some 237),(238,some 238),(239,some 239),(240,some 240),(241,some 241)])
 obtain ⟨h,b1858d⟩:=cfd b1858 h
 conv=>whnf
 cases h
 have ho1857:_=_:=ho1857
 cases ho1857
 exact JoinS.mk' _ rfl (eA [(235,some 235),(236,some 236),(237,some 237),(238,some 238),(239,some 239),(240,some 240)])
 rintro ⟨y1156,y1157,y1158⟩ rfl hp
 have hx_:=sum_inl hk106
 replace h:zac.k70 p_ y1156 y1157 y1158=some _:=hx_
 clear hx_
 unfold zac.k70 at h
 obtain ⟨z2208,z2209,_⟩:=hp
 conv=>whnf
 refine Side.mk rfl ?_
 conv=>whnf
 refine Side.mk rfl ?_
 conv=>whnf
 refine Side.mk rfl ?_
 conv=>whnf
 refine Nf.mk (List.length y1156) len_map ?_
 conv=>whnf
 obtain ⟨⟨y2424,y2425⟩,hc,hk2210⟩:=bind_some h
 clear h
 have h:=hc
 clear hc
 refine Cut.mk (mkSt [(3,.im (.ref (zak p_))),(6,.own 235 1 0),(9,.own 236 1 0),(11,.own 239 1 0)] [(235,.box 24 4),(236,.box 24 4),(237,.grid 25 3 1 (List.map (cL cI) y2424) none),(238,.grid 25 3 1 (List.map (cL cI) y1157) none),(239,.box 104 1),(240,.map (mapV wI wI y2425))] [(235,0,.im (nI 0)),(235,1,.im (nI 0)),(235,2,.im (.val (.slice none 0 0))),(235,3,.im (.val (.slice none 0 0))),(236,0,.im (nI p_.Inputs)),(236,1,.im (nI 0)),(236,2,.osl 237 1),(236,3,.osl 238 1),(239,0,.osl 240 1)]) (lZ y2424∧lZ y1157∧True) ((Holds.kdg 237 rfl).and ((Holds.kdg 238 rfl).and (hT))) ?_ (fun hp=>?_)
 conv=>whnf
 refine Loops.iter (fun (s:List (List Int)×(List (Int×Int))×Nat)=>zac.s66 y1156 s.1 s.2.1 s.2.2) (fun (y2495,y2496,y2497)=>mkSt [(3,.im (.ref (zak p_))),(6,.own 235 1 0),(9,.own 236 1 0),(11,.own 239 1 0),(176,.im (nI (↑(List.length y1156):Int))),(177,.im (nI (↑y2497:Int)))] [(235,.box 24 4),(236,.box 24 4),(237,.grid 25 3 1 (List.map (cL cI) y2495) none),(238,.grid 25 3 1 (List.map (cL cI) y1157) none),(239,.box 104 1),(240,.map (mapV wI wI y2496))] [(235,0,.im (nI 0)),(235,1,.im (nI 0)),(235,2,.im (.val (.slice none 0 0))),(235,3,.im (.val (.slice none 0 0))),(236,0,.im (nI p_.Inputs)),(236,1,.im (nI 0)),(236,2,.osl 237 1),(236,3,.osl 238 1),(239,0,.osl 240 1)]) (fun (y2495,y2496,y2497)=>lZ y2495∧lZ y1157∧True) h (eA [(235,some 235),(236,some 236),(237,some 237),(238,some 238),(239,some 239),(240,some 240)]) (by rintro ⟨y2495,y2496,y2497⟩;exact ((Holds.kdg 237 rfl).and ((Holds.kdg 238 rfl).and (hT)))) ?_
 clear h
 rintro k ⟨y2495,y2496,y2497⟩ o hp h ho2567
 replace h:zac.s66 y1156 y2495 y2496 y2497=some o:=h
 unfold zac.s66 at h
 obtain ⟨z2637,z2638,_⟩:=hp
 conv=>whnf
 refine Both.mk ?_ ?_<;>intro b2568
 obtain ⟨h,b2568d⟩:=ctd b2568 h
 conv=>whnf
 refine Side.mk rfl ?_
 conv=>whnf
 refine Side.mk rfl ?_
 conv=>whnf
 obtain ⟨e2569,he2569,h⟩:=zab h
 refine Side.mk ⟨(by omega),rfl,map_lt he2569⟩ ?_
 conv=>whnf
 refine Side.mk ⟨rfl,map_lt he2569⟩ ?_
 conv=>whnf
 refine ⟨_,⟨rfl,map_at he2569⟩,?_⟩
 conv=>whnf
 refine Nf.mk (List.length e2569) len_map ?_
 conv=>whnf
 obtain ⟨⟨y2602,y2603⟩,hc,hk2570⟩:=bind_some h
 clear h
 have h:=hc
 clear hc
 refine Cut.mk (mkSt [(3,.im (.ref (zak p_))),(6,.own 235 1 0),(9,.own 236 1 0),(11,.own 239 1 0),(176,.im (nI (↑(List.length y1156):Int))),(177,.im (nI (↑y2497:Int)))] [(235,.box 24 4),(236,.box 24 4),(237,.grid 25 3 1 (List.map (cL cI) y2602) none),(238,.grid 25 3 1 (List.map (cL cI) y1157) none),(239,.box 104 1),(240,.map (mapV wI wI y2603))] [(235,0,.im (nI 0)),(235,1,.im (nI 0)),(235,2,.im (.val (.slice none 0 0))),(235,3,.im (.val (.slice none 0 0))),(236,0,.im (nI p_.Inputs)),(236,1,.im (nI 0)),(236,2,.osl 237 1),(236,3,.osl 238 1),(239,0,.osl 240 1)]) (lZ y2602∧lZ y1157∧True) ((Holds.kdg 237 rfl).and ((Holds.kdg 238 rfl).and (hT))) ?_ (fun hp=>?_)
 conv=>whnf
 refine Loops.iter (fun (s:List (List Int)×(List (Int×Int))×Nat)=>zac.s64 y2497 e2569 s.1 s.2.1 s.2.2) (fun (y2611,y2612,y2613)=>mkSt [(3,.im (.ref (zak p_))),(6,.own 235 1 0),(9,.own 236 1 0),(11,.own 239 1 0),(17,.im (nI (↑y2497:Int))),(176,.im (nI (↑(List.length y1156):Int))),(177,.im (nI (↑y2497:Int))),(184,.sub 237 0 y2497),(185,.im (nI (↑(List.length e2569):Int))),(186,.im (nI (↑y2613:Int)))] [(235,.box 24 4),(236,.box 24 4),(237,.grid 25 3 1 (List.map (cL cI) y2611) none),(238,.grid 25 3 1 (List.map (cL cI) y1157) none),(239,.box 104 1),(240,.map (mapV wI wI y2612))] [(235,0,.im (nI 0)),(235,1,.im (nI 0)),(235,2,.im (.val (.slice none 0 0))),(235,3,.im (.val (.slice none 0 0))),(236,0,.im (nI p_.Inputs)),(236,1,.im (nI 0)),(236,2,.osl 237 1),(236,3,.osl 238 1),(239,0,.osl 240 1)]) (fun (y2611,y2612,y2613)=>lZ y2611∧lZ y1157∧True) h (Ent.mk [(235,some 235),(236,some 236),(237,some 237),(238,some 238),(239,some 239),(240,some 240)] rfl ⟨eI rfl rfl,⟨.own 235 _ 0,rfl,.own rfl rfl rfl⟩,⟨.own 236 _ 0,rfl,.own rfl rfl rfl⟩,⟨.own 239 _ 0,rfl,.own rfl rfl rfl⟩,eI rfl rfl,eI rfl rfl,eI rfl rfl,⟨.sub 237 _ _,rfl,.sub rfl rfl⟩,eI rfl rfl,eI rfl rfl,trivial⟩ ⟨.inl ⟨235,rfl,rfl,trivial⟩,.inl ⟨236,rfl,rfl,trivial⟩,.inl ⟨237,rfl,rfl,trivial⟩,.inl ⟨238,rfl,rfl,trivial⟩,.inl ⟨239,rfl,rfl,trivial⟩,.inl ⟨240,rfl,rfl,trivial⟩,trivial⟩ ⟨⟨235,.im _,rfl,rfl,.im (Sub.rfl' rfl)⟩,⟨235,.im _,rfl,rfl,.im (Sub.rfl' rfl)⟩,⟨235,.im (.val (.slice none 0 0)),rfl,rfl,.im (Sub.rfl' rfl)⟩,⟨235,.im (.val (.slice none 0 0)),rfl,rfl,.im (Sub.rfl' rfl)⟩,⟨236,.im _,rfl,rfl,.im (Sub.rfl' rfl)⟩,⟨236,.im _,rfl,rfl,.im (Sub.rfl' rfl)⟩,⟨236,.osl 237 _,rfl,rfl,.osl rfl rfl rfl⟩,⟨236,.osl 238 _,rfl,rfl,.osl rfl rfl rfl⟩,⟨239,.osl 240 _,rfl,rfl,.osl rfl rfl rfl⟩,trivial⟩) (by rintro ⟨y2611,y2612,y2613⟩;exact ((Holds.kdg 237 rfl).and ((Holds.kdg 238 rfl).and (hT)))) ?_
 clear h
 rintro k ⟨y2611,y2612,y2613⟩ o hp h ho2623
 replace h:zac.s64 y2497 e2569 y2611 y2612 y2613=some o:=h
 unfold zac.s64 at h
 obtain ⟨z2633,z2634,_⟩:=hp
 conv=>whnf
 refine Both.mk ?_ ?_<;>intro b2624
 obtain ⟨h,b2624d⟩:=ctd b2624 h
 conv=>whnf
 obtain ⟨e2626,he2626,h⟩:=zab h
 obtain ⟨e2625,he2625,h⟩:=zab h
 refine ⟨_,⟨(by omega),rfl,map_at he2626,map_lt he2625⟩,?_⟩
 conv=>whnf
 refine ⟨_,_,_,⟨rfl,map_at he2626,map_at he2625,rfl⟩,?_⟩
 conv=>whnf
 refine Both.mk ?_ ?_<;>intro b2627
 obtain ⟨h,b2627d⟩:=ctd b2627 h
 conv=>whnf
 refine Side.mk rfl ?_
 conv=>whnf
 refine Side.mk rfl ?_
 conv=>whnf
 obtain ⟨e2628,he2628,h⟩:=zab h
 refine Side.mk ⟨(by omega),rfl,map_lt he2628⟩ ?_
 conv=>whnf
 refine Side.mk ⟨rfl,map_lt he2628⟩ ?_
 conv=>whnf
 refine Side.mk rfl ?_
 conv=>whnf
 refine Side.mk ⟨rfl,trivial⟩ ?_
 conv=>whnf
 obtain ⟨c2629,hc2629,h⟩:=bind_some h
 refine ⟨_,(zb2 (⟨y2612⟩:zaq) e2625 c2629 (fun _ _=>hc2629)),?_⟩
 conv=>whnf
 obtain ⟨e2630,he2630,h⟩:=zab h
 refine ⟨_,⟨(by omega),rfl,map_at he2628,map_lt he2630⟩,?_⟩
 conv=>whnf
 refine ⟨_,_,⟨rfl,map_at he2628,map_at he2630⟩,?_⟩
 conv=>whnf
 refine Nf.mk (List.map (cL cI) (List.set y2611 y2497 (List.set e2628 y2613 c2629.1))) (zel rfl) ?_
 conv=>whnf
 obtain ⟨c2631,h⟩:=chk_some h
 refine Arith.mk c2631 ?_
 conv=>whnf
 cases h
 exact Nxt.mk _ ho2623 (Ent.mk [(235,some 235),(236,some 236),(237,some 237),(238,some 238),(239,some 239),(240,some 240)] rfl ⟨eI rfl rfl,⟨.own 235 _ 0,rfl,.own rfl rfl rfl⟩,⟨.own 236 _ 0,rfl,.own rfl rfl rfl⟩,⟨.own 239 _ 0,rfl,.own rfl rfl rfl⟩,eI rfl rfl,eI rfl rfl,eI rfl rfl,⟨.sub 237 _ _,rfl,.sub rfl rfl⟩,eI rfl rfl,eI rfl rfl,trivial⟩ ⟨.inl ⟨235,rfl,rfl,trivial⟩,.inl ⟨236,rfl,rfl,trivial⟩,.inl ⟨237,rfl,rfl,trivial⟩,.inl ⟨238,rfl,rfl,trivial⟩,.inl ⟨239,rfl,rfl,trivial⟩,.inl ⟨240,rfl,rfl,trivial⟩,trivial⟩ ⟨⟨235,.im _,rfl,rfl,.im (Sub.rfl' rfl)⟩,⟨235,.im _,rfl,rfl,.im (Sub.rfl' rfl)⟩,⟨235,.im (.val (.slice none 0 0)),rfl,rfl,.im (Sub.rfl' rfl)⟩,⟨235,.im (.val (.slice none 0 0)),rfl,rfl,.im (Sub.rfl' rfl)⟩,⟨236,.im _,rfl,rfl,.im (Sub.rfl' rfl)⟩,⟨236,.im _,rfl,rfl,.im (Sub.rfl' rfl)⟩,⟨236,.osl 237 _,rfl,rfl,.osl rfl rfl rfl⟩,⟨236,.osl 238 _,rfl,rfl,.osl rfl rfl rfl⟩,⟨239,.osl 240 _,rfl,rfl,.osl rfl rfl rfl⟩,trivial⟩)
 obtain ⟨h,b2627d⟩:=cfd b2627 h
 conv=>whnf
 obtain ⟨c2632,h⟩:=chk_some h
 refine Arith.mk c2632 ?_
 conv=>whnf
 cases h
 exact Nxt.mk _ ho2623 (Ent.mk [(235,some 235),(236,some 236),(237,some 237),(238,some 238),(239,some 239),(240,some 240)] rfl ⟨eI rfl rfl,⟨.own 235 _ 0,rfl,.own rfl rfl rfl⟩,⟨.own 236 _ 0,rfl,.own rfl rfl rfl⟩,⟨.own 239 _ 0,rfl,.own rfl rfl rfl⟩,eI rfl rfl,eI rfl rfl,eI rfl rfl,⟨.sub 237 _ _,rfl,.sub rfl rfl⟩,eI rfl rfl,eI rfl rfl,trivial⟩ ⟨.inl ⟨235,rfl,rfl,trivial⟩,.inl ⟨236,rfl,rfl,trivial⟩,.inl ⟨237,rfl,rfl,trivial⟩,.inl ⟨238,rfl,rfl,trivial⟩,.inl ⟨239,rfl,rfl,trivial⟩,.inl ⟨240,rfl,rfl,trivial⟩,trivial⟩ ⟨⟨235,.im _,rfl,rfl,.im (Sub.rfl' rfl)⟩,⟨235,.im _,rfl,rfl,.im (Sub.rfl' rfl)⟩,⟨235,.im (.val (.slice none 0 0)),rfl,rfl,.im (Sub.rfl' rfl)⟩,⟨235,.im (.val (.slice none 0 0)),rfl,rfl,.im (Sub.rfl' rfl)⟩,⟨236,.im _,rfl,rfl,.im (Sub.rfl' rfl)⟩,⟨236,.im _,rfl,rfl,.im (Sub.rfl' rfl)⟩,⟨236,.osl 237 _,rfl,rfl,.osl rfl rfl rfl⟩,⟨236,.osl 238 _,rfl,rfl,.osl rfl rfl rfl⟩,⟨239,.osl 240 _,rfl,rfl,.osl rfl rfl rfl⟩,trivial⟩)
 obtain ⟨h,b2624d⟩:=cfd b2624 h
 conv=>whnf
 cases h
 have ho2623:_=_:=ho2623
 cases ho2623
 exact Join.mk (eA [(235,some 235),(236,some 236),(237,some 237),(238,some 238),(239,some 239),(240,some 240)])
 replace h:zac.k65 y2497 y2602 y2603=some _:=hk2570
 unfold zac.k65 at h
 obtain ⟨z2635,z2636,_⟩:=hp
 conv=>whnf
 refine Arith.mk (by show inR _;unfold inR;omega) ?_
 conv=>whnf
 cases h
 exact Nxt.mk _ ho2567 (eA [(235,some 235),(236,some 236),(237,some 237),(238,some 238),(239,some 239),(240,some 240)])
 obtain ⟨h,b2568d⟩:=cfd b2568 h
 conv=>whnf
 cases h
 have ho2567:_=_:=ho2567
 cases ho2567
 exact Join.mk (eA [(235,some 235),(236,some 236),(237,some 237),(238,some 238),(239,some 239),(240,some 240)])
 replace h:zac.k69 p_ y1157 y2424 y2425=some _:=hk2210
 unfold zac.k69 at h
 obtain ⟨z2639,z2640,_⟩:=hp
 conv=>whnf
 refine Side.mk rfl ?_
 conv=>whnf
 refine Side.mk ⟨rfl,trivial⟩ ?_
 conv=>whnf
 obtain ⟨c2641,hc2641,h⟩:=bind_some h
 refine ⟨_,(zb2 (⟨y2425⟩:zaq) p_.Start c2641 (fun _ _=>hc2641)),?_⟩
 conv=>whnf
 refine Side.mk rfl ?_
 conv=>whnf
 refine Side.mk rfl ?_
 conv=>whnf
 refine Side.mk rfl ?_
 conv=>whnf
 refine Side.mk ⟨rfl,rfl,trivial⟩ ?_
 conv=>whnf
 obtain ⟨c2642,hc2642,h⟩:=bind_some h
 refine ⟨_,(zem (⟨p_.Inputs,c2641.1,y2424,y1157⟩:zaa) c2642 (fun _=>hc2642)),?_⟩
 conv=>whnf
 refine Side.mk rfl ?_
 conv=>whnf
 refine Nf.mk (List.length c2642.2) len_map ?_
 conv=>whnf
 obtain ⟨c2643,h⟩:=chk_some h
 refine Side.mk c2643 ?_
 conv=>whnf
 refine Nf.mk (List.map cI (List.replicate (List.length c2642.2) (0:Int))) (rep_map (c:=cI) (z:=0) (n:=(List.length c2642.2)) rfl rfl) ?_
 conv=>whnf
 refine Side.mk rfl ?_
 conv=>whnf
 refine Nf.mk (List.length (List.replicate (List.length c2642.2) (0:Int))) len_map ?_
 conv=>whnf
 obtain ⟨y2667,hc,hk2644⟩:=bind_some h
 clear h
 have h:=hc
 clear hc
 refine Cut.mk (mkSt [(6,.own 235 1 0),(20,.own 236 1 0),(22,.osl 237 1)] [(235,.box 24 4),(236,.box 24 4),(237,.row 3 1 (List.map cI y2667))] [(235,0,.im (nI 0)),(235,1,.im (nI 0)),(235,2,.im (.val (.slice none 0 0))),(235,3,.im (.val (.slice none 0 0))),(236,0,.im (nI c2642.1.Inputs)),(236,1,.im (nI c2642.1.Start)),(236,2,.im (nL (cL cI) c2642.1.Next)),(236,3,.im (nL (cL cI) c2642.1.Out))]) (lZ c2642.1.Next∧lZ c2642.1.Out∧lZ y2667∧True) ((Holds.cel 236 2 rfl (by decide) rfl).and ((Holds.cel 236 3 rfl (by decide) rfl).and ((Holds.kdl 237 rfl).and (hT)))) ?_ (fun hp=>?_)
 conv=>whnf
 refine Loops.iter (fun (s:(List (Int×Int))×List Int×Nat)=>zac.s68 c2642 s.1 s.2.1 s.2.2) (fun (y2672,y2673,y2674)=>mkSt [(6,.own 235 1 0),(11,.own 236 1 0),(20,.own 238 1 0),(21,.im (nL cI c2642.2)),(22,.osl 239 1),(219,.im (nI (↑(List.length (List.replicate (List.length c2642.2) (0:Int))):Int))),(220,.im (nI (↑y2674:Int)))] [(235,.box 24 4),(236,.box 104 1),(237,.map (mapV wI wI y2672)),(238,.box 24 4),(239,.row 3 1 (List.map cI y2673))] [(235,0,.im (nI 0)),(235,1,.im (nI 0)),(235,2,.im (.val (.slice none 0 0))),(235,3,.im (.val (.slice none 0 0))),(236,0,.osl 237 1),(238,0,.im (nI c2642.1.Inputs)),(238,1,.im (nI c2642.1.Start)),(238,2,.im (nL (cL cI) c2642.1.Next)),(238,3,.im (nL (cL cI) c2642.1.Out))]) (fun (y2672,y2673,y2674)=>lZ c2642.2∧lZ c2642.1.Next∧lZ c2642.1.Out∧lZ y2673∧True) h (eA [(235,some 235),(236,some 239),(237,some 240),(238,some 20),(239,some 217)]) (by rintro ⟨y2672,y2673,y2674⟩;exact ((Holds.avl 21 rfl).and ((Holds.cel 238 2 rfl (by decide) rfl).and ((Holds.cel 238 3 rfl (by decide) rfl).and ((Holds.kdl 239 rfl).and (hT)))))) ?_
 clear h
 rintro k ⟨y2672,y2673,y2674⟩ o hp h ho2680
 replace h:zac.s68 c2642 y2672 y2673 y2674=some o:=h
 unfold zac.s68 at h
 obtain ⟨z2686,z2687,z2688,z2689,_⟩:=hp
 conv=>whnf
 refine Both.mk ?_ ?_<;>intro b2681
 obtain ⟨h,b2681d⟩:=ctd b2681 h
 conv=>whnf
 refine Side.mk rfl ?_
 conv=>whnf
 refine Side.mk ⟨rfl,trivial⟩ ?_
 conv=>whnf
 obtain ⟨c2682,hc2682,h⟩:=bind_some h
 refine ⟨_,(zb2 (⟨y2672⟩:zaq) (↑y2674:Int) c2682 (fun _ _=>hc2682)),?_⟩
 conv=>whnf
 obtain ⟨e2683,he2683z,he2683,h⟩:=idx_some h
 refine ⟨_,⟨he2683z,map_at he2683,rfl⟩,?_⟩
 conv=>whnf
 obtain ⟨e2684,he2684,h⟩:=zab h
 refine Side.mk ⟨(by omega),rfl,map_lt he2684⟩ ?_
 conv=>whnf
 refine Side.mk ⟨rfl,trivial⟩ ?_
 conv=>whnf
 refine ⟨_,map_at he2684,?_⟩
 conv=>whnf
 refine Nf.mk (List.map cI (List.set y2673 y2674 e2683)) (set_map rfl) ?_
 conv=>whnf
 obtain ⟨c2685,h⟩:=chk_some h
 refine Arith.mk c2685 ?_
 conv=>whnf
 cases h
 exact Nxt.mk _ ho2680 (eA [(235,some 235),(236,some 236),(237,some 237),(238,some 238),(239,some 239)])
 obtain ⟨h,b2681d⟩:=cfd b2681 h
 conv=>whnf
 cases h
 have ho2680:_=_:=ho2680
 cases ho2680
 exact Join.mk (eA [(235,some 235),(236,some 238),(237,some 239)])
 replace h:=hk2644
 obtain ⟨z2690,z2691,z2692,_⟩:=hp
 conv=>whnf
 refine Side.mk rfl ?_
 conv=>whnf
 refine Side.mk rfl ?_
 conv=>whnf
 cases h
 conv=>whnf
 refine Side.mk ⟨rfl,trivial⟩ ?_
 conv=>whnf
 exact Side.mk ⟨rfl,trivial⟩ ⟨rfl,rfl⟩
theorem zfu (p_:zaa) (s_:Int) (t_:Int) (r:zaa×Bool×Int) (h:Ok (.agg (zak p_))→Ok (nI s_)→Ok (nI t_)→zds p_ s_ t_=some r):Sp Tryz.prog 11 [.im (.agg (zak p_)),.im (nI s_),.im (nI t_)] (.tup [.agg (zak r.1),nB r.2.1,nI r.2.2]):=by
 refine sp_of rfl [700003] rfl rfl rfl (Nat.le_of_ble_eq_true rfl) rfl fun hk=>?_
 replace h:=h hk.1 hk.2.1 hk.2.2.1
 have z1:lZ p_.Next:=ok_len (Ok.agg_at hk.1 2 rfl)
 have z2:lZ p_.Out:=ok_len (Ok.agg_at hk.1 3 rfl)
 unfold zds at h
 conv=>whnf
 obtain ⟨c51,hc51,h⟩:=bind_some h
 refine ⟨_,(zc7 p_ c51 (fun _=>hc51)),?_⟩
 conv=>whnf
 refine Both.mk ?_ ?_<;>intro b52
 obtain ⟨h,b52d⟩:=ctd b52 h
 conv=>whnf
 refine Side.mk rfl ?_
 conv=>whnf
 cases h
 conv=>whnf
 refine Side.mk ⟨rfl,trivial⟩ ?_
 conv=>whnf
 exact ⟨rfl,rfl⟩
 obtain ⟨h,b52d⟩:=cfd b52 h
 conv=>whnf
 obtain ⟨y56,hc,hk54⟩:=bind_some h
 clear h
 have h:=hc
 clear hc
 refine Cut.mk (mkSt [(1,.im (nI s_)),(2,.im (nI t_)),(3,.im (.ref (zak p_))),(6,.own 64 1 0),(31,.im (nB y56))] [(64,.box 24 4)] [(64,0,.im (nI 0)),(64,1,.im (nI 0)),(64,2,.im (.val (.slice none 0 0))),(64,3,.im (.val (.slice none 0 0)))]) (True) (hT) ?_ (fun hp=>?_)
 conv=>whnf
 refine Both.mk ?_ ?_<;>intro b57
 replace b57:=beq_ff b57
 obtain ⟨h,b57d⟩:=cfd b57 h
 conv=>whnf
 iterate 5 (refine Both.yes (ff_beq b57) ?_;(conv=>whnf))
 refine Nf.mk (List.length p_.Next) len_map ?_
 conv=>whnf
 refine Both.yes (ff_beq b57) ?_
 conv=>whnf
 refine Both.no b57 ?_
 conv=>whnf
 cases h
 exact Join.mk (eA [(64,some 6)])
 replace b57:=beq_ft b57
 obtain ⟨h,b57d⟩:=ctd b57 h
 conv=>whnf
 iterate 6 (refine Both.no (tf_beq b57) ?_;(conv=>whnf))
 refine Both.yes b57 ?_
 conv=>whnf
 cases h
 exact Join.mk (eA [(64,some 6)])
 replace h:=hk54
 conv=>whnf
 refine Both.mk ?_ ?_<;>intro b58
 replace h:=cond_t b58 h
 conv=>whnf
 refine Side.mk rfl ?_
 conv=>whnf
 cases h
 conv=>whnf
 refine Side.mk ⟨rfl,trivial⟩ ?_
 conv=>whnf
 exact ⟨rfl,rfl⟩
 replace h:=cond_f b58 h
 conv=>whnf
 obtain ⟨c59,hc59,h⟩:=bind_some h
 refine ⟨_,(zf5 p_ s_ t_ c59 (fun _ _ _=>hc59)),?_⟩
 conv=>whnf
 refine Side.mk rfl ?_
 conv=>whnf
 refine Side.mk rfl ?_
 conv=>whnf
 refine Side.mk rfl ?_
 conv=>whnf
 cases h
 conv=>whnf
 refine Side.mk ⟨rfl,trivial⟩ ?_
 conv=>whnf
 exact ⟨rfl,rfl⟩
theorem sp_merge_blue (p_:zaa) (red_:List Bool) (r:Int×Bool) (h:Ok (.agg (zak p_))→Ok (nL cB red_)→zbn p_ red_=some r):Sp Tryz.prog 49 [.im (.agg (zak p_)),.im (nL cB red_)] (.tup [nI r.1,nB r.2]):=by
 refine sp_of rfl [700002] rfl rfl rfl (Nat.le_of_ble_eq_true rfl) rfl fun hk=>?_
 replace h:=h hk.1 hk.2.1
 have z1:lZ p_.Next:=ok_len (Ok.agg_at hk.1 2 rfl)
 have z2:lZ p_.Out:=ok_len (Ok.agg_at hk.1 3 rfl)
 have z3:lZ red_:=ok_len hk.2.1
 unfold zbn at h
 conv=>whnf
 refine Nf.mk (List.length red_) len_map ?_
 conv=>whnf
 refine Nf.mk (List.length red_) len_map ?_
 conv=>whnf
 obtain ⟨best596,hc,hk51⟩:=bind_some h
 clear h
 have h:=hc
 clear hc
 refine Cut.mk (mkSt [(1,.im (nL cB red_)),(6,.im (nI best596))] [] []) (lZ red_∧True) ((Holds.avl 1 rfl).and (hT)) ?_ (fun hp=>?_)
 conv=>whnf
 refine Loops.iter (fun (s:Int×Nat)=>zbn.s26 p_ red_ s.1 s.2) (fun (best777,y778)=>mkSt [(1,.im (nL cB red_)),(2,.im (.ref (zak p_))),(6,.im (nI best777)),(13,.im (nL cB red_)),(14,.im (nI (↑(List.length red_):Int))),(15,.im (nI (↑y778:Int)))] [] []) (fun (best777,y778)=>lZ red_∧True) h (eA []) (by rintro ⟨best777,y778⟩;exact ((Holds.avl 1 rfl).and (hT))) ?_
 clear h
 rintro k ⟨best777,y778⟩ o hp h ho959
 replace h:zbn.s26 p_ red_ best777 y778=some o:=h
 unfold zbn.s26 at h
 obtain ⟨z1140,_⟩:=hp
 conv=>whnf
 refine Both.mk ?_ ?_<;>intro b960
 obtain ⟨h,b960d⟩:=ctd b960 h
 conv=>whnf
 obtain ⟨best1050,hc,hk961⟩:=bind_some h
 clear h
 have h:=hc
 clear hc
 refine Cut.mk (mkSt [(1,.im (nL cB red_)),(2,.im (.ref (zak p_))),(6,.im (nI best1050)),(13,.im (nL cB red_)),(14,.im (nI (↑(List.length red_):Int))),(15,.im (nI (↑y778:Int)))] [] []) (lZ red_∧True) ((Holds.avl 1 rfl).and (hT)) ?_ (fun hp=>?_)
 conv=>whnf
 obtain ⟨e1051,he1051,h⟩:=zab h
 refine ⟨_,⟨(by omega),map_at he1051,rfl⟩,?_⟩
 conv=>whnf
 refine Both.mk ?_ ?_<;>intro b1052
 replace h:=cond_t b1052 h
 conv=>whnf
 cases h
 exact Join.mk (eA [])
 replace h:=cond_f b1052 h
 conv=>whnf
 obtain ⟨e1053,he1053,h⟩:=zab h
 refine ⟨_,⟨(by omega),map_at he1053,rfl⟩,?_⟩
 conv=>whnf
 refine Nf.mk (List.length e1053) len_map ?_
 conv=>whnf
 obtain ⟨best1096,hc,hk1054⟩:=bind_some h
 clear h
 have h:=hc
 clear hc
 refine Cut.mk (mkSt [(1,.im (nL cB red_)),(2,.im (.ref (zak p_))),(6,.im (nI best1096)),(13,.im (nL cB red_)),(14,.im (nI (↑(List.length red_):Int))),(15,.im (nI (↑y778:Int)))] [] []) (lZ red_∧True) ((Holds.avl 1 rfl).and (hT)) ?_ (fun hp=>?_)
 conv=>whnf
 refine Loops.iter (fun (s:Int×Nat)=>zbn.s25 red_ e1053 s.1 s.2) (fun (best1109,y1110)=>mkSt [(1,.im (nL cB red_)),(2,.im (.ref (zak p_))),(6,.im (nI best1109)),(13,.im (nL cB red_)),(14,.im (nI (↑(List.length red_):Int))),(15,.im (nI (↑y778:Int))),(26,.im (nL cI e1053)),(27,.im (nI (↑(List.length e1053):Int))),(28,.im (nI (↑y1110:Int)))] [] []) (fun (best1109,y1110)=>lZ red_∧lZ e1053∧True) h (eA []) (by rintro ⟨best1109,y1110⟩;exact ((Holds.avl 1 rfl).and ((Holds.avl 26 rfl).and (hT)))) ?_
 clear h
 rintro k ⟨best1109,y1110⟩ o hp h ho1123
 replace h:zbn.s25 red_ e1053 best1109 y1110=some o:=h
 unfold zbn.s25 at h
 obtain ⟨z1136,z1137,_⟩:=hp
 conv=>whnf
 refine Both.mk ?_ ?_<;>intro b1124
 obtain ⟨h,b1124d⟩:=ctd b1124 h
 conv=>whnf
 obtain ⟨e1125,he1125,h⟩:=zab h
 refine ⟨_,⟨(by omega),map_at he1125,rfl⟩,?_⟩
 conv=>whnf
 obtain ⟨y1130,hc,hk1127⟩:=bind_some h
 clear h
 have h:=hc
 clear hc
 refine Cut.mk (mkSt [(1,.im (nL cB red_)),(2,.im (.ref (zak p_))),(6,.im (nI best1109)),(10,.im (nI e1125)),(13,.im (nL cB red_)),(14,.im (nI (↑(List.length red_):Int))),(15,.im (nI (↑y778:Int))),(26,.im (nL cI e1053)),(27,.im (nI (↑(List.length e1053):Int))),(28,.im (nI (↑y1110:Int))),(40,.im (nB y1130))] [] []) (lZ red_∧lZ e1053∧True) ((Holds.avl 1 rfl).and ((Holds.avl 26 rfl).and (hT))) ?_ (fun hp=>?_)
 conv=>whnf
 refine Both.mk ?_ ?_<;>intro b1131
 replace b1131:=beq_tt b1131
 obtain ⟨h,b1131d⟩:=ctd b1131 h
 conv=>whnf
 iterate 2 (refine Both.yes (tt_beq b1131) ?_;(conv=>whnf))
 obtain ⟨e1132,he1132z,he1132,h⟩:=idx_some h
 refine ⟨_,⟨he1132z,map_at he1132,rfl⟩,?_⟩
 conv=>whnf
 iterate 2 (refine Both.yes (tt_beq b1131) ?_;(conv=>whnf))
 refine Both.yes b1131 ?_
 conv=>whnf
 cases h
 exact Join.mk (eA [])
 replace b1131:=beq_tf b1131
 obtain ⟨h,b1131d⟩:=cfd b1131 h
 conv=>whnf
 iterate 4 (refine Both.no (ft_beq b1131) ?_;(conv=>whnf))
 refine Both.no b1131 ?_
 conv=>whnf
 cases h
 exact Join.mk (eA [])
 replace h:=hk1127
 obtain ⟨z1133,z1134,_⟩:=hp
 conv=>whnf
 refine Both.mk ?_ ?_<;>intro b1135
 replace h:=cond_t b1135 h
 conv=>whnf
 refine Arith.mk (by show inR _;unfold inR;omega) ?_
 conv=>whnf
 cases h
 exact Nxt.mk _ ho1123 (eA [])
 replace h:=cond_f b1135 h
 conv=>whnf
 refine Arith.mk (by show inR _;unfold inR;omega) ?_
 conv=>whnf
 cases h
 exact Nxt.mk _ ho1123 (eA [])
 obtain ⟨h,b1124d⟩:=cfd b1124 h
 conv=>whnf
 cases h
 have ho1123:_=_:=ho1123
 cases ho1123
 exact Join.mk (eA [])
 replace h:=hk1054
 obtain ⟨z1138,_⟩:=hp
 conv=>whnf
 cases h
 exact Join.mk (eA [])
 replace h:=hk961
 obtain ⟨z1139,_⟩:=hp
 conv=>whnf
 refine Arith.mk (by show inR _;unfold inR;omega) ?_
 conv=>whnf
 cases h
 exact Nxt.mk _ ho959 (eA [])
 obtain ⟨h,b960d⟩:=cfd b960 h
 conv=>whnf
 cases h
 have ho959:_=_:=ho959
 cases ho959
 exact Join.mk (eA [])
 replace h:=hk51
 obtain ⟨z1141,_⟩:=hp
 conv=>whnf
 refine Nf.mk (List.length red_) len_map ?_
 conv=>whnf
 cases h
 conv=>whnf
 exact ⟨rfl,rfl⟩
theorem zkd (p_:zaa) (red_:List Bool) (b_:Int) (r:zaa×List Bool) (h:Ok (.agg (zak p_))→Ok (nL cB red_)→Ok (nI b_)→za0 p_ red_ b_=some r):Sp Tryz.prog 50 [.im (.agg (zak p_)),.im (nL cB red_),.im (nI b_)] (.tup [.agg (zak r.1),nL cB r.2]):=by
 refine sp_of rfl [65,700003] rfl rfl rfl (Nat.le_of_ble_eq_true rfl) rfl fun hk=>?_
 replace h:=h hk.1 hk.2.1 hk.2.2.1
 have z1:lZ p_.Next:=ok_len (Ok.agg_at hk.1 2 rfl)
 have z2:lZ p_.Out:=ok_len (Ok.agg_at hk.1 3 rfl)
 have z3:lZ red_:=ok_len hk.2.1
 unfold za0 at h
 conv=>whnf
 refine Nf.mk (List.length red_) len_map ?_
 conv=>whnf
 obtain ⟨oc,hc,hk51⟩:=bind_some h
 clear h
 have h:=hc
 clear hc
 refine Cut.mkS oc (Y:=Unit) (fun (_:Unit)=>mkSt [(1,.im (nL cB red_)),(2,.im (nI b_)),(3,.im (.ref (zak p_))),(6,.own 73 1 0)] [(73,.box 24 4)] [(73,0,.im (nI 0)),(73,1,.im (nI 0)),(73,2,.im (.val (.slice none 0 0))),(73,3,.im (.val (.slice none 0 0)))]) (fun (_:Unit)=>lZ red_∧True) (by rintro ⟨⟩;exact ((Holds.avl 1 rfl).and (hT))) ?_ ?_
 conv=>whnf
 refine Loops.iter (fun (s:Nat)=>za0.s26 p_ red_ b_ s) (fun y1083=>mkSt [(1,.im (nL cB red_)),(2,.im (nI b_)),(3,.im (.ref (zak p_))),(6,.own 73 1 0),(17,.im (nL cB red_)),(18,.im (nI (↑(List.length red_):Int))),(19,.im (nI (↑y1083:Int)))] [(73,.box 24 4)] [(73,0,.im (nI 0)),(73,1,.im (nI 0)),(73,2,.im (.val (.slice none 0 0))),(73,3,.im (.val (.slice none 0 0)))]) (fun y1083=>lZ red_∧True) h (eA [(73,some 6)]) (by rintro y1083;exact ((Holds.avl 1 rfl).and (hT))) ?_
 clear h
 rintro k y1083 o hp h ho1343
 replace h:za0.s26 p_ red_ b_ y1083=some o:=h
 unfold za0.s26 at h
 obtain ⟨z1603,_⟩:=hp
 conv=>whnf
 refine Both.mk ?_ ?_<;>intro b1344
 obtain ⟨h,b1344d⟩:=ctd b1344 h
 conv=>whnf
 obtain ⟨oc,hc,hk1345⟩:=bind_some h
 clear h
 have h:=hc
 clear hc
 refine Cut.mkS oc (Y:=Unit) (fun (_:Unit)=>mkSt [(1,.im (nL cB red_)),(2,.im (nI b_)),(3,.im (.ref (zak p_))),(6,.own 73 1 0),(17,.im (nL cB red_)),(18,.im (nI (↑(List.length red_):Int))),(19,.im (nI (↑y1083:Int)))] [(73,.box 24 4)] [(73,0,.im (nI 0)),(73,1,.im (nI 0)),(73,2,.im (.val (.slice none 0 0))),(73,3,.im (.val (.slice none 0 0)))]) (fun (_:Unit)=>lZ red_∧True) (by rintro ⟨⟩;exact ((Holds.avl 1 rfl).and (hT))) ?_ ?_
 conv=>whnf
 obtain ⟨e1474,he1474,h⟩:=zab h
 refine ⟨_,⟨(by omega),map_at he1474,rfl⟩,?_⟩
 conv=>whnf
 refine Both.mk ?_ ?_<;>intro b1475
 replace h:=cond_t b1475 h
 conv=>whnf
 cases h
 exact JoinS.mk' _ rfl (eA [(73,some 73)])
 replace h:=cond_f b1475 h
 conv=>whnf
 obtain ⟨c1476,hc1476,h⟩:=bind_some h
 refine ⟨_,(zf5 p_ (↑y1083:Int) b_ c1476 (fun _ _ _=>hc1476)),?_⟩
 conv=>whnf
 refine Side.mk rfl ?_
 conv=>whnf
 refine Both.mk ?_ ?_<;>intro b1477
 replace h:=cond_t b1477 h
 conv=>whnf
 cases h
 exact JoinS.mk' _ rfl (eA [(73,some 73)])
 replace h:=cond_f b1477 h
 conv=>whnf
 refine Side.mk rfl ?_
 conv=>whnf
 refine Side.mk rfl ?_
 conv=>whnf
 refine Nf.mk (List.length c1476.1.Next) len_map ?_
 conv=>whnf
 obtain ⟨c1478,h⟩:=chk_some h
 refine Side.mk c1478 ?_
 conv=>whnf
 refine Nf.mk (List.map cB (List.replicate (List.length c1476.1.Next) false)) (rep_map (c:=cB) (z:=false) (n:=(List.length c1476.1.Next)) rfl rfl) ?_
 conv=>whnf
 refine Nf.mk (List.length red_) len_map ?_
 conv=>whnf
 obtain ⟨y1539,hc,hk1479⟩:=bind_some h
 clear h
 have h:=hc
 clear hc
 refine Cut.mk (mkSt [(6,.own 73 1 0),(10,.own 74 1 0),(13,.osl 75 1)] [(73,.box 24 4),(74,.box 24 4),(75,.row 4 1 (List.map cB y1539))] [(73,0,.im (nI 0)),(73,1,.im (nI 0)),(73,2,.im (.val (.slice none 0 0))),(73,3,.im (.val (.slice none 0 0))),(74,0,.im (nI c1476.1.Inputs)),(74,1,.im (nI c1476.1.Start)),(74,2,.im (nL (cL cI) c1476.1.Next)),(74,3,.im (nL (cL cI) c1476.1.Out))]) (lZ c1476.1.Next∧lZ c1476.1.Out∧lZ y1539∧True) ((Holds.cel 74 2 rfl (by decide) rfl).and ((Holds.cel 74 3 rfl (by decide) rfl).and ((Holds.kdl 75 rfl).and (hT)))) ?_ (fun hp=>?_)
 conv=>whnf
 refine Loops.iter (fun (s:List Bool×Nat)=>za0.s25 red_ c1476 s.1 s.2) (fun (y1557,y1558)=>mkSt [(6,.own 73 1 0),(10,.own 74 1 0),(11,.im (nL cI c1476.2.1)),(13,.osl 75 1),(40,.im (nL cB red_)),(41,.im (nI (↑(List.length red_):Int))),(42,.im (nI (↑y1558:Int)))] [(73,.box 24 4),(74,.box 24 4),(75,.row 4 1 (List.map cB y1557))] [(73,0,.im (nI 0)),(73,1,.im (nI 0)),(73,2,.im (.val (.slice none 0 0))),(73,3,.im (.val (.slice none 0 0))),(74,0,.im (nI c1476.1.Inputs)),(74,1,.im (nI c1476.1.Start)),(74,2,.im (nL (cL cI) c1476.1.Next)),(74,3,.im (nL (cL cI) c1476.1.Out))]) (fun (y1557,y1558)=>lZ c1476.2.1∧lZ red_∧lZ c1476.1.Next∧lZ c1476.1.Out∧lZ y1557∧True) h (eA [(73,some 73),(74,some 10),(75,some 39)]) (by rintro ⟨y1557,y1558⟩;exact ((Holds.avl 11 rfl).and ((Holds.avl 40 rfl).and ((Holds.cel 74 2 rfl (by decide) rfl).and ((Holds.cel 74 3 rfl (by decide) rfl).and ((Holds.kdl 75 rfl).and (hT))))))) ?_
 clear h
 rintro k ⟨y1557,y1558⟩ o hp h ho1576
 replace h:za0.s25 red_ c1476 y1557 y1558=some o:=h
 unfold za0.s25 at h
 obtain ⟨z1594,z1595,z1596,z1597,z1598,_⟩:=hp
 conv=>whnf
 refine Both.mk ?_ ?_<;>intro b1577
 obtain ⟨h,b1577d⟩:=ctd b1577 h
 conv=>whnf
 obtain ⟨e1578,he1578,h⟩:=zab h
 refine ⟨_,⟨(by omega),map_at he1578,rfl⟩,?_⟩
 conv=>whnf
 obtain ⟨y1583,hc,hk1580⟩:=bind_some h
 clear h
 have h:=hc
 clear hc
 refine Cut.mk (mkSt [(6,.own 73 1 0),(10,.own 74 1 0),(11,.im (nL cI c1476.2.1)),(13,.osl 75 1),(14,.im (nI (↑y1558:Int))),(40,.im (nL cB red_)),(41,.im (nI (↑(List.length red_):Int))),(42,.im (nI (↑y1558:Int))),(54,.im (nB y1583))] [(73,.box 24 4),(74,.box 24 4),(75,.row 4 1 (List.map cB y1557))] [(73,0,.im (nI 0)),(73,1,.im (nI 0)),(73,2,.im (.val (.slice none 0 0))),(73,3,.im (.val (.slice none 0 0))),(74,0,.im (nI c1476.1.Inputs)),(74,1,.im (nI c1476.1.Start)),(74,2,.im (nL (cL cI) c1476.1.Next)),(74,3,.im (nL (cL cI) c1476.1.Out))]) (lZ c1476.2.1∧lZ red_∧lZ c1476.1.Next∧lZ c1476.1.Out∧lZ y1557∧True) ((Holds.avl 11 rfl).and ((Holds.avl 40 rfl).and ((Holds.cel 74 2 rfl (by decide) rfl).and ((Holds.cel 74 3 rfl (by decide) rfl).and ((Holds.kdl 75 rfl).and (hT)))))) ?_ (fun hp=>?_)
 conv=>whnf
 refine Both.mk ?_ ?_<;>intro b1584
 replace b1584:=beq_tt b1584
 replace h:=cond_t b1584 h
 conv=>whnf
 iterate 2 (refine Both.yes (tt_beq b1584) ?_;(conv=>whnf))
 obtain ⟨e1585,he1585,h⟩:=zab h
 refine ⟨_,⟨(by omega),map_at he1585,rfl⟩,?_⟩
 conv=>whnf
 iterate 2 (refine Both.yes (tt_beq b1584) ?_;(conv=>whnf))
 refine Both.yes b1584 ?_
 conv=>whnf
 cases h
 exact Join.mk (eA [(73,some 73),(74,some 74),(75,some 75)])
 replace b1584:=beq_tf b1584
 replace h:=cond_f b1584 h
 conv=>whnf
 iterate 4 (refine Both.no (ft_beq b1584) ?_;(conv=>whnf))
 refine Both.no b1584 ?_
 conv=>whnf
 cases h
 exact Join.mk (eA [(73,some 73),(74,some 74),(75,some 75)])
 replace h:=hk1580
 obtain ⟨z1586,z1587,z1588,z1589,z1590,_⟩:=hp
 conv=>whnf
 refine Both.mk ?_ ?_<;>intro b1591
 replace h:=cond_t b1591 h
 conv=>whnf
 obtain ⟨e1592,he1592,h⟩:=zab h
 refine ⟨_,⟨(by omega),map_at he1592,rfl⟩,?_⟩
 conv=>whnf
 obtain ⟨e1593,he1593z,he1593,h⟩:=idx_some h
 refine Side.mk ⟨he1593z,rfl,map_lt he1593⟩ ?_
 conv=>whnf
 refine Side.mk ⟨rfl,trivial⟩ ?_
 conv=>whnf
 refine ⟨_,map_at he1593,?_⟩
 conv=>whnf
 refine Nf.mk (List.map cB (List.set y1557 e1592.toNat true)) (set_map rfl) ?_
 conv=>whnf
 refine Arith.mk (by show inR _;unfold inR;omega) ?_
 conv=>whnf
 cases h
 exact Nxt.mk _ ho1576 (eA [(73,some 73),(74,some 74),(75,some 75)])
 replace h:=cond_f b1591 h
 conv=>whnf
 refine Arith.mk (by show inR _;unfold inR;omega) ?_
 conv=>whnf
 cases h
 exact Nxt.mk _ ho1576 (eA [(73,some 73),(74,some 74),(75,some 75)])
 obtain ⟨h,b1577d⟩:=cfd b1577 h
 conv=>whnf
 cases h
 have ho1576:_=_:=ho1576
 cases ho1576
 exact Join.mk (eA [(73,some 73),(74,some 74),(75,some 75)])
 replace h:=hk1479
 obtain ⟨z1599,z1600,z1601,_⟩:=hp
 conv=>whnf
 refine Side.mk rfl ?_
 conv=>whnf
 refine Side.mk rfl ?_
 conv=>whnf
 cases h
 replace h:some _=some _:=hk1345
 cases h
 have ho1343:_=_:=ho1343
 cases ho1343
 replace h:some _=some _:=hk51
 cases h
 conv=>whnf
 refine Side.mk ⟨rfl,trivial⟩ ?_
 conv=>whnf
 exact Side.mk ⟨rfl,trivial⟩ ⟨rfl,rfl⟩
 rintro ⟨⟩ rfl hp
 replace h:=sum_inl hk1345
 obtain ⟨z1602,_⟩:=hp
 conv=>whnf
 refine Arith.mk (by show inR _;unfold inR;omega) ?_
 conv=>whnf
 cases h
 exact Nxt.mk _ ho1343 (eA [(73,some 73)])
 obtain ⟨h,b1344d⟩:=cfd b1344 h
 conv=>whnf
 cases h
 have ho1343:_=_:=ho1343
 cases ho1343
 exact JoinS.mk' _ rfl (eA [(73,some 73)])
 rintro ⟨⟩ rfl hp
 replace h:=sum_inl hk51
 obtain ⟨z1604,_⟩:=hp
 conv=>whnf
 obtain ⟨c1605,h⟩:=chk_some h
 refine Side.mk ⟨rfl,map_len (l:=red_) (c:=cB) fun _=>rfl,show capOk _ 1 by simpa only [List.length_map,List.length_cons,List.length_nil,Nat.zero_add] using c1605⟩ ?_
 conv=>whnf
 refine Nf.mk (List.map cB ([]++red_)) (app_map (l:=[]) (m:=red_) (c:=cB)) ?_
 conv=>whnf
 obtain ⟨e1606,he1606z,he1606,h⟩:=idx_some h
 refine Side.mk ⟨he1606z,rfl,map_lt he1606⟩ ?_
 conv=>whnf
 refine Side.mk ⟨rfl,trivial⟩ ?_
 conv=>whnf
 refine ⟨_,map_at he1606,?_⟩
 conv=>whnf
 refine Nf.mk (List.map cB (List.set ([]++red_) b_.toNat true)) (set_map rfl) ?_
 conv=>whnf
 refine Side.mk rfl ?_
 conv=>whnf
 cases h
 conv=>whnf
 refine Side.mk ⟨rfl,trivial⟩ ?_
 conv=>whnf
 exact Side.mk ⟨rfl,trivial⟩ ⟨rfl,rfl⟩
theorem zg8 (o_:zal) (r:zaa×Int) (h:Ok (.agg (zaz o_))→zbc o_=some r):Sp Tryz.prog 24 [.im (.agg (zaz o_))] (.tup [.agg (zak r.1),nI r.2]):=by
 refine sp_of rfl [700001] rfl rfl rfl (Nat.le_of_ble_eq_true rfl) rfl fun hk=>?_
 replace h:=h hk.1
 have z1:lZ o_.Traces:=ok_len (Ok.agg_at hk.1 1 rfl)
 unfold zbc at h
 conv=>whnf
 obtain ⟨c51,hc51,h⟩:=bind_some h
 refine ⟨_,(zfy o_ c51 (fun _=>hc51)),?_⟩
 conv=>whnf
 refine Side.mk rfl ?_
 conv=>whnf
 refine Both.mk ?_ ?_<;>intro b52
 obtain ⟨h,b52d⟩:=ctd b52 h
 conv=>whnf
 refine Side.mk rfl ?_
 conv=>whnf
 cases h
 conv=>whnf
 refine Side.mk ⟨rfl,trivial⟩ ?_
 conv=>whnf
 exact ⟨rfl,rfl⟩
 obtain ⟨h,b52d⟩:=cfd b52 h
 conv=>whnf
 refine Side.mk rfl ?_
 conv=>whnf
 refine Side.mk rfl ?_
 conv=>whnf
 refine Nf.mk (List.length c51.1.Next) len_map ?_
 conv=>whnf
 obtain ⟨c53,h⟩:=chk_some h
 refine Side.mk c53 ?_
 conv=>whnf
 refine Nf.mk (List.map cB (List.replicate (List.length c51.1.Next) false)) (rep_map (c:=cB) (z:=false) (n:=(List.length c51.1.Next)) rfl rfl) ?_
 conv=>whnf
 refine Side.mk rfl ?_
 conv=>whnf
 refine Side.mk rfl ?_
 conv=>whnf
 obtain ⟨e54,he54z,he54,h⟩:=idx_some h
 refine Side.mk ⟨he54z,rfl,map_lt he54⟩ ?_
 conv=>whnf
 refine Side.mk ⟨rfl,trivial⟩ ?_
 conv=>whnf
 refine ⟨_,map_at he54,?_⟩
 conv=>whnf
 refine Nf.mk (List.map cB (List.set (List.replicate (List.length c51.1.Next) false) c51.1.Start.toNat true)) (set_map rfl) ?_
 conv=>whnf
 refine Loops.iter (fun (s:Int×Int×List (List Int)×List (List Int)×List Bool)=>zbc.s1 s.1 s.2.1 s.2.2.1 s.2.2.2.1 s.2.2.2.2) (fun (y58,y59,y60,y61,red62)=>mkSt [(2,.own 64 1 0),(4,.own 65 1 0),(6,.im (nL cB red62))] [(64,.box 24 4),(65,.box 24 4)] [(64,0,.im (nI 0)),(64,1,.im (nI 0)),(64,2,.im (.val (.slice none 0 0))),(64,3,.im (.val (.slice none 0 0))),(65,0,.im (nI y58)),(65,1,.im (nI y59)),(65,2,.im (nL (cL cI) y60)),(65,3,.im (nL (cL cI) y61))]) (fun (y58,y59,y60,y61,red62)=>lZ red62∧lZ y60∧lZ y61∧True) h ((Ent.fz 6 rfl (by exact ⟨rfl,trivial⟩)).trans (eA [(64,some 2),(65,some 4)])) (by rintro ⟨y58,y59,y60,y61,red62⟩;exact ((Holds.avl 6 rfl).and ((Holds.cel 65 2 rfl (by decide) rfl).and ((Holds.cel 65 3 rfl (by decide) rfl).and (hT))))) ?_
 clear h
 rintro k ⟨y58,y59,y60,y61,red62⟩ o hp h ho66
 replace h:zbc.s1 y58 y59 y60 y61 red62=some o:=h
 unfold zbc.s1 at h
 obtain ⟨z70,z71,z72,_⟩:=hp
 conv=>whnf
 refine Side.mk rfl ?_
 conv=>whnf
 obtain ⟨c67,hc67,h⟩:=bind_some h
 refine ⟨_,(sp_merge_blue (⟨y58,y59,y60,y61⟩:zaa) red62 c67 (fun _ _=>hc67)),?_⟩
 conv=>whnf
 refine Both.mk ?_ ?_<;>intro b68
 replace h:=cond_t b68 h
 conv=>whnf
 refine Side.mk rfl ?_
 conv=>whnf
 refine Side.mk rfl ?_
 conv=>whnf
 cases h
 have ho66:_=_:=ho66
 cases ho66
 conv=>whnf
 refine Side.mk ⟨rfl,trivial⟩ ?_
 conv=>whnf
 exact ⟨rfl,rfl⟩
 replace h:=cond_f b68 h
 conv=>whnf
 refine Side.mk rfl ?_
 conv=>whnf
 obtain ⟨c69,hc69,h⟩:=bind_some h
 refine ⟨_,(zkd (⟨y58,y59,y60,y61⟩:zaa) red62 c67.1 c69 (fun _ _ _=>hc69)),?_⟩
 conv=>whnf
 refine Side.mk rfl ?_
 conv=>whnf
 cases h
 exact Nxt.mk _ ho66 (eA [(64,some 64),(65,some 65)])
theorem sp_L35_gate (r:zad) (h:L35_gate=some r):Sp Tryz.prog 33 [] (.im (.agg (zaf r))):=by
 refine sp_of rfl [] rfl rfl rfl (Nat.le_of_ble_eq_true rfl) rfl fun hk=>?_
 unfold L35_gate at h
 conv=>whnf
 refine Side.mk rfl ?_
 conv=>whnf
 cases h
 conv=>whnf
 refine Side.mk ⟨rfl,trivial⟩ ?_
 conv=>whnf
 exact ⟨rfl,rfl⟩
theorem zeh (slices_:List (List (List Int))) (r:List (List Int)) (h:Ok (nL (cL (cL cI)) slices_)→zap slices_=some r):Sp Tryz.prog 97 [.im (nL (cL (cL cI)) slices_)] (.row 25 1 (List.map (cL cI) r)):=by
 refine sp_of rfl [4025000] rfl rfl rfl (Nat.le_of_ble_eq_true rfl) rfl fun hk=>?_
 replace h:=h hk.1
 have z1:lZ slices_:=ok_len hk.1
 unfold zap at h
 conv=>whnf
 refine Nf.mk (List.length slices_) len_map ?_
 conv=>whnf
 obtain ⟨size68,hc,hk51⟩:=bind_some h
 clear h
 have h:=hc
 clear hc
 refine Cut.mk (mkSt [(0,.im (nL (cL (cL cI)) slices_)),(3,.im (nI (↑size68:Int)))] [] []) (lZ slices_∧True) ((Holds.avl 0 rfl).and (hT)) ?_ (fun hp=>?_)
 conv=>whnf
 refine Loops.iter (fun (s:Nat×Nat)=>zap.s2 slices_ s.1 s.2) (fun (size73,y74)=>mkSt [(0,.im (nL (cL (cL cI)) slices_)),(3,.im (nI (↑size73:Int))),(9,.im (nL (cL (cL cI)) slices_)),(10,.im (nI (↑(List.length slices_):Int))),(11,.im (nI (↑y74:Int)))] [] []) (fun (size73,y74)=>lZ slices_∧True) h (eA []) (by rintro ⟨size73,y74⟩;exact ((Holds.avl 0 rfl).and (hT))) ?_
 clear h
 rintro k ⟨size73,y74⟩ o hp h ho79
 replace h:zap.s2 slices_ size73 y74=some o:=h
 unfold zap.s2 at h
 obtain ⟨z84,_⟩:=hp
 conv=>whnf
 refine Both.mk ?_ ?_<;>intro b80
 obtain ⟨h,b80d⟩:=ctd b80 h
 conv=>whnf
 obtain ⟨e81,he81,h⟩:=zab h
 refine ⟨_,⟨(by omega),map_at he81,rfl⟩,?_⟩
 conv=>whnf
 refine Nf.mk (List.length e81) len_map ?_
 conv=>whnf
 obtain ⟨c82,h⟩:=chk_some h
 refine Arith.mk c82 ?_
 conv=>whnf
 refine Both.mk ?_ ?_<;>intro b83
 obtain ⟨h,b83d⟩:=ctd b83 h
 conv=>whnf
 cases h
 obtain ⟨h,b83d⟩:=cfd b83 h
 conv=>whnf
 refine Arith.mk (by show inR _;unfold inR;omega) ?_
 conv=>whnf
 cases h
 exact Nxt.mk _ ho79 (eA [])
 obtain ⟨h,b80d⟩:=cfd b80 h
 conv=>whnf
 cases h
 have ho79:_=_:=ho79
 cases ho79
 exact Join.mk (eA [])
 replace h:=hk51
 obtain ⟨z85,_⟩:=hp
 conv=>whnf
 obtain ⟨c86,hc86,h⟩:=bind_some h
 refine ⟨_,(zil (↑size68:Int) c86 (hc86)),?_⟩
 conv=>whnf
 refine Nf.mk (List.length slices_) len_map ?_
 conv=>whnf
 obtain ⟨y102,hc,hk87⟩:=bind_some h
 clear h
 have h:=hc
 clear hc
 refine Cut.mk (mkSt [(6,.osl 64 1)] [(64,.row 25 1 (List.map (cL cI) y102))] []) (lZ y102∧True) ((Holds.kdl 64 rfl).and (hT)) ?_ (fun hp=>?_)
 conv=>whnf
 refine Loops.iter (fun (s:List (List Int)×Nat)=>zap.s4 slices_ s.1 s.2) (fun (y106,y107)=>mkSt [(6,.osl 64 1),(25,.im (nL (cL (cL cI)) slices_)),(26,.im (nI (↑(List.length slices_):Int))),(27,.im (nI (↑y107:Int)))] [(64,.row 25 1 (List.map (cL cI) y106))] []) (fun (y106,y107)=>lZ slices_∧lZ y106∧True) h (eA [(64,some 24)]) (by rintro ⟨y106,y107⟩;exact ((Holds.avl 25 rfl).and ((Holds.kdl 64 rfl).and (hT)))) ?_
 clear h
 rintro k ⟨y106,y107⟩ o hp h ho111
 replace h:zap.s4 slices_ y106 y107=some o:=h
 unfold zap.s4 at h
 obtain ⟨z115,z116,_⟩:=hp
 conv=>whnf
 refine Both.mk ?_ ?_<;>intro b112
 obtain ⟨h,b112d⟩:=ctd b112 h
 conv=>whnf
 obtain ⟨e113,he113,h⟩:=zab h
 refine ⟨_,⟨(by omega),map_at he113,rfl⟩,?_⟩
 conv=>whnf
 obtain ⟨c114,h⟩:=chk_some h
 refine Side.mk ⟨rfl,map_len (l:=e113) (c:=cL cI) fun _=>rfl,show capOk _ 24 by simpa only [List.length_map,List.length_cons,List.length_nil,Nat.zero_add] using c114⟩ ?_
 conv=>whnf
 refine Nf.mk (List.map (cL cI) (y106++e113)) (app_map (l:=y106) (m:=e113) (c:=cL cI)) ?_
 conv=>whnf
 refine Arith.mk (by show inR _;unfold inR;omega) ?_
 conv=>whnf
 cases h
 exact Nxt.mk _ ho111 (eA [(64,some 64)])
 obtain ⟨h,b112d⟩:=cfd b112 h
 conv=>whnf
 cases h
 have ho111:_=_:=ho111
 cases ho111
 exact Join.mk (eA [(64,some 64)])
 replace h:=hk87
 obtain ⟨z117,_⟩:=hp
 conv=>whnf
 cases h
 conv=>whnf
 exact Side.mk ⟨rfl,trivial⟩ ⟨rfl,rfl⟩
theorem zg3 (a_:List Int) (b_:List Int) (p2_:(List Int)→(List Int)→Option Int) (f2_:FuncId) (hf2:∀ x0 x1 r,p2_ x0 x1=some r→Sp Tryz.prog f2_ [.im (nL cI x0),.im (nL cI x1)] (.im (nI r))) (r:Bool) (h:Ok (nL cI a_)→Ok (nL cI b_)→Ok (.ref [.fn f2_ []])→zc4 a_ b_ p2_=some r):Sp Tryz.prog 134 [.im (nL cI a_),.im (nL cI b_),.im (.ref [.fn f2_ []])] (.im (nB r)):=by
 refine sp_of rfl [] rfl rfl rfl (Nat.le_of_ble_eq_true rfl) rfl fun hk=>?_
 replace h:=h hk.1 hk.2.1 hk.2.2.1
 have z1:lZ a_:=ok_len hk.1
 have z2:lZ b_:=ok_len hk.2.1
 unfold zc4 at h
 conv=>whnf
 obtain ⟨c51,hc51,h⟩:=bind_some h
 refine ⟨_,hf2 a_ b_ c51 hc51,?_⟩
 conv=>whnf
 cases h
 conv=>whnf
 exact ⟨rfl,rfl⟩
theorem zdf (s_:List (List Int)) (eq_:(List Int)→(List Int)→Option Bool) (f1_:FuncId) (k1_0:IV) (hk1_0:nz k1_0=k1_0) (hf1:∀ x0 x1 r,eq_ x0 x1=some r→Sp Tryz.prog f1_ [.im (nL cI x0),.im (nL cI x1),.im k1_0] (.im (nB r))) (r:List (List Int)) (h:OkL (List.map (cL cI) s_)→Ok (.fn f1_ [k1_0])→zah s_ eq_=some r):Sp Tryz.prog 133 [.row 25 1 (List.map (cL cI) s_),.im (.fn f1_ [k1_0])] (.row 25 1 (List.map (cL cI) r)):=by
 refine sp_of rfl [] rfl rfl rfl (Nat.le_of_ble_eq_true rfl) rfl fun hk=>?_
 replace h:=h hk.1 hk.2.1
 have z1:lZ s_:=okl_len hk.1
 unfold zah at h
 conv=>whnf
 refine Side.mk rfl ?_
 conv=>whnf
 refine Nf.mk (List.length s_) len_map ?_
 conv=>whnf
 refine Both.mk ?_ ?_<;>intro b51
 obtain ⟨h,b51d⟩:=ctd b51 h
 conv=>whnf
 cases h
 conv=>whnf
 exact Side.mk ⟨rfl,trivial⟩ ⟨rfl,rfl⟩
 obtain ⟨h,b51d⟩:=cfd b51 h
 conv=>whnf
 obtain ⟨oc,hc,hk52⟩:=bind_some h
 clear h
 have h:=hc
 clear hc
 refine Cut.mkS oc (Y:=Unit) (fun (_:Unit)=>mkSt [(0,.osl 66 1)] [(66,.row 25 1 (List.map (cL cI) s_))] []) (fun (_:Unit)=>lZ s_∧True) (by rintro ⟨⟩;exact ((Holds.kdl 66 rfl).and (hT))) ?_ ?_
 conv=>whnf
 refine Loops.iter (fun (s:Nat)=>zah.s20 s_ eq_ s) (fun k356=>mkSt [(0,.osl 66 1),(1,.im (.fn f1_ [k1_0])),(5,.im (nI (↑k356:Int)))] [(66,.row 25 1 (List.map (cL cI) s_))] []) (fun k356=>lZ s_∧True) h (eA [(66,some 0)]) (by rintro k356;exact ((Holds.kdl 66 rfl).and (hT))) ?_
 clear h
 rintro k k356 o hp h ho432
 replace h:zah.s20 s_ eq_ k356=some o:=h
 unfold zah.s20 at h
 obtain ⟨z508,_⟩:=hp
 conv=>whnf
 refine Side.mk rfl ?_
 conv=>whnf
 refine Nf.mk (List.length s_) len_map ?_
 conv=>whnf
 refine Both.mk ?_ ?_<;>intro b433
 obtain ⟨h,b433d⟩:=ctd b433 h
 conv=>whnf
 obtain ⟨e434,he434,h⟩:=zab h
 refine Side.mk ⟨(by omega),rfl,map_lt he434⟩ ?_
 conv=>whnf
 refine ⟨_,_,⟨rfl,map_at he434,rfl,rfl⟩,?_⟩
 conv=>whnf
 refine Arith.mk (by show inR _;unfold inR;omega) ?_
 conv=>whnf
 obtain ⟨e435,he435z,he435,h⟩:=idx_some h
 refine Side.mk ⟨he435z,rfl,map_lt he435⟩ ?_
 conv=>whnf
 refine ⟨_,_,⟨rfl,map_at he435,rfl,rfl⟩,?_⟩
 conv=>whnf
 obtain ⟨c436,hc436,h⟩:=bind_some h
 refine ⟨_,Sp.args (hf1 e434 e435 c436 hc436) (by rw [hk1_0];try rfl),?_⟩
 conv=>whnf
 refine Both.mk ?_ ?_<;>intro b437
 replace h:=cond_t b437 h
 conv=>whnf
 obtain ⟨c438,h⟩:=chk_some h
 refine Side.mk ⟨rfl,c438.1,by have hh_:=c438;simp only [List.length_map];omega,by have hh_:=c438;simp only [List.length_map];omega⟩ ?_
 conv=>whnf
 obtain ⟨⟨y471,k472⟩,hc,hk439⟩:=bind_some h
 clear h
 have h:=hc
 clear hc
 refine Cut.mk (mkSt [(0,.osl 66 1),(5,.im (nI (↑k472:Int)))] [(66,.row 25 1 (List.map (cL cI) y471))] []) (lZ y471∧True) ((Holds.kdl 66 rfl).and (hT)) ?_ (fun hp=>?_)
 conv=>whnf
 refine Loops.iter (fun (s:List (List Int)×Nat×Nat)=>zah.s18 eq_ k356 s.1 s.2.1 s.2.2) (fun (y481,k482,y483)=>mkSt [(0,.osl 66 1),(1,.im (.fn f1_ [k1_0])),(5,.im (nI (↑k482:Int))),(6,.osv 66 1 k356 1),(7,.im (nI (↑y483:Int)))] [(66,.row 25 1 (List.map (cL cI) y481))] []) (fun (y481,k482,y483)=>lZ y481∧True) h (Ent.mk [(66,some 66)] rfl ⟨⟨.osl 66 _,rfl,.osl rfl rfl rfl⟩,eI rfl rfl,eI rfl rfl,⟨.osv 66 _ _ _,rfl,.osv rfl rfl rfl⟩,eI rfl rfl,trivial⟩ ⟨.inl ⟨66,rfl,rfl,trivial⟩,trivial⟩ trivial) (by rintro ⟨y481,k482,y483⟩;exact ((Holds.kdl 66 rfl).and (hT))) ?_
 clear h
 rintro k ⟨y481,k482,y483⟩ o hp h ho493
 replace h:zah.s18 eq_ k356 y481 k482 y483=some o:=h
 unfold zah.s18 at h
 obtain ⟨z503,_⟩:=hp
 conv=>whnf
 refine Side.mk rfl ?_
 conv=>whnf
 refine Nf.mk (List.length y481-k356) len_own ?_
 conv=>whnf
 refine Both.mk ?_ ?_<;>intro b494
 obtain ⟨h,b494d⟩:=ctd b494 h
 conv=>whnf
 obtain ⟨e495,he495,h⟩:=zab h
 refine Side.mk ⟨(by omega),rfl,map_lt he495⟩ ?_
 conv=>whnf
 refine Nf.mk (k356+y483) rfl ?_
 conv=>whnf
 refine ⟨_,_,⟨rfl,map_at he495,rfl,rfl⟩,?_⟩
 conv=>whnf
 refine Arith.mk (by show inR _;unfold inR;omega) ?_
 conv=>whnf
 obtain ⟨c497,h⟩:=chk_some h
 obtain ⟨e496,he496,h⟩:=zab h
 refine Side.mk ⟨c497,rfl,map_lt he496⟩ ?_
 conv=>whnf
 refine Nf.mk (k356+(Int.toNat ((↑y483:Int)-1))) rfl ?_
 conv=>whnf
 refine ⟨_,_,⟨rfl,map_at he496,rfl,rfl⟩,?_⟩
 conv=>whnf
 obtain ⟨c498,hc498,h⟩:=bind_some h
 refine ⟨_,Sp.args (hf1 e495 e496 c498 hc498) (by rw [hk1_0];try rfl),?_⟩
 conv=>whnf
 refine Both.mk ?_ ?_<;>intro b499
 replace h:=cond_t b499 h
 conv=>whnf
 obtain ⟨e500,he500,h⟩:=zab h
 refine Side.mk ⟨(by omega),rfl,map_lt he500⟩ ?_
 conv=>whnf
 refine Nf.mk (k356+y483) rfl ?_
 conv=>whnf
 refine ⟨_,_,⟨rfl,map_at he500,rfl,rfl⟩,?_⟩
 conv=>whnf
 obtain ⟨e501,he501,h⟩:=zab h
 refine Side.mk ⟨(by omega),rfl,map_lt he501⟩ ?_
 conv=>whnf
 refine Side.mk ⟨rfl,trivial⟩ ?_
 conv=>whnf
 refine ⟨_,map_at he501,?_⟩
 conv=>whnf
 refine Nf.mk (List.map (cL cI) (List.set y481 k482 e500)) (set_map rfl) ?_
 conv=>whnf
 obtain ⟨c502,h⟩:=chk_some h
 refine Arith.mk c502 ?_
 conv=>whnf
 refine Arith.mk (by show inR _;unfold inR;omega) ?_
 conv=>whnf
 cases h
 exact Nxt.mk _ ho493 (Ent.mk [(66,some 66)] rfl ⟨⟨.osl 66 _,rfl,.osl rfl rfl rfl⟩,eI rfl rfl,eI rfl rfl,⟨.osv 66 _ _ _,rfl,.osv rfl rfl rfl⟩,eI rfl rfl,trivial⟩ ⟨.inl ⟨66,rfl,rfl,trivial⟩,trivial⟩ trivial)
 replace h:=cond_f b499 h
 conv=>whnf
 refine Arith.mk (by show inR _;unfold inR;omega) ?_
 conv=>whnf
 cases h
 exact Nxt.mk _ ho493 (Ent.mk [(66,some 66)] rfl ⟨⟨.osl 66 _,rfl,.osl rfl rfl rfl⟩,eI rfl rfl,eI rfl rfl,⟨.osv 66 _ _ _,rfl,.osv rfl rfl rfl⟩,eI rfl rfl,trivial⟩ ⟨.inl ⟨66,rfl,rfl,trivial⟩,trivial⟩ trivial)
 obtain ⟨h,b494d⟩:=cfd b494 h
 conv=>whnf
 cases h
 have ho493:_=_:=ho493
 cases ho493
 exact Join.mk (eA [(66,some 66)])
 replace h:zah.k19 y471 k472=some _:=hk439
 unfold zah.k19 at h
 obtain ⟨z504,_⟩:=hp
 conv=>whnf
 obtain ⟨c505,h⟩:=chk_some h
 refine Side.mk ⟨rfl,c505.1,by have hh_:=c505;simp only [List.length_map];omega,by have hh_:=c505;simp only [List.length_map];omega⟩ ?_
 conv=>whnf
 obtain ⟨c506,h⟩:=chk_some h
 refine Side.mk ⟨rfl,by have hh_:=c506;simp only [List.length_map];omega⟩ ?_
 conv=>whnf
 refine Nf.mk (List.map (cL cI) (List.take k472 y471++List.replicate (List.length y471-k472) [])) (clr_map (z:=[]) rfl) ?_
 conv=>whnf
 obtain ⟨c507,h⟩:=chk_some h
 refine Side.mk ⟨rfl,c507.1,by have hh_:=c507;simp only [List.length_map];omega,by have hh_:=c507;simp only [List.length_map];omega⟩ ?_
 conv=>whnf
 refine Nf.mk (List.map (cL cI) (List.take k472 (List.take k472 y471++List.replicate (List.length y471-k472) []))) cut_own ?_
 conv=>whnf
 cases h
 have ho432:_=_:=ho432
 cases ho432
 replace h:some _=some _:=hk52
 cases h
 conv=>whnf
 exact Side.mk ⟨rfl,trivial⟩ ⟨rfl,rfl⟩
 replace h:=cond_f b437 h
 conv=>whnf
 refine Arith.mk (by show inR _;unfold inR;omega) ?_
 conv=>whnf
 cases h
 exact Nxt.mk _ ho432 (eA [(66,some 66)])
 obtain ⟨h,b433d⟩:=cfd b433 h
 conv=>whnf
 cases h
 have ho432:_=_:=ho432
 cases ho432
 exact JoinS.mk' _ rfl (eA [(66,some 66)])
 rintro ⟨⟩ rfl hp
 replace h:=sum_inl hk52
 obtain ⟨z509,_⟩:=hp
 conv=>whnf
 cases h
 conv=>whnf
 exact Side.mk ⟨rfl,trivial⟩ ⟨rfl,rfl⟩
theorem zez (l_:List (List Int)) (order_:(List Int)→(List Int)→Option Int) (f1_:FuncId) (hf1:∀ x0 x1 r,order_ x0 x1=some r→Sp Tryz.prog f1_ [.im (nL cI x0),.im (nL cI x1)] (.im (nI r))) (hd1:CmpE Tryz.prog f1_ (fun x=>nL cI x) order_) (r:List (List Int)) (h:Ok (nL (cL cI) l_)→Ok (.fn f1_ [])→zb0 l_ order_=some r):Sp Tryz.prog 98 [.im (nL (cL cI) l_),.im (.fn f1_ [])] (.row 25 1 (List.map (cL cI) r)):=by
 refine sp_of rfl [13000,16000,2013000] rfl rfl rfl (Nat.le_of_ble_eq_true rfl) rfl fun hk=>?_
 replace h:=h hk.1 hk.2.1
 have z1:lZ l_:=ok_len hk.1
 unfold zb0 at h
 conv=>whnf
 obtain ⟨c51,hc51,h⟩:=bind_some h
 refine ⟨_,(zh9 l_ c51 (hc51)),?_⟩
 conv=>whnf
 refine Side.mk rfl ?_
 conv=>whnf
 refine Side.mk ⟨rfl,trivial⟩ ?_
 conv=>whnf
 obtain ⟨c52,hc52,h⟩:=bind_some h
 refine ⟨_,(zd0 c51 order_ f1_ hd1 c52 (hc52)),?_⟩
 conv=>whnf
 refine Side.mk ⟨rfl,rfl,trivial⟩ ?_
 conv=>whnf
 obtain ⟨c53,hc53,h⟩:=bind_some h
 refine ⟨_,(zdf c52 (fun u0 u1=>zc4 u0 u1 order_) 134 (.ref [.fn f1_ []]) rfl (fun u0 u1 r h=>(zg3 u0 u1 order_ f1_ hf1 r (fun _ _ _=>h))) c53 (fun _ _=>hc53)),?_⟩
 conv=>whnf
 refine Side.mk rfl ?_
 conv=>whnf
 refine Nf.mk (List.length c53) len_map ?_
 conv=>whnf
 obtain ⟨y73,hc,hk54⟩:=bind_some h
 clear h
 have h:=hc
 clear hc
 refine Cut.mk (mkSt [(5,.osl 64 1)] [(64,.row 25 1 (List.map (cL cI) y73))] []) (lZ y73∧True) ((Holds.kdl 64 rfl).and (hT)) ?_ (fun hp=>?_)
 conv=>whnf
 refine Loops.iter (fun (s:List (List Int)×Nat)=>zb0.s2 c53 s.1 s.2) (fun (y78,y79)=>mkSt [(5,.osl 64 1),(16,.osl 64 1),(17,.im (nI (↑(List.length c53):Int))),(18,.im (nI (↑y79:Int)))] [(64,.row 25 1 (List.map (cL cI) y78))] []) (fun (y78,y79)=>lZ y78∧True) h (eA [(64,some 15)]) (by rintro ⟨y78,y79⟩;exact ((Holds.kdl 64 rfl).and (hT))) ?_
 clear h
 rintro k ⟨y78,y79⟩ o hp h ho85
 replace h:zb0.s2 c53 y78 y79=some o:=h
 unfold zb0.s2 at h
 obtain ⟨z91,_⟩:=hp
 conv=>whnf
 refine Both.mk ?_ ?_<;>intro b86
 obtain ⟨h,b86d⟩:=ctd b86 h
 conv=>whnf
 obtain ⟨e87,he87,h⟩:=zab h
 refine Side.mk ⟨(by omega),rfl,map_lt he87⟩ ?_
 conv=>whnf
 refine ⟨_,_,⟨rfl,map_at he87,rfl,rfl⟩,?_⟩
 conv=>whnf
 obtain ⟨c88,hc88,h⟩:=bind_some h
 refine ⟨_,(zf3 e87 c88 (hc88)).im,?_⟩
 conv=>whnf
 obtain ⟨e89,he89,h⟩:=zab h
 refine Side.mk ⟨(by omega),rfl,map_lt he89⟩ ?_
 conv=>whnf
 refine Side.mk ⟨rfl,trivial⟩ ?_
 conv=>whnf
 refine ⟨_,map_at he89,?_⟩
 conv=>whnf
 refine Nf.mk (List.map (cL cI) (List.set y78 y79 c88)) (set_map rfl) ?_
 conv=>whnf
 obtain ⟨c90,h⟩:=chk_some h
 refine Arith.mk c90 ?_
 conv=>whnf
 cases h
 exact Nxt.mk _ ho85 (eA [(64,some 64)])
 obtain ⟨h,b86d⟩:=cfd b86 h
 conv=>whnf
 cases h
 have ho85:_=_:=ho85
 cases ho85
 exact Join.mk (eA [(64,some 64)])
 replace h:=hk54
 obtain ⟨z92,_⟩:=hp
 conv=>whnf
 cases h
 conv=>whnf
 exact Side.mk ⟨rfl,trivial⟩ ⟨rfl,rfl⟩
theorem zcj (l_:List (List Int)) (r:List (List Int)) (h:Ok (nL (cL cI) l_)→zce l_=some r):Sp Tryz.prog 89 [.im (nL (cL cI) l_)] (.row 25 1 (List.map (cL cI) r)):=by
 refine sp_of rfl [] rfl rfl rfl (Nat.le_of_ble_eq_true rfl) rfl fun hk=>?_
 replace h:=h hk.1
 have z1:lZ l_:=ok_len hk.1
 unfold zce at h
 conv=>whnf
 obtain ⟨c51,hc51,h⟩:=bind_some h
 refine ⟨_,(zez l_ (fun u0 u1=>zcg u0 u1) 96 (fun u0 u1 r h=>(zgr u0 u1 r (fun _ _=>h))) zfl c51 (fun _ _=>hc51)),?_⟩
 conv=>whnf
 cases h
 conv=>whnf
 exact Side.mk ⟨rfl,trivial⟩ ⟨rfl,rfl⟩
theorem zf0 (lists_:List (List (List Int))) (r:List (List Int)) (h:Ok (nL (cL (cL cI)) lists_)→zd9 lists_=some r):Sp Tryz.prog 60 [.im (nL (cL (cL cI)) lists_)] (.im (nL (cL cI) r)):=by
 refine sp_of rfl [] rfl rfl rfl (Nat.le_of_ble_eq_true rfl) rfl fun hk=>?_
 replace h:=h hk.1
 have z1:lZ lists_:=ok_len hk.1
 unfold zd9 at h
 conv=>whnf
 obtain ⟨c51,hc51,h⟩:=bind_some h
 refine ⟨_,(zeh lists_ c51 (fun _=>hc51)).im,?_⟩
 conv=>whnf
 obtain ⟨c52,hc52,h⟩:=bind_some h
 refine ⟨_,(zcj c51 c52 (fun _=>hc52)).im,?_⟩
 conv=>whnf
 cases h
 conv=>whnf
 exact ⟨rfl,rfl⟩
theorem zey (l_:List (List Int)) (r:Int) (h:Ok (nL (cL cI) l_)→zby l_=some r):Sp Tryz.prog 93 [.im (nL (cL cI) l_)] (.im (nI r)):=by
 refine sp_of rfl [] rfl rfl rfl (Nat.le_of_ble_eq_true rfl) rfl fun hk=>?_
 replace h:=h hk.1
 have z1:lZ l_:=ok_len hk.1
 unfold zby at h
 conv=>whnf
 refine Nf.mk (List.length l_) len_map ?_
 conv=>whnf
 obtain ⟨n62,hc,hk51⟩:=bind_some h
 clear h
 have h:=hc
 clear hc
 refine Cut.mk (mkSt [(3,.im (nI n62))] [] []) (True) (hT) ?_ (fun hp=>?_)
 conv=>whnf
 refine Loops.iter (fun (s:Int×Nat)=>zby.s2 l_ s.1 s.2) (fun (n65,y66)=>mkSt [(3,.im (nI n65)),(6,.im (nL (cL cI) l_)),(7,.im (nI (↑(List.length l_):Int))),(8,.im (nI (↑y66:Int)))] [] []) (fun (n65,y66)=>lZ l_∧True) h (eA []) (by rintro ⟨n65,y66⟩;exact ((Holds.avl 6 rfl).and (hT))) ?_
 clear h
 rintro k ⟨n65,y66⟩ o hp h ho69
 replace h:zby.s2 l_ n65 y66=some o:=h
 unfold zby.s2 at h
 obtain ⟨z72,_⟩:=hp
 conv=>whnf
 refine Both.mk ?_ ?_<;>intro b70
 obtain ⟨h,b70d⟩:=ctd b70 h
 conv=>whnf
 obtain ⟨e71,he71,h⟩:=zab h
 refine ⟨_,⟨(by omega),map_at he71,rfl⟩,?_⟩
 conv=>whnf
 refine Nf.mk (List.length e71) len_map ?_
 conv=>whnf
 refine Arith.mk (by show inR _;unfold inR;omega) ?_
 conv=>whnf
 cases h
 exact Nxt.mk _ ho69 (eA [])
 obtain ⟨h,b70d⟩:=cfd b70 h
 conv=>whnf
 cases h
 have ho69:_=_:=ho69
 cases ho69
 exact Join.mk (eA [])
 replace h:=hk51
 conv=>whnf
 cases h
 conv=>whnf
 exact ⟨rfl,rfl⟩
theorem ze6 (slices_:List (List Int)) (r:List Int) (h:Ok (nL (cL cI) slices_)→zaw slices_=some r):Sp Tryz.prog 118 [.im (nL (cL cI) slices_)] (.row 3 1 (List.map cI r)):=by
 refine sp_of rfl [4025000] rfl rfl rfl (Nat.le_of_ble_eq_true rfl) rfl fun hk=>?_
 replace h:=h hk.1
 have z1:lZ slices_:=ok_len hk.1
 unfold zaw at h
 conv=>whnf
 refine Nf.mk (List.length slices_) len_map ?_
 conv=>whnf
 obtain ⟨size68,hc,hk51⟩:=bind_some h
 clear h
 have h:=hc
 clear hc
 refine Cut.mk (mkSt [(0,.im (nL (cL cI) slices_)),(3,.im (nI (↑size68:Int)))] [] []) (lZ slices_∧True) ((Holds.avl 0 rfl).and (hT)) ?_ (fun hp=>?_)
 conv=>whnf
 refine Loops.iter (fun (s:Nat×Nat)=>zaw.s2 slices_ s.1 s.2) (fun (size73,y74)=>mkSt [(0,.im (nL (cL cI) slices_)),(3,.im (nI (↑size73:Int))),(9,.im (nL (cL cI) slices_)),(10,.im (nI (↑(List.length slices_):Int))),(11,.im (nI (↑y74:Int)))] [] []) (fun (size73,y74)=>lZ slices_∧True) h (eA []) (by rintro ⟨size73,y74⟩;exact ((Holds.avl 0 rfl).and (hT))) ?_
 clear h
 rintro k ⟨size73,y74⟩ o hp h ho79
 replace h:zaw.s2 slices_ size73 y74=some o:=h
 unfold zaw.s2 at h
 obtain ⟨z84,_⟩:=hp
 conv=>whnf
 refine Both.mk ?_ ?_<;>intro b80
 obtain ⟨h,b80d⟩:=ctd b80 h
 conv=>whnf
 obtain ⟨e81,he81,h⟩:=zab h
 refine ⟨_,⟨(by omega),map_at he81,rfl⟩,?_⟩
 conv=>whnf
 refine Nf.mk (List.length e81) len_map ?_
 conv=>whnf
 obtain ⟨c82,h⟩:=chk_some h
 refine Arith.mk c82 ?_
 conv=>whnf
 refine Both.mk ?_ ?_<;>intro b83
 obtain ⟨h,b83d⟩:=ctd b83 h
 conv=>whnf
 cases h
 obtain ⟨h,b83d⟩:=cfd b83 h
 conv=>whnf
 refine Arith.mk (by show inR _;unfold inR;omega) ?_
 conv=>whnf
 cases h
 exact Nxt.mk _ ho79 (eA [])
 obtain ⟨h,b80d⟩:=cfd b80 h
 conv=>whnf
 cases h
 have ho79:_=_:=ho79
 cases ho79
 exact Join.mk (eA [])
 replace h:=hk51
 obtain ⟨z85,_⟩:=hp
 conv=>whnf
 obtain ⟨c86,hc86,h⟩:=bind_some h
 refine ⟨_,(zks (↑size68:Int) c86 (hc86)),?_⟩
 conv=>whnf
 refine Nf.mk (List.length slices_) len_map ?_
 conv=>whnf
 obtain ⟨y102,hc,hk87⟩:=bind_some h
 clear h
 have h:=hc
 clear hc
 refine Cut.mk (mkSt [(6,.osl 64 1)] [(64,.row 3 1 (List.map cI y102))] []) (lZ y102∧True) ((Holds.kdl 64 rfl).and (hT)) ?_ (fun hp=>?_)
 conv=>whnf
 refine Loops.iter (fun (s:List Int×Nat)=>zaw.s4 slices_ s.1 s.2) (fun (y106,y107)=>mkSt [(6,.osl 64 1),(25,.im (nL (cL cI) slices_)),(26,.im (nI (↑(List.length slices_):Int))),(27,.im (nI (↑y107:Int)))] [(64,.row 3 1 (List.map cI y106))] []) (fun (y106,y107)=>lZ slices_∧lZ y106∧True) h (eA [(64,some 24)]) (by rintro ⟨y106,y107⟩;exact ((Holds.avl 25 rfl).and ((Holds.kdl 64 rfl).and (hT)))) ?_
 clear h
 rintro k ⟨y106,y107⟩ o hp h ho111
 replace h:zaw.s4 slices_ y106 y107=some o:=h
 unfold zaw.s4 at h
 obtain ⟨z115,z116,_⟩:=hp
 conv=>whnf
 refine Both.mk ?_ ?_<;>intro b112
 obtain ⟨h,b112d⟩:=ctd b112 h
 conv=>whnf
 obtain ⟨e113,he113,h⟩:=zab h
 refine ⟨_,⟨(by omega),map_at he113,rfl⟩,?_⟩
 conv=>whnf
 obtain ⟨c114,h⟩:=chk_some h
 refine Side.mk ⟨rfl,map_len (l:=e113) (c:=cI) fun _=>rfl,show capOk _ 8 by simpa only [List.length_map,List.length_cons,List.length_nil,Nat.zero_add] using c114⟩ ?_
 conv=>whnf
 refine Nf.mk (List.map cI (y106++e113)) (app_map (l:=y106) (m:=e113) (c:=cI)) ?_
 conv=>whnf
 refine Arith.mk (by show inR _;unfold inR;omega) ?_
 conv=>whnf
 cases h
 exact Nxt.mk _ ho111 (eA [(64,some 64)])
 obtain ⟨h,b112d⟩:=cfd b112 h
 conv=>whnf
 cases h
 have ho111:_=_:=ho111
 cases ho111
 exact Join.mk (eA [(64,some 64)])
 replace h:=hk87
 obtain ⟨z117,_⟩:=hp
 conv=>whnf
 cases h
 conv=>whnf
 exact Side.mk ⟨rfl,trivial⟩ ⟨rfl,rfl⟩
theorem zd2 (parts_:List (List Int)) (r:List Int) (h:Ok (nL (cL cI) parts_)→zei parts_=some r):Sp Tryz.prog 88 [.im (nL (cL cI) parts_)] (.im (nL cI r)):=by
 refine sp_of rfl [] rfl rfl rfl (Nat.le_of_ble_eq_true rfl) rfl fun hk=>?_
 replace h:=h hk.1
 have z1:lZ parts_:=ok_len hk.1
 unfold zei at h
 conv=>whnf
 obtain ⟨c51,hc51,h⟩:=bind_some h
 refine ⟨_,(ze6 parts_ c51 (fun _=>hc51)).im,?_⟩
 conv=>whnf
 cases h
 conv=>whnf
 exact ⟨rfl,rfl⟩
theorem zh8 (a_:List (List Int)) (b_:List (List Int)) (r:List (List Int)×Int) (h:Ok (nL (cL cI) a_)→Ok (nL (cL cI) b_)→zax a_ b_=some r):Sp Tryz.prog 59 [.im (nL (cL cI) a_),.im (nL (cL cI) b_)] (.tup [nL (cL cI) r.1,nI r.2]):=by
 refine sp_of rfl [73000,2073000] rfl rfl rfl (Nat.le_of_ble_eq_true rfl) rfl fun hk=>?_
 replace h:=h hk.1 hk.2.1
 have z1:lZ a_:=ok_len hk.1
 have z2:lZ b_:=ok_len hk.2.1
 unfold zax at h
 conv=>whnf
 obtain ⟨y54,hc,hk52⟩:=bind_some h
 clear h
 have h:=hc
 clear hc
 refine Cut.mk (mkSt [(0,.im (nL (cL cI) a_)),(1,.im (nL (cL cI) b_)),(21,.im (nB y54))] [] []) (lZ a_∧lZ b_∧True) ((Holds.avl 0 rfl).and ((Holds.avl 1 rfl).and (hT))) ?_ (fun hp=>?_)
 conv=>whnf
 refine Nf.mk (List.length a_) len_map ?_
 conv=>whnf
 refine Both.mk ?_ ?_<;>intro b55
 replace b55:=beq_ff b55
 obtain ⟨h,b55d⟩:=cfd b55 h
 conv=>whnf
 refine Both.yes (ff_beq b55) ?_
 conv=>whnf
 refine Nf.mk (List.length b_) len_map ?_
 conv=>whnf
 refine Both.yes (ff_beq b55) ?_
 conv=>whnf
 refine Both.no b55 ?_
 conv=>whnf
 cases h
 exact Join.mk (eA [])
 replace b55:=beq_ft b55
 obtain ⟨h,b55d⟩:=ctd b55 h
 conv=>whnf
 iterate 2 (refine Both.no (tf_beq b55) ?_;(conv=>whnf))
 refine Both.yes b55 ?_
 conv=>whnf
 cases h
 exact Join.mk (eA [])
 replace h:=hk52
 obtain ⟨z56,z57,_⟩:=hp
 conv=>whnf
 refine Both.mk ?_ ?_<;>intro b58
 replace h:=cond_t b58 h
 conv=>whnf
 cases h
 conv=>whnf
 exact ⟨rfl,rfl⟩
 replace h:=cond_f b58 h
 conv=>whnf
 obtain ⟨c59,hc59,h⟩:=bind_some h
 refine ⟨_,(zey a_ c59 (fun _=>hc59)),?_⟩
 conv=>whnf
 obtain ⟨c60,hc60,h⟩:=bind_some h
 refine ⟨_,(zey b_ c60 (fun _=>hc60)),?_⟩
 conv=>whnf
 obtain ⟨c61,h⟩:=chk_some h
 refine Arith.mk c61 ?_
 conv=>whnf
 refine Both.mk ?_ ?_<;>intro b62
 obtain ⟨h,b62d⟩:=ctd b62 h
 conv=>whnf
 cases h
 conv=>whnf
 exact ⟨rfl,rfl⟩
 obtain ⟨h,b62d⟩:=cfd b62 h
 conv=>whnf
 obtain ⟨c63,hc63,h⟩:=bind_some h
 refine ⟨_,(zcj a_ c63 (fun _=>hc63)).im,?_⟩
 conv=>whnf
 obtain ⟨c64,hc64,h⟩:=bind_some h
 refine ⟨_,(zcj b_ c64 (fun _=>hc64)).im,?_⟩
 conv=>whnf
 refine Nf.mk (List.length c63) len_map ?_
 conv=>whnf
 refine Nf.mk (List.length c64) len_map ?_
 conv=>whnf
 refine Both.mk ?_ ?_<;>intro b65
 obtain ⟨h,b65d⟩:=ctd b65 h
 conv=>whnf
 cases h
 conv=>whnf
 exact ⟨rfl,rfl⟩
 obtain ⟨h,b65d⟩:=cfd b65 h
 conv=>whnf
 refine Nf.mk (List.length c63) len_map ?_
 conv=>whnf
 obtain ⟨oc,hc,hk66⟩:=bind_some h
 clear h
 have h:=hc
 clear hc
 refine Cut.mkS oc (Y:=List (List Int)) (fun y502=>mkSt [(7,.osl 74 1)] [(74,.row 25 1 (List.map (cL cI) y502))] []) (fun y502=>lZ y502∧True) (by rintro y502;exact ((Holds.kdl 74 rfl).and (hT))) ?_ ?_
 conv=>whnf
 refine Loops.iter (fun (s:(List (ByteArray×Bool))×List (List Int)×Nat)=>zax.s56 c63 c64 s.1 s.2.1 s.2.2) (fun (y643,y644,y645)=>mkSt [(1,.im (nL (cL cI) c64)),(6,.osl 74 1),(7,.osl 75 1),(39,.im (nL (cL cI) c63)),(40,.im (nI (↑(List.length c63):Int))),(41,.im (nI (↑y645:Int)))] [(74,.map (mapV wS wB y643)),(75,.row 25 1 (List.map (cL cI) y644))] []) (fun (y643,y644,y645)=>lZ c64∧lZ c63∧lZ y644∧True) h (eA [(74,some 38),(75,none)]) (by rintro ⟨y643,y644,y645⟩;exact ((Holds.avl 1 rfl).and ((Holds.avl 39 rfl).and ((Holds.kdl 75 rfl).and (hT))))) ?_
 clear h
 rintro k ⟨y643,y644,y645⟩ o hp h ho790
 replace h:zax.s56 c63 c64 y643 y644 y645=some o:=h
 unfold zax.s56 at h
 obtain ⟨z935,z936,z937,_⟩:=hp
 conv=>whnf
 refine Both.mk ?_ ?_<;>intro b791
 obtain ⟨h,b791d⟩:=ctd b791 h
 conv=>whnf
 obtain ⟨e792,he792,h⟩:=zab h
 refine ⟨_,⟨(by omega),map_at he792,rfl⟩,?_⟩
 conv=>whnf
 refine Nf.mk (List.length c64) len_map ?_
 conv=>whnf
 obtain ⟨oc,hc,hk793⟩:=bind_some h
 clear h
 have h:=hc
 clear hc
 refine Cut.mkS oc (Y:=(List (ByteArray×Bool))×List (List Int)) (fun (y862,y863)=>mkSt [(1,.im (nL (cL cI) c64)),(6,.osl 74 1),(7,.osl 75 1),(39,.im (nL (cL cI) c63)),(40,.im (nI (↑(List.length c63):Int))),(41,.im (nI (↑y645:Int)))] [(74,.map (mapV wS wB y862)),(75,.row 25 1 (List.map (cL cI) y863))] []) (fun (y862,y863)=>lZ c64∧lZ c63∧lZ y863∧True) (by rintro ⟨y862,y863⟩;exact ((Holds.avl 1 rfl).and ((Holds.avl 39 rfl).and ((Holds.kdl 75 rfl).and (hT))))) ?_ ?_
 conv=>whnf
 refine Loops.iter (fun (s:(List (ByteArray×Bool))×List (List Int)×Nat)=>zax.s54 c64 e792 s.1 s.2.1 s.2.2) (fun (y884,y885,y886)=>mkSt [(1,.im (nL (cL cI) c64)),(6,.osl 74 1),(7,.osl 75 1),(9,.im (nL cI e792)),(39,.im (nL (cL cI) c63)),(40,.im (nI (↑(List.length c63):Int))),(41,.im (nI (↑y645:Int))),(45,.im (nL (cL cI) c64)),(46,.im (nI (↑(List.length c64):Int))),(47,.im (nI (↑y886:Int)))] [(74,.map (mapV wS wB y884)),(75,.row 25 1 (List.map (cL cI) y885))] []) (fun (y884,y885,y886)=>lZ c64∧lZ e792∧lZ c63∧lZ y885∧True) h (eA [(74,some 74),(75,some 75)]) (by rintro ⟨y884,y885,y886⟩;exact ((Holds.avl 1 rfl).and ((Holds.avl 9 rfl).and ((Holds.avl 39 rfl).and ((Holds.kdl 75 rfl).and (hT)))))) ?_
 clear h
 rintro k ⟨y884,y885,y886⟩ o hp h ho907
 replace h:zax.s54 c64 e792 y884 y885 y886=some o:=h
 unfold zax.s54 at h
 obtain ⟨z928,z929,z930,z931,_⟩:=hp
 conv=>whnf
 refine Both.mk ?_ ?_<;>intro b908
 obtain ⟨h,b908d⟩:=ctd b908 h
 conv=>whnf
 obtain ⟨oc,hc,hk909⟩:=bind_some h
 clear h
 have h:=hc
 clear hc
 refine Cut.mkS oc (Y:=(List (ByteArray×Bool))×List (List Int)) (fun (y916,y917)=>mkSt [(1,.im (nL (cL cI) c64)),(6,.osl 74 1),(7,.osl 75 1),(9,.im (nL cI e792)),(39,.im (nL (cL cI) c63)),(40,.im (nI (↑(List.length c63):Int))),(41,.im (nI (↑y645:Int))),(45,.im (nL (cL cI) c64)),(46,.im (nI (↑(List.length c64):Int))),(47,.im (nI (↑y886:Int)))] [(74,.map (mapV wS wB y916)),(75,.row 25 1 (List.map (cL cI) y917))] []) (fun (y916,y917)=>lZ c64∧lZ e792∧lZ c63∧lZ y917∧True) (by rintro ⟨y916,y917⟩;exact ((Holds.avl 1 rfl).and ((Holds.avl 9 rfl).and ((Holds.avl 39 rfl).and ((Holds.kdl 75 rfl).and (hT)))))) ?_ ?_
 conv=>whnf
 obtain ⟨e918,he918,h⟩:=zab h
 refine ⟨_,⟨(by omega),map_at he918,rfl⟩,?_⟩
 conv=>whnf
 obtain ⟨c919,hc919,h⟩:=bind_some h
 refine ⟨_,(zd2 [e792,e918] c919 (fun _=>hc919)),?_⟩
 conv=>whnf
 obtain ⟨c920,hc920,h⟩:=bind_some h
 refine ⟨_,(zku c919 c920 (hc920)),?_⟩
 conv=>whnf
 refine Side.mk rfl ?_
 conv=>whnf
 refine ⟨_,find_str _ wB _,?_⟩
 conv=>whnf
 refine Nf.mk (wB ((mget c920 y884).getD false)) (getD_map rfl _) ?_
 conv=>whnf
 refine Both.mk ?_ ?_<;>intro b921
 replace h:=cond_t b921 h
 conv=>whnf
 cases h
 exact JoinS.mk' _ rfl (eA [(74,some 74),(75,some 75)])
 replace h:=cond_f b921 h
 conv=>whnf
 refine Side.mk rfl ?_
 conv=>whnf
 refine Nf.mk (List.length y885) len_map ?_
 conv=>whnf
 refine Both.mk ?_ ?_<;>intro b922
 obtain ⟨h,b922d⟩:=ctd b922 h
 conv=>whnf
 cases h
 replace h:some _=some _:=hk909
 cases h
 have ho907:_=_:=ho907
 cases ho907
 replace h:some _=some _:=hk793
 cases h
 have ho790:_=_:=ho790
 cases ho790
 replace h:some _=some _:=hk66
 cases h
 conv=>whnf
 exact ⟨rfl,rfl⟩
 obtain ⟨h,b922d⟩:=cfd b922 h
 conv=>whnf
 refine Side.mk rfl ?_
 conv=>whnf
 refine ⟨_,set_str _ true wB _,?_⟩
 conv=>whnf
 obtain ⟨c923,h⟩:=chk_some h
 refine Side.mk ⟨rfl,map_len (l:=[c919]) (c:=cL cI) fun _=>rfl,show capOk _ 24 by simpa only [List.length_map,List.length_cons,List.length_nil,Nat.zero_add] using c923⟩ ?_
 conv=>whnf
 refine Nf.mk (List.map (cL cI) (y885++[c919])) (app_map (l:=y885) (m:=[c919]) (c:=cL cI)) ?_
 conv=>whnf
 cases h
 exact JoinS.mk' _ rfl (eA [(74,some 74),(75,some 75)])
 rintro ⟨y916,y917⟩ rfl hp
 have hx_:=sum_inl hk909
 replace h:zax.k53 y886 y916 y917=some _:=hx_
 clear hx_
 unfold zax.k53 at h
 obtain ⟨z924,z925,z926,z927,_⟩:=hp
 conv=>whnf
 refine Arith.mk (by show inR _;unfold inR;omega) ?_
 conv=>whnf
 cases h
 exact Nxt.mk _ ho907 (eA [(74,some 74),(75,some 75)])
 obtain ⟨h,b908d⟩:=cfd b908 h
 conv=>whnf
 cases h
 have ho907:_=_:=ho907
 cases ho907
 exact JoinS.mk' _ rfl (eA [(74,some 74),(75,some 75)])
 rintro ⟨y862,y863⟩ rfl hp
 have hx_:=sum_inl hk793
 replace h:zax.k55 y645 y862 y863=some _:=hx_
 clear hx_
 unfold zax.k55 at h
 obtain ⟨z932,z933,z934,_⟩:=hp
 conv=>whnf
 refine Arith.mk (by show inR _;unfold inR;omega) ?_
 conv=>whnf
 cases h
 exact Nxt.mk _ ho790 (eA [(74,some 74),(75,some 75)])
 obtain ⟨h,b791d⟩:=cfd b791 h
 conv=>whnf
 cases h
 have ho790:_=_:=ho790
 cases ho790
 exact JoinS.mk' _ rfl (eA [(74,some 75)])
 rintro y502 rfl hp
 replace h:=sum_inl hk66
 obtain ⟨z938,_⟩:=hp
 conv=>whnf
 refine Side.mk ⟨rfl,trivial⟩ ?_
 conv=>whnf
 obtain ⟨c939,hc939,h⟩:=bind_some h
 refine ⟨_,(zd0 y502 (fun u0 u1=>zcg u0 u1) 96 zfl c939 (hc939)),?_⟩
 conv=>whnf
 cases h
 conv=>whnf
 exact Side.mk ⟨rfl,trivial⟩ ⟨rfl,rfl⟩
theorem zh0 (l_:List (List Int)) (r:List (List Int)) (h:Ok (nL (cL cI) l_)→zb6 l_=some r):Sp Tryz.prog 61 [.im (nL (cL cI) l_)] (.im (nL (cL cI) r)):=by
 refine sp_of rfl [] rfl rfl rfl (Nat.le_of_ble_eq_true rfl) rfl fun hk=>?_
 replace h:=h hk.1
 have z1:lZ l_:=ok_len hk.1
 unfold zb6 at h
 conv=>whnf
 obtain ⟨c51,hc51,h⟩:=bind_some h
 refine ⟨_,(zez l_ (fun u0 u1=>word_Lex u0 u1) 99 (fun u0 u1 r h=>(sp_word_Lex u0 u1 r (fun _ _=>h))) cmpE_word_Lex c51 (fun _ _=>hc51)).im,?_⟩
 conv=>whnf
 refine Nf.mk (List.length c51) len_map ?_
 conv=>whnf
 obtain ⟨y104,hc,hk52⟩:=bind_some h
 clear h
 have h:=hc
 clear hc
 refine Cut.mk (mkSt [(4,.osl 64 1)] [(64,.row 25 1 (List.map (cL cI) y104))] []) (lZ y104∧True) ((Holds.kdl 64 rfl).and (hT)) ?_ (fun hp=>?_)
 conv=>whnf
 refine Loops.iter (fun (s:List (List Int)×Nat)=>zb6.s2 c51 s.1 s.2) (fun (y119,y120)=>mkSt [(3,.im (nL (cL cI) c51)),(4,.osl 64 1),(9,.im (nL (cL cI) c51)),(10,.im (nI (↑(List.length c51):Int))),(11,.im (nI (↑y120:Int)))] [(64,.row 25 1 (List.map (cL cI) y119))] []) (fun (y119,y120)=>lZ c51∧lZ y119∧True) h (eA [(64,none)]) (by rintro ⟨y119,y120⟩;exact ((Holds.avl 3 rfl).and ((Holds.kdl 64 rfl).and (hT)))) ?_
 clear h
 rintro k ⟨y119,y120⟩ o hp h ho137
 replace h:zb6.s2 c51 y119 y120=some o:=h
 unfold zb6.s2 at h
 obtain ⟨z154,z155,_⟩:=hp
 conv=>whnf
 refine Both.mk ?_ ?_<;>intro b138
 obtain ⟨h,b138d⟩:=ctd b138 h
 conv=>whnf
 obtain ⟨e139,he139,h⟩:=zab h
 refine ⟨_,⟨(by omega),map_at he139,rfl⟩,?_⟩
 conv=>whnf
 obtain ⟨y145,hc,hk141⟩:=bind_some h
 clear h
 have h:=hc
 clear hc
 refine Cut.mk (mkSt [(3,.im (nL (cL cI) c51)),(4,.osl 64 1),(6,.im (nL cI e139)),(9,.im (nL (cL cI) c51)),(10,.im (nI (↑(List.length c51):Int))),(11,.im (nI (↑y120:Int))),(30,.im (nB y145))] [(64,.row 25 1 (List.map (cL cI) y119))] []) (lZ c51∧lZ e139∧lZ y119∧True) ((Holds.avl 3 rfl).and ((Holds.avl 6 rfl).and ((Holds.kdl 64 rfl).and (hT)))) ?_ (fun hp=>?_)
 conv=>whnf
 refine Arith.mk (by show inR _;unfold inR;omega) ?_
 conv=>whnf
 refine Nf.mk (List.length c51) len_map ?_
 conv=>whnf
 refine Both.mk ?_ ?_<;>intro b146
 replace b146:=beq_ff b146
 obtain ⟨h,b146d⟩:=cfd b146 h
 conv=>whnf
 iterate 2 (refine Both.yes (ff_beq b146) ?_;(conv=>whnf))
 refine Arith.mk (by show inR _;unfold inR;omega) ?_
 conv=>whnf
 refine Both.yes (ff_beq b146) ?_
 conv=>whnf
 obtain ⟨e147,he147,h⟩:=zab h
 refine ⟨_,⟨(by omega),map_at he147,rfl⟩,?_⟩
 conv=>whnf
 iterate 3 (refine Both.yes (ff_beq b146) ?_;(conv=>whnf))
 obtain ⟨c148,hc148,h⟩:=bind_some h
 refine ⟨_,(zdq e147 e139 c148 (fun _ _=>hc148)),?_⟩
 conv=>whnf
 refine Both.yes (ff_beq b146) ?_
 conv=>whnf
 refine Both.no b146 ?_
 conv=>whnf
 cases h
 exact Join.mk (eA [(64,some 64)])
 replace b146:=beq_ft b146
 obtain ⟨h,b146d⟩:=ctd b146 h
 conv=>whnf
 iterate 7 (refine Both.no (tf_beq b146) ?_;(conv=>whnf))
 refine Both.yes b146 ?_
 conv=>whnf
 cases h
 exact Join.mk (eA [(64,some 64)])
 replace h:=hk141
 obtain ⟨z149,z150,z151,_⟩:=hp
 conv=>whnf
 refine Both.mk ?_ ?_<;>intro b152
 replace h:=cond_t b152 h
 conv=>whnf
 obtain ⟨c153,h⟩:=chk_some h
 refine Side.mk ⟨rfl,map_len (l:=[e139]) (c:=cL cI) fun _=>rfl,show capOk _ 24 by simpa only [List.length_map,List.length_cons,List.length_nil,Nat.zero_add] using c153⟩ ?_
 conv=>whnf
 refine Nf.mk (List.map (cL cI) (y119++[e139])) (app_map (l:=y119) (m:=[e139]) (c:=cL cI)) ?_
 conv=>whnf
 refine Arith.mk (by show inR _;unfold inR;omega) ?_
 conv=>whnf
 cases h
 exact Nxt.mk _ ho137 (eA [(64,some 64)])
 replace h:=cond_f b152 h
 conv=>whnf
 refine Arith.mk (by show inR _;unfold inR;omega) ?_
 conv=>whnf
 cases h
 exact Nxt.mk _ ho137 (eA [(64,some 64)])
 obtain ⟨h,b138d⟩:=cfd b138 h
 conv=>whnf
 cases h
 have ho137:_=_:=ho137
 cases ho137
 exact Join.mk (eA [(64,some 64)])
 replace h:=hk52
 obtain ⟨z156,_⟩:=hp
 conv=>whnf
 refine Side.mk ⟨rfl,trivial⟩ ?_
 conv=>whnf
 obtain ⟨c157,hc157,h⟩:=bind_some h
 refine ⟨_,(zcj y104 c157 (fun _=>hc157)).im,?_⟩
 conv=>whnf
 cases h
 conv=>whnf
 exact ⟨rfl,rfl⟩
theorem zch (m_:zad) (r:Int) (h:Ok (.agg (zaf m_))→zbe m_=some r):Sp Tryz.prog 54 [.im (.agg (zaf m_))] (.im (nI r)):=by
 refine sp_of rfl [700001] rfl rfl rfl (Nat.le_of_ble_eq_true rfl) rfl fun hk=>?_
 replace h:=h hk.1
 have z1:lZ m_.Next:=ok_len (Ok.agg_at hk.1 2 rfl)
 have z2:lZ m_.Out:=ok_len (Ok.agg_at hk.1 3 rfl)
 unfold zbe at h
 conv=>whnf
 refine Nf.mk (List.length m_.Next) len_map ?_
 conv=>whnf
 obtain ⟨y54,hc,hk52⟩:=bind_some h
 clear h
 have h:=hc
 clear hc
 refine Cut.mk (mkSt [(1,.im (.ref (zaf m_))),(3,.im (nI (↑(List.length m_.Next):Int))),(11,.im (nB y54))] [] []) (True) (hT) ?_ (fun hp=>?_)
 conv=>whnf
 refine Both.mk ?_ ?_<;>intro b55
 replace b55:=beq_ff b55
 obtain ⟨h,b55d⟩:=cfd b55 h
 conv=>whnf
 iterate 2 (refine Both.yes (ff_beq b55) ?_;(conv=>whnf))
 refine Both.no b55 ?_
 conv=>whnf
 cases h
 exact Join.mk (eA [])
 replace b55:=beq_ft b55
 obtain ⟨h,b55d⟩:=ctd b55 h
 conv=>whnf
 iterate 2 (refine Both.no (tf_beq b55) ?_;(conv=>whnf))
 refine Both.yes b55 ?_
 conv=>whnf
 cases h
 exact Join.mk (eA [])
 replace h:=hk52
 conv=>whnf
 refine Both.mk ?_ ?_<;>intro b56
 replace h:=cond_t b56 h
 conv=>whnf
 cases h
 conv=>whnf
 exact ⟨rfl,rfl⟩
 replace h:=cond_f b56 h
 conv=>whnf
 refine Both.mk ?_ ?_<;>intro b57
 obtain ⟨h,b57d⟩:=ctd b57 h
 conv=>whnf
 cases h
 conv=>whnf
 exact ⟨rfl,rfl⟩
 obtain ⟨h,b57d⟩:=cfd b57 h
 conv=>whnf
 refine Both.mk ?_ ?_<;>intro b58
 obtain ⟨h,b58d⟩:=ctd b58 h
 conv=>whnf
 cases h
 conv=>whnf
 exact ⟨rfl,rfl⟩
 obtain ⟨h,b58d⟩:=cfd b58 h
 conv=>whnf
 obtain ⟨y62,hc,hk60⟩:=bind_some h
 clear h
 have h:=hc
 clear hc
 refine Cut.mk (mkSt [(1,.im (.ref (zaf m_))),(3,.im (nI (↑(List.length m_.Next):Int))),(26,.im (nB y62))] [] []) (True) (hT) ?_ (fun hp=>?_)
 conv=>whnf
 refine Both.mk ?_ ?_<;>intro b63
 replace b63:=beq_ff b63
 obtain ⟨h,b63d⟩:=cfd b63 h
 conv=>whnf
 iterate 3 (refine Both.yes (ff_beq b63) ?_;(conv=>whnf))
 refine Both.no b63 ?_
 conv=>whnf
 cases h
 exact Join.mk (eA [])
 replace b63:=beq_ft b63
 obtain ⟨h,b63d⟩:=ctd b63 h
 conv=>whnf
 iterate 3 (refine Both.no (tf_beq b63) ?_;(conv=>whnf))
 refine Both.yes b63 ?_
 conv=>whnf
 cases h
 exact Join.mk (eA [])
 replace h:=hk60
 conv=>whnf
 refine Both.mk ?_ ?_<;>intro b64
 replace h:=cond_t b64 h
 conv=>whnf
 cases h
 conv=>whnf
 exact ⟨rfl,rfl⟩
 replace h:=cond_f b64 h
 conv=>whnf
 refine Nf.mk (List.length m_.Out) len_map ?_
 conv=>whnf
 refine Both.mk ?_ ?_<;>intro b65
 obtain ⟨h,b65d⟩:=ctd b65 h
 conv=>whnf
 cases h
 conv=>whnf
 exact ⟨rfl,rfl⟩
 obtain ⟨h,b65d⟩:=cfd b65 h
 conv=>whnf
 obtain ⟨oc,hc,hk66⟩:=bind_some h
 clear h
 have h:=hc
 clear hc
 refine Cut.mkS oc (Y:=Unit) (fun (_:Unit)=>mkSt [] [] []) (fun (_:Unit)=>True) (by rintro ⟨⟩;exact (hT)) ?_ ?_
 conv=>whnf
 refine Loops.iter (fun (s:Nat)=>zbe.s14 m_ s) (fun y509=>mkSt [(1,.im (.ref (zaf m_))),(3,.im (nI (↑(List.length m_.Next):Int))),(42,.im (nI (↑(List.length m_.Next):Int))),(43,.im (nI (↑y509:Int)))] [] []) (fun y509=>True) h (eA []) (by rintro y509;exact (hT)) ?_
 clear h
 rintro k y509 o hp h ho620
 replace h:zbe.s14 m_ y509=some o:=h
 unfold zbe.s14 at h
 conv=>whnf
 refine Both.mk ?_ ?_<;>intro b621
 obtain ⟨h,b621d⟩:=ctd b621 h
 conv=>whnf
 obtain ⟨y627,hc,hk623⟩:=bind_some h
 clear h
 have h:=hc
 clear hc
 refine Cut.mk (mkSt [(1,.im (.ref (zaf m_))),(3,.im (nI (↑(List.length m_.Next):Int))),(4,.im (nI (↑y509:Int))),(42,.im (nI (↑(List.length m_.Next):Int))),(43,.im (nI (↑y509:Int))),(65,.im (nB y627))] [] []) (True) (hT) ?_ (fun hp=>?_)
 conv=>whnf
 obtain ⟨e628,he628,h⟩:=zab h
 refine ⟨_,⟨(by omega),map_at he628,rfl⟩,?_⟩
 conv=>whnf
 refine Nf.mk (List.length e628) len_map ?_
 conv=>whnf
 refine Both.mk ?_ ?_<;>intro b629
 replace b629:=beq_ff b629
 obtain ⟨h,b629d⟩:=cfd b629 h
 conv=>whnf
 iterate 3 (refine Both.yes (ff_beq b629) ?_;(conv=>whnf))
 obtain ⟨e630,he630,h⟩:=zab h
 refine ⟨_,⟨(by omega),map_at he630,rfl⟩,?_⟩
 conv=>whnf
 iterate 2 (refine Both.yes (ff_beq b629) ?_;(conv=>whnf))
 refine Nf.mk (List.length e630) len_map ?_
 conv=>whnf
 iterate 3 (refine Both.yes (ff_beq b629) ?_;(conv=>whnf))
 refine Both.no b629 ?_
 conv=>whnf
 cases h
 exact Join.mk (eA [])
 replace b629:=beq_ft b629
 obtain ⟨h,b629d⟩:=ctd b629 h
 conv=>whnf
 iterate 8 (refine Both.no (tf_beq b629) ?_;(conv=>whnf))
 refine Both.yes b629 ?_
 conv=>whnf
 cases h
 exact Join.mk (eA [])
 replace h:=hk623
 conv=>whnf
 refine Both.mk ?_ ?_<;>intro b631
 replace h:=cond_t b631 h
 conv=>whnf
 cases h
 have ho620:_=_:=ho620
 cases ho620
 replace h:some _=some _:=hk66
 cases h
 conv=>whnf
 exact ⟨rfl,rfl⟩
 replace h:=cond_f b631 h
 conv=>whnf
 obtain ⟨oc,hc,hk632⟩:=bind_some h
 clear h
 have h:=hc
 clear hc
 refine Cut.mkS oc (Y:=Unit) (fun (_:Unit)=>mkSt [(1,.im (.ref (zaf m_))),(3,.im (nI (↑(List.length m_.Next):Int))),(42,.im (nI (↑(List.length m_.Next):Int))),(43,.im (nI (↑y509:Int)))] [] []) (fun (_:Unit)=>True) (by rintro ⟨⟩;exact (hT)) ?_ ?_
 conv=>whnf
 refine Loops.iter (fun (s:Nat)=>zbe.s13 m_ y509 s) (fun y697=>mkSt [(1,.im (.ref (zaf m_))),(3,.im (nI (↑(List.length m_.Next):Int))),(4,.im (nI (↑y509:Int))),(42,.im (nI (↑(List.length m_.Next):Int))),(43,.im (nI (↑y509:Int))),(67,.im (nI m_.Inputs)),(68,.im (nI (↑y697:Int)))] [] []) (fun y697=>True) h (eA []) (by rintro y697;exact (hT)) ?_
 clear h
 rintro k y697 o hp h ho714
 replace h:zbe.s13 m_ y509 y697=some o:=h
 unfold zbe.s13 at h
 conv=>whnf
 refine Both.mk ?_ ?_<;>intro b715
 obtain ⟨h,b715d⟩:=ctd b715 h
 conv=>whnf
 obtain ⟨e716,he716,h⟩:=zab h
 refine ⟨_,⟨(by omega),map_at he716,rfl⟩,?_⟩
 conv=>whnf
 obtain ⟨e717,he717,h⟩:=zab h
 refine ⟨_,⟨(by omega),map_at he717,rfl⟩,?_⟩
 conv=>whnf
 obtain ⟨e718,he718,h⟩:=zab h
 refine ⟨_,⟨(by omega),map_at he718,rfl⟩,?_⟩
 conv=>whnf
 obtain ⟨e719,he719,h⟩:=zab h
 refine ⟨_,⟨(by omega),map_at he719,rfl⟩,?_⟩
 conv=>whnf
 obtain ⟨y725,hc,hk721⟩:=bind_some h
 clear h
 have h:=hc
 clear hc
 refine Cut.mk (mkSt [(1,.im (.ref (zaf m_))),(3,.im (nI (↑(List.length m_.Next):Int))),(4,.im (nI (↑y509:Int))),(42,.im (nI (↑(List.length m_.Next):Int))),(43,.im (nI (↑y509:Int))),(67,.im (nI m_.Inputs)),(68,.im (nI (↑y697:Int))),(101,.im (nB y725))] [] []) (True) (hT) ?_ (fun hp=>?_)
 conv=>whnf
 refine Both.mk ?_ ?_<;>intro b726
 replace b726:=beq_ff b726
 obtain ⟨h,b726d⟩:=cfd b726 h
 conv=>whnf
 iterate 2 (refine Both.yes (ff_beq b726) ?_;(conv=>whnf))
 refine Both.no b726 ?_
 conv=>whnf
 refine Both.mk ?_ ?_<;>intro b727
 replace b727:=beq_ff b727
 obtain ⟨h,b727d⟩:=cfd b727 h
 conv=>whnf
 refine Both.yes (ff_beq b727) ?_
 conv=>whnf
 refine Both.no b727 ?_
 conv=>whnf
 refine Both.mk ?_ ?_<;>intro b728
 replace b728:=beq_ff b728
 obtain ⟨h,b728d⟩:=cfd b728 h
 conv=>whnf
 refine Both.yes (ff_beq b728) ?_
 conv=>whnf
 refine Both.no b728 ?_
 conv=>whnf
 cases h
 exact Join.mk (eA [])
 replace b728:=beq_ft b728
 obtain ⟨h,b728d⟩:=ctd b728 h
 conv=>whnf
 refine Both.no (tf_beq b728) ?_
 conv=>whnf
 refine Both.yes b728 ?_
 conv=>whnf
 cases h
 exact Join.mk (eA [])
 replace b727:=beq_ft b727
 obtain ⟨h,b727d⟩:=ctd b727 h
 conv=>whnf
 refine Both.no (tf_beq b727) ?_
 conv=>whnf
 refine Both.yes b727 ?_
 conv=>whnf
 iterate 2 (refine Both.no rfl ?_;(conv=>whnf))
 refine Both.yes rfl ?_
 conv=>whnf
 cases h
 exact Join.mk (eA [])
 replace b726:=beq_ft b726
 obtain ⟨h,b726d⟩:=ctd b726 h
 conv=>whnf
 iterate 2 (refine Both.no (tf_beq b726) ?_;(conv=>whnf))
 refine Both.yes b726 ?_
 conv=>whnf
 iterate 2 (refine Both.no rfl ?_;(conv=>whnf))
 refine Both.yes rfl ?_
 conv=>whnf
 iterate 2 (refine Both.no rfl ?_;(conv=>whnf))
 refine Both.yes rfl ?_
 conv=>whnf
 cases h
 exact Join.mk (eA [])
 replace h:=hk721
 conv=>whnf
 refine Both.mk ?_ ?_<;>intro b729
 replace h:=cond_t b729 h
 conv=>whnf
 cases h
 have ho714:_=_:=ho714
 cases ho714
 replace h:some _=some _:=hk632
 cases h
 have ho620:_=_:=ho620
 cases ho620
 replace h:some _=some _:=hk66
 cases h
 conv=>whnf
 exact ⟨rfl,rfl⟩
 replace h:=cond_f b729 h
 conv=>whnf
 obtain ⟨c730,h⟩:=chk_some h
 refine Arith.mk c730 ?_
 conv=>whnf
 cases h
 exact Nxt.mk _ ho714 (eA [])
 obtain ⟨h,b715d⟩:=cfd b715 h
 conv=>whnf
 cases h
 have ho714:_=_:=ho714
 cases ho714
 exact JoinS.mk' _ rfl (eA [])
 rintro ⟨⟩ rfl hp
 replace h:=sum_inl hk632
 conv=>whnf
 refine Arith.mk (by show inR _;unfold inR;omega) ?_
 conv=>whnf
 cases h
 exact Nxt.mk _ ho620 (eA [])
 obtain ⟨h,b621d⟩:=cfd b621 h
 conv=>whnf
 cases h
 have ho620:_=_:=ho620
 cases ho620
 exact JoinS.mk' _ rfl (eA [])
 rintro ⟨⟩ rfl hp
 replace h:=sum_inl hk66
 conv=>whnf
 cases h
 conv=>whnf
 exact ⟨rfl,rfl⟩
theorem zg9 (m_:zad) (r:List Int) (h:Ok (.agg (zaf m_))→zbl m_=some r):Sp Tryz.prog 114 [.im (.agg (zaf m_))] (.row 3 1 (List.map cI r)):=by
 refine sp_of rfl [21,700001] rfl rfl rfl (Nat.le_of_ble_eq_true rfl) rfl fun hk=>?_
 replace h:=h hk.1
 have z1:lZ m_.Next:=ok_len (Ok.agg_at hk.1 2 rfl)
 have z2:lZ m_.Out:=ok_len (Ok.agg_at hk.1 3 rfl)
 unfold zbl at h
 conv=>whnf
 obtain ⟨c51,hc51,h⟩:=bind_some h
 refine ⟨_,(zch m_ c51 (fun _=>hc51)),?_⟩
 conv=>whnf
 refine Both.mk ?_ ?_<;>intro b52
 obtain ⟨h,b52d⟩:=ctd b52 h
 conv=>whnf
 cases h
 conv=>whnf
 exact ⟨rfl,rfl⟩
 obtain ⟨h,b52d⟩:=cfd b52 h
 conv=>whnf
 refine Nf.mk (List.length m_.Next) len_map ?_
 conv=>whnf
 obtain ⟨c53,h⟩:=chk_some h
 refine Side.mk c53 ?_
 conv=>whnf
 refine Nf.mk (List.map cB (List.replicate (List.length m_.Next) false)) (rep_map (c:=cB) (z:=false) (n:=(List.length m_.Next)) rfl rfl) ?_
 conv=>whnf
 obtain ⟨e54,he54z,he54,h⟩:=idx_some h
 refine Side.mk ⟨he54z,rfl,map_lt he54⟩ ?_
 conv=>whnf
 refine Side.mk ⟨rfl,trivial⟩ ?_
 conv=>whnf
 refine ⟨_,map_at he54,?_⟩
 conv=>whnf
 refine Nf.mk (List.map cB (List.set (List.replicate (List.length m_.Next) false) m_.Start.toNat true)) (set_map rfl) ?_
 conv=>whnf
 obtain ⟨y236,hc,hk55⟩:=bind_some h
 clear h
 have h:=hc
 clear hc
 refine Cut.mk (mkSt [(4,.osl 64 1)] [(64,.row 3 1 (List.map cI y236))] []) (lZ y236∧True) ((Holds.kdl 64 rfl).and (hT)) ?_ (fun hp=>?_)
 conv=>whnf
 refine Loops.iter (fun (s:List Bool×List Int×Nat)=>zbl.s20 m_ s.1 s.2.1 s.2.2) (fun (y295,y296,i297)=>mkSt [(1,.im (.ref (zaf m_))),(3,.osl 64 1),(4,.osl 65 1),(5,.im (nI (↑i297:Int)))] [(64,.row 4 1 (List.map cB y295)),(65,.row 3 1 (List.map cI y296))] []) (fun (y295,y296,i297)=>lZ y295∧lZ y296∧True) h (eA [(64,some 14),(65,some 21)]) (by rintro ⟨y295,y296,i297⟩;exact ((Holds.kdl 64 rfl).and ((Holds.kdl 65 rfl).and (hT)))) ?_
 clear h
 rintro k ⟨y295,y296,i297⟩ o hp h ho356
 replace h:zbl.s20 m_ y295 y296 i297=some o:=h
 unfold zbl.s20 at h
 obtain ⟨z415,z416,_⟩:=hp
 conv=>whnf
 refine Side.mk rfl ?_
 conv=>whnf
 refine Nf.mk (List.length y296) len_map ?_
 conv=>whnf
 refine Both.mk ?_ ?_<;>intro b357
 obtain ⟨h,b357d⟩:=ctd b357 h
 conv=>whnf
 obtain ⟨e358,he358,h⟩:=zab h
 refine Side.mk ⟨(by omega),rfl,map_lt he358⟩ ?_
 conv=>whnf
 refine ⟨_,_,⟨rfl,map_at he358,rfl,rfl⟩,?_⟩
 conv=>whnf
 obtain ⟨e359,he359z,he359,h⟩:=idx_some h
 refine ⟨_,⟨he359z,map_at he359,rfl⟩,?_⟩
 conv=>whnf
 refine Nf.mk (List.length e359) len_map ?_
 conv=>whnf
 obtain ⟨⟨y386,y387⟩,hc,hk360⟩:=bind_some h
 clear h
 have h:=hc
 clear hc
 refine Cut.mk (mkSt [(1,.im (.ref (zaf m_))),(3,.osl 64 1),(4,.osl 65 1),(5,.im (nI (↑i297:Int)))] [(64,.row 4 1 (List.map cB y386)),(65,.row 3 1 (List.map cI y387))] []) (lZ y386∧lZ y387∧True) ((Holds.kdl 64 rfl).and ((Holds.kdl 65 rfl).and (hT))) ?_ (fun hp=>?_)
 conv=>whnf
 refine Loops.iter (fun (s:List Bool×List Int×Nat)=>zbl.s18 e359 s.1 s.2.1 s.2.2) (fun (y394,y395,y396)=>mkSt [(1,.im (.ref (zaf m_))),(3,.osl 64 1),(4,.osl 65 1),(5,.im (nI (↑i297:Int))),(35,.im (nL cI e359)),(36,.im (nI (↑(List.length e359):Int))),(37,.im (nI (↑y396:Int)))] [(64,.row 4 1 (List.map cB y394)),(65,.row 3 1 (List.map cI y395))] []) (fun (y394,y395,y396)=>lZ e359∧lZ y394∧lZ y395∧True) h (eA [(64,some 64),(65,some 65)]) (by rintro ⟨y394,y395,y396⟩;exact ((Holds.avl 35 rfl).and ((Holds.kdl 64 rfl).and ((Holds.kdl 65 rfl).and (hT))))) ?_
 clear h
 rintro k ⟨y394,y395,y396⟩ o hp h ho403
 replace h:zbl.s18 e359 y394 y395 y396=some o:=h
 unfold zbl.s18 at h
 obtain ⟨z410,z411,z412,_⟩:=hp
 conv=>whnf
 refine Both.mk ?_ ?_<;>intro b404
 obtain ⟨h,b404d⟩:=ctd b404 h
 conv=>whnf
 obtain ⟨e405,he405,h⟩:=zab h
 refine ⟨_,⟨(by omega),map_at he405,rfl⟩,?_⟩
 conv=>whnf
 obtain ⟨e406,he406z,he406,h⟩:=idx_some h
 refine Side.mk ⟨he406z,rfl,map_lt he406⟩ ?_
 conv=>whnf
 refine ⟨_,_,⟨rfl,map_at he406,rfl,rfl⟩,?_⟩
 conv=>whnf
 refine Both.mk ?_ ?_<;>intro b407
 replace h:=cond_t b407 h
 conv=>whnf
 obtain ⟨e408,he408z,he408,h⟩:=idx_some h
 refine Side.mk ⟨he408z,rfl,map_lt he408⟩ ?_
 conv=>whnf
 refine Side.mk ⟨rfl,trivial⟩ ?_
 conv=>whnf
 refine ⟨_,map_at he408,?_⟩
 conv=>whnf
 refine Nf.mk (List.map cB (List.set y394 e405.toNat true)) (set_map rfl) ?_
 conv=>whnf
 obtain ⟨c409,h⟩:=chk_some h
 refine Side.mk ⟨rfl,map_len (l:=[e405]) (c:=cI) fun _=>rfl,show capOk _ 8 by simpa only [List.length_map,List.length_cons,List.length_nil,Nat.zero_add] using c409⟩ ?_
 conv=>whnf
 refine Nf.mk (List.map cI (y395++[e405])) (app_map (l:=y395) (m:=[e405]) (c:=cI)) ?_
 conv=>whnf
 refine Arith.mk (by show inR _;unfold inR;omega) ?_
 conv=>whnf
 cases h
 exact Nxt.mk _ ho403 (eA [(64,some 64),(65,some 65)])
 replace h:=cond_f b407 h
 conv=>whnf
 refine Arith.mk (by show inR _;unfold inR;omega) ?_
 conv=>whnf
 cases h
 exact Nxt.mk _ ho403 (eA [(64,some 64),(65,some 65)])
 obtain ⟨h,b404d⟩:=cfd b404 h
 conv=>whnf
 cases h
 have ho403:_=_:=ho403
 cases ho403
 exact Join.mk (eA [(64,some 64),(65,some 65)])
 replace h:zbl.k19 i297 y386 y387=some _:=hk360
 unfold zbl.k19 at h
 obtain ⟨z413,z414,_⟩:=hp
 conv=>whnf
 refine Arith.mk (by show inR _;unfold inR;omega) ?_
 conv=>whnf
 cases h
 exact Nxt.mk _ ho356 (eA [(64,some 64),(65,some 65)])
 obtain ⟨h,b357d⟩:=cfd b357 h
 conv=>whnf
 cases h
 have ho356:_=_:=ho356
 cases ho356
 exact Join.mk (eA [(64,some 65)])
 replace h:=hk55
 obtain ⟨z417,_⟩:=hp
 conv=>whnf
 cases h
 conv=>whnf
 exact Side.mk ⟨rfl,trivial⟩ ⟨rfl,rfl⟩
theorem sp_mealy_Trim (m_:zad) (r:zad×Int) (h:Ok (.agg (zaf m_))→zbi m_=some r):Sp Tryz.prog 85 [.im (.agg (zaf m_))] (.tup [.agg (zaf r.1),nI r.2]):=by
 refine sp_of rfl [700001] rfl rfl rfl (Nat.le_of_ble_eq_true rfl) rfl fun hk=>?_
 replace h:=h hk.1
 have z1:lZ m_.Next:=ok_len (Ok.agg_at hk.1 2 rfl)
 have z2:lZ m_.Out:=ok_len (Ok.agg_at hk.1 3 rfl)
 unfold zbi at h
 conv=>whnf
 obtain ⟨c51,hc51,h⟩:=bind_some h
 refine ⟨_,(zch m_ c51 (fun _=>hc51)),?_⟩
 conv=>whnf
 refine Both.mk ?_ ?_<;>intro b52
 obtain ⟨h,b52d⟩:=ctd b52 h
 conv=>whnf
 refine Side.mk rfl ?_
 conv=>whnf
 cases h
 conv=>whnf
 refine Side.mk ⟨rfl,trivial⟩ ?_
 conv=>whnf
 exact ⟨rfl,rfl⟩
 obtain ⟨h,b52d⟩:=cfd b52 h
 conv=>whnf
 obtain ⟨c53,hc53,h⟩:=bind_some h
 refine ⟨_,(zg9 m_ c53 (fun _=>hc53)).im,?_⟩
 conv=>whnf
 refine Nf.mk (List.length m_.Next) len_map ?_
 conv=>whnf
 obtain ⟨c54,h⟩:=chk_some h
 refine Side.mk c54 ?_
 conv=>whnf
 refine Nf.mk (List.map cI (List.replicate (List.length m_.Next) (0:Int))) (rep_map (c:=cI) (z:=0) (n:=(List.length m_.Next)) rfl rfl) ?_
 conv=>whnf
 refine Nf.mk (List.length c53) len_map ?_
 conv=>whnf
 obtain ⟨y70,hc,hk55⟩:=bind_some h
 clear h
 have h:=hc
 clear hc
 refine Cut.mk (mkSt [(1,.im (.ref (zaf m_))),(2,.own 89 1 0),(5,.im (nL cI c53)),(6,.osl 90 1)] [(89,.box 37 4),(90,.row 3 1 (List.map cI y70))] [(89,0,.im (nI 0)),(89,1,.im (nI 0)),(89,2,.im (.val (.slice none 0 0))),(89,3,.im (.val (.slice none 0 0)))]) (lZ c53∧lZ y70∧True) ((Holds.avl 5 rfl).and ((Holds.kdl 90 rfl).and (hT))) ?_ (fun hp=>?_)
 conv=>whnf
 refine Loops.iter (fun (s:List Int×Nat)=>zbi.s2 c53 s.1 s.2) (fun (y74,y75)=>mkSt [(1,.im (.ref (zaf m_))),(2,.own 89 1 0),(5,.im (nL cI c53)),(6,.osl 90 1),(27,.im (nL cI c53)),(28,.im (nI (↑(List.length c53):Int))),(29,.im (nI (↑y75:Int)))] [(89,.box 37 4),(90,.row 3 1 (List.map cI y74))] [(89,0,.im (nI 0)),(89,1,.im (nI 0)),(89,2,.im (.val (.slice none 0 0))),(89,3,.im (.val (.slice none 0 0)))]) (fun (y74,y75)=>lZ c53∧lZ y74∧True) h (eA [(89,some 2),(90,some 26)]) (by rintro ⟨y74,y75⟩;exact ((Holds.avl 5 rfl).and ((Holds.kdl 90 rfl).and (hT)))) ?_
 clear h
 rintro k ⟨y74,y75⟩ o hp h ho79
 replace h:zbi.s2 c53 y74 y75=some o:=h
 unfold zbi.s2 at h
 obtain ⟨z83,z84,_⟩:=hp
 conv=>whnf
 refine Both.mk ?_ ?_<;>intro b80
 obtain ⟨h,b80d⟩:=ctd b80 h
 conv=>whnf
 obtain ⟨e81,he81,h⟩:=zab h
 refine ⟨_,⟨(by omega),map_at he81,rfl⟩,?_⟩
 conv=>whnf
 obtain ⟨e82,he82z,he82,h⟩:=idx_some h
 refine Side.mk ⟨he82z,rfl,map_lt he82⟩ ?_
 conv=>whnf
 refine Side.mk ⟨rfl,trivial⟩ ?_
 conv=>whnf
 refine ⟨_,map_at he82,?_⟩
 conv=>whnf
 refine Nf.mk (List.map cI (List.set y74 e81.toNat (↑y75:Int))) (set_map rfl) ?_
 conv=>whnf
 refine Arith.mk (by show inR _;unfold inR;omega) ?_
 conv=>whnf
 cases h
 exact Nxt.mk _ ho79 (eA [(89,some 89),(90,some 90)])
 obtain ⟨h,b80d⟩:=cfd b80 h
 conv=>whnf
 cases h
 have ho79:_=_:=ho79
 cases ho79
 exact Join.mk (eA [(89,some 89),(90,some 90)])
 replace h:=hk55
 obtain ⟨z85,z86,_⟩:=hp
 conv=>whnf
 refine Side.mk rfl ?_
 conv=>whnf
 refine Nf.mk (List.length c53) len_map ?_
 conv=>whnf
 obtain ⟨⟨y259,y260⟩,hc,hk87⟩:=bind_some h
 clear h
 have h:=hc
 clear hc
 refine Cut.mk (mkSt [(2,.own 89 1 0),(9,.own 90 1 0)] [(89,.box 37 4),(90,.box 37 4),(91,.row 25 1 (List.map (cL cI) y259)),(92,.row 25 1 (List.map (cL cI) y260))] [(89,0,.im (nI 0)),(89,1,.im (nI 0)),(89,2,.im (.val (.slice none 0 0))),(89,3,.im (.val (.slice none 0 0))),(90,0,.im (nI m_.Inputs)),(90,1,.im (nI 0)),(90,2,.osl 91 1),(90,3,.osl 92 1)]) (lZ y259∧lZ y260∧True) ((Holds.kdl 91 rfl).and ((Holds.kdl 92 rfl).and (hT))) ?_ (fun hp=>?_)
 conv=>whnf
 refine Loops.iter (fun (s:List (List Int)×List (List Int)×Nat)=>zbi.s16 m_ c53 y70 s.1 s.2.1 s.2.2) (fun (y310,y311,y312)=>mkSt [(1,.im (.ref (zaf m_))),(2,.own 89 1 0),(6,.osl 90 1),(9,.own 91 1 0),(42,.im (nL cI c53)),(43,.im (nI (↑(List.length c53):Int))),(44,.im (nI (↑y312:Int)))] [(89,.box 37 4),(90,.row 3 1 (List.map cI y70)),(91,.box 37 4),(92,.row 25 1 (List.map (cL cI) y310)),(93,.row 25 1 (List.map (cL cI) y311))] [(89,0,.im (nI 0)),(89,1,.im (nI 0)),(89,2,.im (.val (.slice none 0 0))),(89,3,.im (.val (.slice none 0 0))),(91,0,.im (nI m_.Inputs)),(91,1,.im (nI 0)),(91,2,.osl 92 1),(91,3,.osl 93 1)]) (fun (y310,y311,y312)=>lZ c53∧lZ y70∧lZ y310∧lZ y311∧True) h (Ent.mk [(89,some 89),(90,some 90),(91,some 9),(92,none),(93,none)] rfl ⟨eI rfl rfl,⟨.own 89 _ 0,rfl,.own rfl rfl rfl⟩,⟨.osl 90 _,rfl,.osl rfl rfl rfl⟩,⟨.own 9 _ 0,rfl,.own rfl rfl rfl⟩,eI rfl rfl,eI rfl rfl,eI rfl rfl,trivial⟩ ⟨.inl ⟨89,rfl,rfl,trivial⟩,.inl ⟨90,rfl,rfl,trivial⟩,.inl ⟨9,rfl,rfl,trivial⟩,.inr ⟨rfl,rfl,.inl ⟨_,_,rfl,by decide⟩⟩,.inr ⟨rfl,rfl,.inl ⟨_,_,rfl,by decide⟩⟩,trivial⟩ ⟨⟨89,.im _,rfl,rfl,.im (Sub.rfl' rfl)⟩,⟨89,.im _,rfl,rfl,.im (Sub.rfl' rfl)⟩,⟨89,.im (.val (.slice none 0 0)),rfl,rfl,.im (Sub.rfl' rfl)⟩,⟨89,.im (.val (.slice none 0 0)),rfl,rfl,.im (Sub.rfl' rfl)⟩,⟨9,.im _,rfl,rfl,.im (Sub.rfl' rfl)⟩,⟨9,.im _,rfl,rfl,.im (Sub.rfl' rfl)⟩,⟨9,.im (.val (.slice none 0 0)),rfl,rfl,.made rfl rfl⟩,⟨9,.im (.val (.slice none 0 0)),rfl,rfl,.made rfl rfl⟩,trivial⟩) (by rintro ⟨y310,y311,y312⟩;exact ((Holds.avl 42 rfl).and ((Holds.kdl 90 rfl).and ((Holds.kdl 92 rfl).and ((Holds.kdl 93 rfl).and (hT)))))) ?_
 clear h
 rintro k ⟨y310,y311,y312⟩ o hp h ho370
 replace h:zbi.s16 m_ c53 y70 y310 y311 y312=some o:=h
 unfold zbi.s16 at h
 obtain ⟨z428,z429,z430,z431,_⟩:=hp
 conv=>whnf
 refine Both.mk ?_ ?_<;>intro b371
 obtain ⟨h,b371d⟩:=ctd b371 h
 conv=>whnf
 obtain ⟨e372,he372,h⟩:=zab h
 refine ⟨_,⟨(by omega),map_at he372,rfl⟩,?_⟩
 conv=>whnf
 obtain ⟨c373,h⟩:=chk_some h
 refine Side.mk c373 ?_
 conv=>whnf
 refine Nf.mk (List.map cI (List.replicate (Int.toNat m_.Inputs) (0:Int))) (rep_map (c:=cI) (z:=0) (n:=(Int.toNat m_.Inputs)) rfl rfl) ?_
 conv=>whnf
 obtain ⟨e374,he374z,he374,h⟩:=idx_some h
 refine ⟨_,⟨he374z,map_at he374,rfl⟩,?_⟩
 conv=>whnf
 refine Nf.mk (List.length e374) len_map ?_
 conv=>whnf
 obtain ⟨y397,hc,hk375⟩:=bind_some h
 clear h
 have h:=hc
 clear hc
 refine Cut.mk (mkSt [(1,.im (.ref (zaf m_))),(2,.own 89 1 0),(6,.osl 90 1),(9,.own 91 1 0),(11,.im (nI e372)),(12,.osl 94 1),(42,.im (nL cI c53)),(43,.im (nI (↑(List.length c53):Int))),(44,.im (nI (↑y312:Int)))] [(89,.box 37 4),(90,.row 3 1 (List.map cI y70)),(91,.box 37 4),(92,.row 25 1 (List.map (cL cI) y310)),(93,.row 25 1 (List.map (cL cI) y311)),(94,.row 3 1 (List.map cI y397))] [(89,0,.im (nI 0)),(89,1,.im (nI 0)),(89,2,.im (.val (.slice none 0 0))),(89,3,.im (.val (.slice none 0 0))),(91,0,.im (nI m_.Inputs)),(91,1,.im (nI 0)),(91,2,.osl 92 1),(91,3,.osl 93 1)]) (lZ c53∧lZ y70∧lZ y310∧lZ y311∧lZ y397∧True) ((Holds.avl 42 rfl).and ((Holds.kdl 90 rfl).and ((Holds.kdl 92 rfl).and ((Holds.kdl 93 rfl).and ((Holds.kdl 94 rfl).and (hT)))))) ?_ (fun hp=>?_)
 conv=>whnf
 refine Loops.iter (fun (s:List Int×Nat)=>zbi.s15 y70 e374 s.1 s.2) (fun (y402,y403)=>mkSt [(1,.im (.ref (zaf m_))),(2,.own 89 1 0),(6,.osl 90 1),(9,.own 91 1 0),(11,.im (nI e372)),(12,.osl 94 1),(42,.im (nL cI c53)),(43,.im (nI (↑(List.length c53):Int))),(44,.im (nI (↑y312:Int))),(55,.im (nL cI e374)),(56,.im (nI (↑(List.length e374):Int))),(57,.im (nI (↑y403:Int)))] [(89,.box 37 4),(90,.row 3 1 (List.map cI y70)),(91,.box 37 4),(92,.row 25 1 (List.map (cL cI) y310)),(93,.row 25 1 (List.map (cL cI) y311)),(94,.row 3 1 (List.map cI y402))] [(89,0,.im (nI 0)),(89,1,.im (nI 0)),(89,2,.im (.val (.slice none 0 0))),(89,3,.im (.val (.slice none 0 0))),(91,0,.im (nI m_.Inputs)),(91,1,.im (nI 0)),(91,2,.osl 92 1),(91,3,.osl 93 1)]) (fun (y402,y403)=>lZ c53∧lZ e374∧lZ y70∧lZ y310∧lZ y311∧lZ y402∧True) h (eA [(89,some 89),(90,some 90),(91,some 91),(92,some 92),(93,some 93),(94,some 50)]) (by rintro ⟨y402,y403⟩;exact ((Holds.avl 42 rfl).and ((Holds.avl 55 rfl).and ((Holds.kdl 90 rfl).and ((Holds.kdl 92 rfl).and ((Holds.kdl 93 rfl).and ((Holds.kdl 94 rfl).and (hT)))))))) ?_
 clear h
 rintro k ⟨y402,y403⟩ o hp h ho408
 replace h:zbi.s15 y70 e374 y402 y403=some o:=h
 unfold zbi.s15 at h
 obtain ⟨z413,z414,z415,z416,z417,z418,_⟩:=hp
 conv=>whnf
 refine Both.mk ?_ ?_<;>intro b409
 obtain ⟨h,b409d⟩:=ctd b409 h
 conv=>whnf
 obtain ⟨e410,he410,h⟩:=zab h
 refine ⟨_,⟨(by omega),map_at he410,rfl⟩,?_⟩
 conv=>whnf
 obtain ⟨e411,he411z,he411,h⟩:=idx_some h
 refine Side.mk ⟨he411z,rfl,map_lt he411⟩ ?_
 conv=>whnf
 refine ⟨_,_,⟨rfl,map_at he411,rfl,rfl⟩,?_⟩
 conv=>whnf
 obtain ⟨e412,he412,h⟩:=zab h
 refine Side.mk ⟨(by omega),rfl,map_lt he412⟩ ?_
 conv=>whnf
 refine Side.mk ⟨rfl,trivial⟩ ?_
 conv=>whnf
 refine ⟨_,map_at he412,?_⟩
 conv=>whnf
 refine Nf.mk (List.map cI (List.set y402 y403 e411)) (set_map rfl) ?_
 conv=>whnf
 refine Arith.mk (by show inR _;unfold inR;omega) ?_
 conv=>whnf
 cases h
 exact Nxt.mk _ ho408 (eA [(89,some 89),(90,some 90),(91,some 91),(92,some 92),(93,some 93),(94,some 94)])
 obtain ⟨h,b409d⟩:=cfd b409 h
 conv=>whnf
 cases h
 have ho408:_=_:=ho408
 cases ho408
 exact Join.mk (eA [(89,some 89),(90,some 90),(91,some 91),(92,some 92),(93,some 93),(94,some 94)])
 replace h:=hk375
 obtain ⟨z419,z420,z421,z422,z423,_⟩:=hp
 conv=>whnf
 refine Side.mk rfl ?_
 conv=>whnf
 refine Side.mk rfl ?_
 conv=>whnf
 refine Side.mk ⟨rfl,trivial⟩ ?_
 conv=>whnf
 obtain ⟨c424,h⟩:=chk_some h
 refine Side.mk ⟨rfl,map_len (l:=[y397]) (c:=cL cI) fun _=>rfl,show capOk _ 24 by simpa only [List.length_map,List.length_cons,List.length_nil,Nat.zero_add] using c424⟩ ?_
 conv=>whnf
 refine Nf.mk (List.map (cL cI) (y310++[y397])) (app_map (l:=y310) (m:=[y397]) (c:=cL cI)) ?_
 conv=>whnf
 refine Side.mk rfl ?_
 conv=>whnf
 refine Side.mk rfl ?_
 conv=>whnf
 refine Side.mk rfl ?_
 conv=>whnf
 refine Side.mk rfl ?_
 conv=>whnf
 obtain ⟨e425,he425z,he425,h⟩:=idx_some h
 refine ⟨_,⟨he425z,map_at he425,rfl⟩,?_⟩
 conv=>whnf
 obtain ⟨c426,hc426,h⟩:=bind_some h
 refine ⟨_,(zf3 e425 c426 (hc426)).im,?_⟩
 conv=>whnf
 obtain ⟨c427,h⟩:=chk_some h
 refine Side.mk ⟨rfl,map_len (l:=[c426]) (c:=cL cI) fun _=>rfl,show capOk _ 24 by simpa only [List.length_map,List.length_cons,List.length_nil,Nat.zero_add] using c427⟩ ?_
 conv=>whnf
 refine Nf.mk (List.map (cL cI) (y311++[c426])) (app_map (l:=y311) (m:=[c426]) (c:=cL cI)) ?_
 conv=>whnf
 refine Side.mk rfl ?_
 conv=>whnf
 refine Side.mk rfl ?_
 conv=>whnf
 refine Arith.mk (by show inR _;unfold inR;omega) ?_
 conv=>whnf
 cases h
 exact Nxt.mk _ ho370 (eA [(89,some 89),(90,some 90),(91,some 91),(92,some 92),(93,some 93)])
 obtain ⟨h,b371d⟩:=cfd b371 h
 conv=>whnf
 cases h
 have ho370:_=_:=ho370
 cases ho370
 exact Join.mk (eA [(89,some 89),(90,some 91),(91,some 92),(92,some 93)])
 replace h:zbi.k17 m_ y259 y260=some _:=hk87
 unfold zbi.k17 at h
 obtain ⟨z432,z433,_⟩:=hp
 conv=>whnf
 refine Side.mk rfl ?_
 conv=>whnf
 refine Side.mk rfl ?_
 conv=>whnf
 cases h
 conv=>whnf
 refine Side.mk ⟨rfl,trivial⟩ ?_
 conv=>whnf
 exact Side.mk ⟨rfl,rfl,trivial⟩ ⟨rfl,rfl⟩
theorem zjb (m_:zad) (class_:List Int) (r:List Int×Int) (h:Ok (.agg (zaf m_))→Ok (nL cI class_)→za5 m_ class_=some r):Sp Tryz.prog 162 [.im (.agg (zaf m_)),.im (nL cI class_)] (.tup [nL cI r.1,nI r.2]):=by
 refine sp_of rfl [700002] rfl rfl rfl (Nat.le_of_ble_eq_true rfl) rfl fun hk=>?_
 replace h:=h hk.1 hk.2.1
 have z1:lZ m_.Next:=ok_len (Ok.agg_at hk.1 2 rfl)
 have z2:lZ m_.Out:=ok_len (Ok.agg_at hk.1 3 rfl)
 have z3:lZ class_:=ok_len hk.2.1
 unfold za5 at h
 conv=>whnf
 refine Nf.mk (List.length class_) len_map ?_
 conv=>whnf
 obtain ⟨c51,h⟩:=chk_some h
 refine Side.mk c51 ?_
 conv=>whnf
 refine Nf.mk (List.map cI (List.replicate (List.length class_) (0:Int))) (rep_map (c:=cI) (z:=0) (n:=(List.length class_)) rfl rfl) ?_
 conv=>whnf
 refine Nf.mk (List.length class_) len_map ?_
 conv=>whnf
 obtain ⟨⟨y362,y363⟩,hc,hk52⟩:=bind_some h
 clear h
 have h:=hc
 clear hc
 refine Cut.mk (mkSt [(6,.osl 73 1),(7,.osl 74 1)] [(73,.map (mapV wA wI y362)),(74,.row 3 1 (List.map cI y363))] []) (lZ y363∧True) ((Holds.kdl 74 rfl).and (hT)) ?_ (fun hp=>?_)
 conv=>whnf
 refine Loops.iter (fun (s:(List (List Int×Int))×List Int×Nat)=>za5.s20 m_ class_ s.1 s.2.1 s.2.2) (fun (y465,y466,y467)=>mkSt [(1,.im (nL cI class_)),(2,.im (.ref (zaf m_))),(6,.osl 73 1),(7,.osl 74 1),(18,.im (nI (↑(List.length class_):Int))),(19,.im (nI (↑y467:Int)))] [(73,.map (mapV wA wI y465)),(74,.row 3 1 (List.map cI y466))] []) (fun (y465,y466,y467)=>lZ class_∧lZ y466∧True) h (eA [(73,some 13),(74,some 16)]) (by rintro ⟨y465,y466,y467⟩;exact ((Holds.avl 1 rfl).and ((Holds.kdl 74 rfl).and (hT)))) ?_
 clear h
 rintro k ⟨y465,y466,y467⟩ o hp h ho569
 replace h:za5.s20 m_ class_ y465 y466 y467=some o:=h
 unfold za5.s20 at h
 obtain ⟨z671,z672,_⟩:=hp
 conv=>whnf
 refine Both.mk ?_ ?_<;>intro b570
 obtain ⟨h,b570d⟩:=ctd b570 h
 conv=>whnf
 refine Nf.mk (List.map cI (List.replicate 128 0)) rfl ?_
 conv=>whnf
 obtain ⟨y612,hc,hk571⟩:=bind_some h
 clear h
 have h:=hc
 clear hc
 refine Cut.mk (mkSt [(1,.im (nL cI class_)),(2,.im (.ref (zaf m_))),(6,.osl 73 1),(7,.osl 74 1),(8,.im (nI (↑y467:Int))),(9,.elt 75 1 1 0 0),(18,.im (nI (↑(List.length class_):Int))),(19,.im (nI (↑y467:Int)))] [(73,.map (mapV wA wI y465)),(74,.row 3 1 (List.map cI y466)),(75,.row 201 1 (List.map cI y612))] []) (lZ class_∧lZ y466∧lZ y612∧True) ((Holds.avl 1 rfl).and ((Holds.kdl 74 rfl).and ((Holds.kdl 75 rfl).and (hT)))) ?_ (fun hp=>?_)
 conv=>whnf
 refine Loops.iter (fun (s:List Int×Nat)=>za5.s18 m_ class_ y467 s.1 s.2) (fun (y623,y624)=>mkSt [(1,.im (nL cI class_)),(2,.im (.ref (zaf m_))),(6,.osl 73 1),(7,.osl 74 1),(8,.im (nI (↑y467:Int))),(9,.elt 75 1 1 0 0),(18,.im (nI (↑(List.length class_):Int))),(19,.im (nI (↑y467:Int))),(23,.im (nI m_.Inputs)),(24,.im (nI (↑y624:Int)))] [(73,.map (mapV wA wI y465)),(74,.row 3 1 (List.map cI y466)),(75,.row 201 1 (List.map cI y623))] []) (fun (y623,y624)=>lZ class_∧lZ y466∧lZ y623∧True) h (Ent.mk [(73,some 73),(74,some 74),(75,some 9)] rfl ⟨eI rfl rfl,eI rfl rfl,⟨.osl 73 _,rfl,.osl rfl rfl rfl⟩,⟨.osl 74 _,rfl,.osl rfl rfl rfl⟩,eI rfl rfl,⟨.elt 9 _ _ _ _,rfl,.elt rfl rfl rfl⟩,eI rfl rfl,eI rfl rfl,eI rfl rfl,eI rfl rfl,trivial⟩ ⟨.inl ⟨73,rfl,rfl,trivial⟩,.inl ⟨74,rfl,rfl,trivial⟩,.inl ⟨9,rfl,rfl,trivial⟩,trivial⟩ trivial) (by rintro ⟨y623,y624⟩;exact ((Holds.avl 1 rfl).and ((Holds.kdl 74 rfl).and ((Holds.kdl 75 rfl).and (hT))))) ?_
 clear h
 rintro k ⟨y623,y624⟩ o hp h ho637
 replace h:za5.s18 m_ class_ y467 y623 y624=some o:=h
 unfold za5.s18 at h
 obtain ⟨z650,z651,z652,_⟩:=hp
 conv=>whnf
 refine Both.mk ?_ ?_<;>intro b638
 obtain ⟨h,b638d⟩:=ctd b638 h
 conv=>whnf
 obtain ⟨e639,he639,h⟩:=zab h
 refine ⟨_,⟨(by omega),map_at he639,rfl⟩,?_⟩
 conv=>whnf
 obtain ⟨e640,he640,h⟩:=zab h
 refine ⟨_,⟨(by omega),map_at he640,rfl⟩,?_⟩
 conv=>whnf
 obtain ⟨c642,h⟩:=chk_some h
 obtain ⟨e641,he641,h⟩:=zab h
 refine Side.mk ⟨by omega,c642,rfl⟩ ?_
 conv=>whnf
 refine Side.mk ⟨rfl,trivial⟩ ?_
 conv=>whnf
 refine ⟨_,map_at he641,?_⟩
 conv=>whnf
 refine Nf.mk (List.map cI (List.set y623 y624 e640)) (set_map rfl) ?_
 conv=>whnf
 obtain ⟨c643,h⟩:=chk_some h
 refine Arith.mk c643 ?_
 conv=>whnf
 obtain ⟨e644,he644,h⟩:=zab h
 refine ⟨_,⟨(by omega),map_at he644,rfl⟩,?_⟩
 conv=>whnf
 obtain ⟨e645,he645,h⟩:=zab h
 refine ⟨_,⟨(by omega),map_at he645,rfl⟩,?_⟩
 conv=>whnf
 obtain ⟨e646,he646z,he646,h⟩:=idx_some h
 refine ⟨_,⟨he646z,map_at he646,rfl⟩,?_⟩
 conv=>whnf
 obtain ⟨c648,h⟩:=chk_some h
 obtain ⟨e647,he647,h⟩:=zab h
 refine Side.mk ⟨by omega,c648,rfl⟩ ?_
 conv=>whnf
 refine Side.mk ⟨rfl,trivial⟩ ?_
 conv=>whnf
 refine ⟨_,map_at he647,?_⟩
 conv=>whnf
 refine Nf.mk (List.map cI (List.set (List.set y623 y624 e640) (64+y624) e646)) (set_map rfl) ?_
 conv=>whnf
 obtain ⟨c649,h⟩:=chk_some h
 refine Arith.mk c649 ?_
 conv=>whnf
 cases h
 exact Nxt.mk _ ho637 (Ent.mk [(73,some 73),(74,some 74),(75,some 75)] rfl ⟨eI rfl rfl,eI rfl rfl,⟨.osl 73 _,rfl,.osl rfl rfl rfl⟩,⟨.osl 74 _,rfl,.osl rfl rfl rfl⟩,eI rfl rfl,⟨.elt 75 _ _ _ _,rfl,.elt rfl rfl rfl⟩,eI rfl rfl,eI rfl rfl,eI rfl rfl,eI rfl rfl,trivial⟩ ⟨.inl ⟨73,rfl,rfl,trivial⟩,.inl ⟨74,rfl,rfl,trivial⟩,.inl ⟨75,rfl,rfl,trivial⟩,trivial⟩ trivial)
 obtain ⟨h,b638d⟩:=cfd b638 h
 conv=>whnf
 cases h
 have ho637:_=_:=ho637
 cases ho637
 exact Join.mk (Ent.mk [(73,some 73),(74,some 74),(75,some 75)] rfl ⟨eI rfl rfl,eI rfl rfl,⟨.osl 73 _,rfl,.osl rfl rfl rfl⟩,⟨.osl 74 _,rfl,.osl rfl rfl rfl⟩,eI rfl rfl,⟨.elt 75 _ _ _ _,rfl,.elt rfl rfl rfl⟩,eI rfl rfl,eI rfl rfl,trivial⟩ ⟨.inl ⟨73,rfl,rfl,trivial⟩,.inl ⟨74,rfl,rfl,trivial⟩,.inl ⟨75,rfl,rfl,trivial⟩,trivial⟩ trivial)
 replace h:=hk571
 obtain ⟨z653,z654,z655,_⟩:=hp
 conv=>whnf
 obtain ⟨c656,h⟩:=chk_some h
 refine Side.mk ⟨rfl,by rw [List.length_map];exact c656⟩ ?_
 conv=>whnf
 refine Nf.mk (cA y612) flat_cA ?_
 conv=>whnf
 obtain ⟨c657,h⟩:=chk_some h
 refine Side.mk rfl ?_
 conv=>whnf
 refine ⟨y612,_,keys_arr (g:=wI) rfl c657,?_⟩
 conv=>whnf
 refine Nf.mk (wI ((mget y612 y465).getD 0)) ((getD_map rfl _).trans (congrArg (Option.getD · _) (get_arr _ _ _).symm)) ?_
 conv=>whnf
 refine Nf.mk (mget y612 y465).isSome ((zlk _).trans (congrArg Option.isSome (get_arr _ _ _).symm)) ?_
 conv=>whnf
 obtain ⟨⟨y663,n664⟩,hc,hk659⟩:=bind_some h
 clear h
 have h:=hc
 clear hc
 refine Cut.mk (mkSt [(1,.im (nL cI class_)),(2,.im (.ref (zaf m_))),(6,.osl 73 1),(7,.osl 74 1),(8,.im (nI (↑y467:Int))),(11,.im (nI n664)),(18,.im (nI (↑(List.length class_):Int))),(19,.im (nI (↑y467:Int)))] [(73,.map (mapV wA wI y663)),(74,.row 3 1 (List.map cI y466))] []) (lZ class_∧lZ y466∧True) ((Holds.avl 1 rfl).and ((Holds.kdl 74 rfl).and (hT))) ?_ (fun hp=>?_)
 conv=>whnf
 refine Both.mk ?_ ?_<;>intro b665
 replace h:=cond_t b665 h
 conv=>whnf
 refine Side.mk rfl ?_
 conv=>whnf
 refine Nf.mk (List.length y465) len_mapV ?_
 conv=>whnf
 obtain ⟨c666,h⟩:=chk_some h
 refine Side.mk ⟨rfl,by rw [List.length_map];exact c666⟩ ?_
 conv=>whnf
 refine Nf.mk (cA y612) flat_cA ?_
 conv=>whnf
 obtain ⟨c667,h⟩:=chk_some h
 refine Side.mk rfl ?_
 conv=>whnf
 refine ⟨y612,_,keys_arr (g:=wI) rfl c667,?_⟩
 conv=>whnf
 refine Nf.mk (mapV wA wI (mset y612 (↑(List.length y465):Int) y465)) (by rw [set_arr];exact mapA_set _ _) ?_
 conv=>whnf
 cases h
 exact Join.mk (eA [(73,some 73),(74,some 74)])
 replace h:=cond_f b665 h
 conv=>whnf
 cases h
 exact Join.mk (eA [(73,some 73),(74,some 74)])
 replace h:za5.k19 y466 y467 y663 n664=some _:=hk659
 unfold za5.k19 at h
 obtain ⟨z668,z669,_⟩:=hp
 conv=>whnf
 obtain ⟨e670,he670,h⟩:=zab h
 refine Side.mk ⟨(by omega),rfl,map_lt he670⟩ ?_
 conv=>whnf
 refine Side.mk ⟨rfl,trivial⟩ ?_
 conv=>whnf
 refine ⟨_,map_at he670,?_⟩
 conv=>whnf
 refine Nf.mk (List.map cI (List.set y466 y467 n664)) (set_map rfl) ?_
 conv=>whnf
 refine Arith.mk (by show inR _;unfold inR;omega) ?_
 conv=>whnf
 cases h
 exact Nxt.mk _ ho569 (eA [(73,some 73),(74,some 74)])
 obtain ⟨h,b570d⟩:=cfd b570 h
 conv=>whnf
 cases h
 have ho569:_=_:=ho569
 cases ho569
 exact Join.mk (eA [(73,some 73),(74,some 74)])
 replace h:za5.k21 y362 y363=some _:=hk52
 unfold za5.k21 at h
 obtain ⟨z673,_⟩:=hp
 conv=>whnf
 refine Side.mk rfl ?_
 conv=>whnf
 refine Nf.mk (List.length y362) len_mapV ?_
 conv=>whnf
 cases h
 conv=>whnf
 exact Side.mk ⟨rfl,trivial⟩ ⟨rfl,rfl⟩
theorem zhx (m_:zad) (k_:Int) (r:List Int×Int) (h:Ok (.agg (zaf m_))→Ok (nI k_)→zb5 m_ k_=some r):Sp Tryz.prog 139 [.im (.agg (zaf m_)),.im (nI k_)] (.tup [nL cI r.1,nI r.2]):=by
 refine sp_of rfl [700002,6000014] rfl rfl rfl (Nat.le_of_ble_eq_true rfl) rfl fun hk=>?_
 replace h:=h hk.1 hk.2.1
 have z1:lZ m_.Next:=ok_len (Ok.agg_at hk.1 2 rfl)
 have z2:lZ m_.Out:=ok_len (Ok.agg_at hk.1 3 rfl)
 unfold zb5 at h
 conv=>whnf
 refine Nf.mk (List.length m_.Next) len_map ?_
 conv=>whnf
 obtain ⟨c51,h⟩:=chk_some h
 refine Side.mk c51 ?_
 conv=>whnf
 refine Nf.mk (List.map cI (List.replicate (List.length m_.Next) (0:Int))) (rep_map (c:=cI) (z:=0) (n:=(List.length m_.Next)) rfl rfl) ?_
 conv=>whnf
 refine Nf.mk (List.length m_.Next) len_map ?_
 conv=>whnf
 obtain ⟨oc,hc,hk52⟩:=bind_some h
 clear h
 have h:=hc
 clear hc
 refine Cut.mkS oc (Y:=List Int) (fun class67=>mkSt [(1,.im (nI k_)),(2,.im (.ref (zaf m_))),(6,.im (nL cI class67))] [] []) (fun class67=>lZ class67∧True) (by rintro class67;exact ((Holds.avl 6 rfl).and (hT))) ?_ ?_
 conv=>whnf
 refine Loops.iter (fun (s:List Int×Int×Nat)=>zb5.s2 m_ k_ s.1 s.2.1 s.2.2) (fun (class71,n72,y73)=>mkSt [(1,.im (nI k_)),(2,.im (.ref (zaf m_))),(6,.im (nL cI class71)),(7,.im (nI n72)),(20,.im (nI (min (max k_ 0) (↑(List.length m_.Next):Int)))),(21,.im (nI (↑y73:Int)))] [] []) (fun (class71,n72,y73)=>lZ class71∧True) h (eA []) (by rintro ⟨class71,n72,y73⟩;exact ((Holds.avl 6 rfl).and (hT))) ?_
 clear h
 rintro k ⟨class71,n72,y73⟩ o hp h ho77
 replace h:zb5.s2 m_ k_ class71 n72 y73=some o:=h
 unfold zb5.s2 at h
 obtain ⟨z81,_⟩:=hp
 conv=>whnf
 refine Both.mk ?_ ?_<;>intro b78
 obtain ⟨h,b78d⟩:=ctd b78 h
 conv=>whnf
 obtain ⟨c79,hc79,h⟩:=bind_some h
 refine ⟨_,(zjb m_ class71 c79 (fun _ _=>hc79)),?_⟩
 conv=>whnf
 refine Both.mk ?_ ?_<;>intro b80
 obtain ⟨h,b80d⟩:=ctd b80 h
 conv=>whnf
 cases h
 have ho77:_=_:=ho77
 cases ho77
 replace h:some _=some _:=hk52
 cases h
 conv=>whnf
 exact ⟨rfl,rfl⟩
 obtain ⟨h,b80d⟩:=cfd b80 h
 conv=>whnf
 refine Arith.mk (by show inR _;unfold inR;omega) ?_
 conv=>whnf
 cases h
 exact Nxt.mk _ ho77 (eA [])
 obtain ⟨h,b78d⟩:=cfd b78 h
 conv=>whnf
 cases h
 have ho77:_=_:=ho77
 cases ho77
 exact JoinS.mk' _ rfl (eA [])
 rintro class67 rfl hp
 replace h:=sum_inl hk52
 obtain ⟨z82,_⟩:=hp
 conv=>whnf
 refine Nf.mk (List.length m_.Next) len_map ?_
 conv=>whnf
 cases h
 conv=>whnf
 exact ⟨rfl,rfl⟩
theorem zgb (m_:zad) (k_:Int) (r:List Int×Int) (h:Ok (.agg (zaf m_))→Ok (nI k_)→zdk m_ k_=some r):Sp Tryz.prog 116 [.im (.agg (zaf m_)),.im (nI k_)] (.tup [nL cI r.1,nI r.2]):=by
 refine sp_of rfl [700002] rfl rfl rfl (Nat.le_of_ble_eq_true rfl) rfl fun hk=>?_
 replace h:=h hk.1 hk.2.1
 have z1:lZ m_.Next:=ok_len (Ok.agg_at hk.1 2 rfl)
 have z2:lZ m_.Out:=ok_len (Ok.agg_at hk.1 3 rfl)
 unfold zdk at h
 conv=>whnf
 obtain ⟨c51,hc51,h⟩:=bind_some h
 refine ⟨_,(zch m_ c51 (fun _=>hc51)),?_⟩
 conv=>whnf
 refine Both.mk ?_ ?_<;>intro b52
 obtain ⟨h,b52d⟩:=ctd b52 h
 conv=>whnf
 cases h
 conv=>whnf
 exact ⟨rfl,rfl⟩
 obtain ⟨h,b52d⟩:=cfd b52 h
 conv=>whnf
 obtain ⟨c53,hc53,h⟩:=bind_some h
 refine ⟨_,(zhx m_ k_ c53 (fun _ _=>hc53)),?_⟩
 conv=>whnf
 cases h
 conv=>whnf
 exact ⟨rfl,rfl⟩
theorem zhq (m_:zad) (r:List Int×Int) (h:Ok (.agg (zaf m_))→zd5 m_=some r):Sp Tryz.prog 86 [.im (.agg (zaf m_))] (.tup [nL cI r.1,nI r.2]):=by
 refine sp_of rfl [700001] rfl rfl rfl (Nat.le_of_ble_eq_true rfl) rfl fun hk=>?_
 replace h:=h hk.1
 have z1:lZ m_.Next:=ok_len (Ok.agg_at hk.1 2 rfl)
 have z2:lZ m_.Out:=ok_len (Ok.agg_at hk.1 3 rfl)
 unfold zd5 at h
 conv=>whnf
 obtain ⟨c51,hc51,h⟩:=bind_some h
 refine ⟨_,(zgb m_ 128 c51 (fun _ _=>hc51)),?_⟩
 conv=>whnf
 cases h
 conv=>whnf
 exact ⟨rfl,rfl⟩
end Go.Proofs.YteigfkncoiiaiaaGreatDoor.Sym

/-
  The contracts of the functions, read from the code by a program (ext.py): each function has its plain twin as its contract.
-/
namespace Go.Proofs.YteigfkncoiiaiaaGreatDoor.Sym
open Go.RowKit
set_option maxRecDepth 100000
set_option linter.unusedVariables false
set_option maxHeartbeats 4000000
theorem zf8 (m_:zad) (r:zad×Int) (h:Ok (.agg (zaf m_))→za6 m_=some r):Sp Tryz.prog 55 [.im (.agg (zaf m_))] (.tup [.agg (zaf r.1),nI r.2]):=by
 refine sp_of rfl [72,700001] rfl rfl rfl (Nat.le_of_ble_eq_true rfl) rfl fun hk=>?_
 replace h:=h hk.1
 have z1:lZ m_.Next:=ok_len (Ok.agg_at hk.1 2 rfl)
 have z2:lZ m_.Out:=ok_len (Ok.agg_at hk.1 3 rfl)
 unfold za6 at h
 conv=>whnf
 obtain ⟨c51,hc51,h⟩:=bind_some h
 refine ⟨_,(sp_mealy_Trim m_ c51 (fun _=>hc51)),?_⟩
 conv=>whnf
 refine Side.mk rfl ?_
 conv=>whnf
 refine Both.mk ?_ ?_<;>intro b52
 obtain ⟨h,b52d⟩:=ctd b52 h
 conv=>whnf
 refine Side.mk rfl ?_
 conv=>whnf
 cases h
 conv=>whnf
 refine Side.mk ⟨rfl,trivial⟩ ?_
 conv=>whnf
 exact ⟨rfl,rfl⟩
 obtain ⟨h,b52d⟩:=cfd b52 h
 conv=>whnf
 refine Side.mk rfl ?_
 conv=>whnf
 obtain ⟨c53,hc53,h⟩:=bind_some h
 refine ⟨_,(zhq c51.1 c53 (fun _=>hc53)),?_⟩
 conv=>whnf
 refine Both.mk ?_ ?_<;>intro b54
 obtain ⟨h,b54d⟩:=ctd b54 h
 conv=>whnf
 refine Side.mk rfl ?_
 conv=>whnf
 cases h
 conv=>whnf
 refine Side.mk ⟨rfl,trivial⟩ ?_
 conv=>whnf
 exact ⟨rfl,rfl⟩
 obtain ⟨h,b54d⟩:=cfd b54 h
 conv=>whnf
 refine Side.mk rfl ?_
 conv=>whnf
 refine Side.mk rfl ?_
 conv=>whnf
 refine Side.mk rfl ?_
 conv=>whnf
 refine Nf.mk (List.length c53.1) len_map ?_
 conv=>whnf
 obtain ⟨⟨y418,y419⟩,hc,hk55⟩:=bind_some h
 clear h
 have h:=hc
 clear hc
 refine Cut.mk (mkSt [(2,.own 84 1 0),(7,.own 85 1 0)] [(84,.box 37 4),(85,.box 37 4),(86,.row 25 1 (List.map (cL cI) y418)),(87,.row 25 1 (List.map (cL cI) y419))] [(84,0,.im (nI 0)),(84,1,.im (nI 0)),(84,2,.im (.val (.slice none 0 0))),(84,3,.im (.val (.slice none 0 0))),(85,0,.im (nI c51.1.Inputs)),(85,1,.im (nI 0)),(85,2,.osl 86 1),(85,3,.osl 87 1)]) (lZ y418∧lZ y419∧True) ((Holds.kdl 86 rfl).and ((Holds.kdl 87 rfl).and (hT))) ?_ (fun hp=>?_)
 conv=>whnf
 refine Loops.iter (fun (s:List (List Int)×List (List Int)×Nat)=>za6.s32 c51 c53 s.1 s.2.1 s.2.2) (fun (y527,y528,y529)=>mkSt [(2,.own 84 1 0),(4,.own 85 1 0),(6,.im (nL cI c53.1)),(7,.own 86 1 0),(34,.im (nL cI c53.1)),(35,.im (nI (↑(List.length c53.1):Int))),(36,.im (nI (↑y529:Int)))] [(84,.box 37 4),(85,.box 37 4),(86,.box 37 4),(87,.row 25 1 (List.map (cL cI) y527)),(88,.row 25 1 (List.map (cL cI) y528))] [(84,0,.im (nI 0)),(84,1,.im (nI 0)),(84,2,.im (.val (.slice none 0 0))),(84,3,.im (.val (.slice none 0 0))),(85,0,.im (nI c51.1.Inputs)),(85,1,.im (nI c51.1.Start)),(85,2,.im (nL (cL cI) c51.1.Next)),(85,3,.im (nL (cL cI) c51.1.Out)),(86,0,.im (nI c51.1.Inputs)),(86,1,.im (nI 0)),(86,2,.osl 87 1),(86,3,.osl 88 1)]) (fun (y527,y528,y529)=>lZ c53.1∧lZ c51.1.Next∧lZ c51.1.Out∧lZ y527∧lZ y528∧True) h (Ent.mk [(84,some 2),(85,some 4),(86,some 7),(87,none),(88,none)] rfl ⟨⟨.own 2 _ 0,rfl,.own rfl rfl rfl⟩,⟨.own 4 _ 0,rfl,.own rfl rfl rfl⟩,eI rfl rfl,⟨.own 7 _ 0,rfl,.own rfl rfl rfl⟩,eI rfl rfl,eI rfl rfl,eI rfl rfl,trivial⟩ ⟨.inl ⟨2,rfl,rfl,trivial⟩,.inl ⟨4,rfl,rfl,trivial⟩,.inl ⟨7,rfl,rfl,trivial⟩,.inr ⟨rfl,rfl,.inl ⟨_,_,rfl,by decide⟩⟩,.inr ⟨rfl,rfl,.inl ⟨_,_,rfl,by decide⟩⟩,trivial⟩ ⟨⟨2,.im _,rfl,rfl,.im (Sub.rfl' rfl)⟩,⟨2,.im _,rfl,rfl,.im (Sub.rfl' rfl)⟩,⟨2,.im (.val (.slice none 0 0)),rfl,rfl,.im (Sub.rfl' rfl)⟩,⟨2,.im (.val (.slice none 0 0)),rfl,rfl,.im (Sub.rfl' rfl)⟩,⟨4,.im _,rfl,rfl,.im (Sub.rfl' rfl)⟩,⟨4,.im _,rfl,rfl,.im (Sub.rfl' rfl)⟩,⟨4,.im _,rfl,rfl,.im (Sub.rfl' rfl)⟩,⟨4,.im _,rfl,rfl,.im (Sub.rfl' rfl)⟩,⟨7,.im _,rfl,rfl,.im (Sub.rfl' rfl)⟩,⟨7,.im _,rfl,rfl,.im (Sub.rfl' rfl)⟩,⟨7,.im (.val (.slice none 0 0)),rfl,rfl,.made rfl rfl⟩,⟨7,.im (.val (.slice none 0 0)),rfl,rfl,.made rfl rfl⟩,trivial⟩) (by rintro ⟨y527,y528,y529⟩;exact ((Holds.avl 6 rfl).and ((Holds.cel 85 2 rfl (by decide) rfl).and ((Holds.cel 85 3 rfl (by decide) rfl).and ((Holds.kdl 87 rfl).and ((Holds.kdl 88 rfl).and (hT))))))) ?_
 clear h
 rintro k ⟨y527,y528,y529⟩ o hp h ho653
 replace h:za6.s32 c51 c53 y527 y528 y529=some o:=h
 unfold za6.s32 at h
 obtain ⟨z777,z778,z779,z780,z781,_⟩:=hp
 conv=>whnf
 refine Both.mk ?_ ?_<;>intro b654
 obtain ⟨h,b654d⟩:=ctd b654 h
 conv=>whnf
 obtain ⟨⟨y713,y714⟩,hc,hk655⟩:=bind_some h
 clear h
 have h:=hc
 clear hc
 refine Cut.mk (mkSt [(2,.own 84 1 0),(4,.own 85 1 0),(6,.im (nL cI c53.1)),(7,.own 86 1 0),(34,.im (nL cI c53.1)),(35,.im (nI (↑(List.length c53.1):Int))),(36,.im (nI (↑y529:Int)))] [(84,.box 37 4),(85,.box 37 4),(86,.box 37 4),(87,.row 25 1 (List.map (cL cI) y713)),(88,.row 25 1 (List.map (cL cI) y714))] [(84,0,.im (nI 0)),(84,1,.im (nI 0)),(84,2,.im (.val (.slice none 0 0))),(84,3,.im (.val (.slice none 0 0))),(85,0,.im (nI c51.1.Inputs)),(85,1,.im (nI c51.1.Start)),(85,2,.im (nL (cL cI) c51.1.Next)),(85,3,.im (nL (cL cI) c51.1.Out)),(86,0,.im (nI c51.1.Inputs)),(86,1,.im (nI 0)),(86,2,.osl 87 1),(86,3,.osl 88 1)]) (lZ c53.1∧lZ c51.1.Next∧lZ c51.1.Out∧lZ y713∧lZ y714∧True) ((Holds.avl 6 rfl).and ((Holds.cel 85 2 rfl (by decide) rfl).and ((Holds.cel 85 3 rfl (by decide) rfl).and ((Holds.kdl 87 rfl).and ((Holds.kdl 88 rfl).and (hT)))))) ?_ (fun hp=>?_)
 conv=>whnf
 obtain ⟨e715,he715,h⟩:=zab h
 refine ⟨_,⟨(by omega),map_at he715,rfl⟩,?_⟩
 conv=>whnf
 refine Side.mk rfl ?_
 conv=>whnf
 refine Side.mk rfl ?_
 conv=>whnf
 refine Side.mk rfl ?_
 conv=>whnf
 refine Nf.mk (List.length y527) len_map ?_
 conv=>whnf
 refine Both.mk ?_ ?_<;>intro b716
 obtain ⟨h,b716d⟩:=ctd b716 h
 conv=>whnf
 cases h
 exact Join.mk (eA [(84,some 84),(85,some 85),(86,some 86),(87,some 87),(88,some 88)])
 obtain ⟨h,b716d⟩:=cfd b716 h
 conv=>whnf
 refine Side.mk rfl ?_
 conv=>whnf
 refine Side.mk rfl ?_
 conv=>whnf
 obtain ⟨e717,he717,h⟩:=zab h
 refine ⟨_,⟨(by omega),map_at he717,rfl⟩,?_⟩
 conv=>whnf
 refine Nf.mk (List.length e717) len_map ?_
 conv=>whnf
 obtain ⟨y740,hc,hk718⟩:=bind_some h
 clear h
 have h:=hc
 clear hc
 refine Cut.mk (mkSt [(2,.own 84 1 0),(4,.own 85 1 0),(6,.im (nL cI c53.1)),(7,.own 86 1 0),(8,.im (nI (↑y529:Int))),(10,.osl 89 1),(34,.im (nL cI c53.1)),(35,.im (nI (↑(List.length c53.1):Int))),(36,.im (nI (↑y529:Int)))] [(84,.box 37 4),(85,.box 37 4),(86,.box 37 4),(87,.row 25 1 (List.map (cL cI) y527)),(88,.row 25 1 (List.map (cL cI) y528)),(89,.row 3 1 (List.map cI y740))] [(84,0,.im (nI 0)),(84,1,.im (nI 0)),(84,2,.im (.val (.slice none 0 0))),(84,3,.im (.val (.slice none 0 0))),(85,0,.im (nI c51.1.Inputs)),(85,1,.im (nI c51.1.Start)),(85,2,.im (nL (cL cI) c51.1.Next)),(85,3,.im (nL (cL cI) c51.1.Out)),(86,0,.im (nI c51.1.Inputs)),(86,1,.im (nI 0)),(86,2,.osl 87 1),(86,3,.osl 88 1)]) (lZ c53.1∧lZ c51.1.Next∧lZ c51.1.Out∧lZ y527∧lZ y528∧lZ y740∧True) ((Holds.avl 6 rfl).and ((Holds.cel 85 2 rfl (by decide) rfl).and ((Holds.cel 85 3 rfl (by decide) rfl).and ((Holds.kdl 87 rfl).and ((Holds.kdl 88 rfl).and ((Holds.kdl 89 rfl).and (hT))))))) ?_ (fun hp=>?_)
 conv=>whnf
 refine Loops.iter (fun (s:List Int×Nat)=>za6.s30 c53 e717 s.1 s.2) (fun (y744,y745)=>mkSt [(2,.own 84 1 0),(4,.own 85 1 0),(6,.im (nL cI c53.1)),(7,.own 86 1 0),(8,.im (nI (↑y529:Int))),(10,.osl 89 1),(34,.im (nL cI c53.1)),(35,.im (nI (↑(List.length c53.1):Int))),(36,.im (nI (↑y529:Int))),(50,.im (nL cI e717)),(51,.im (nI (↑(List.length e717):Int))),(52,.im (nI (↑y745:Int)))] [(84,.box 37 4),(85,.box 37 4),(86,.box 37 4),(87,.row 25 1 (List.map (cL cI) y527)),(88,.row 25 1 (List.map (cL cI) y528)),(89,.row 3 1 (List.map cI y744))] [(84,0,.im (nI 0)),(84,1,.im (nI 0)),(84,2,.im (.val (.slice none 0 0))),(84,3,.im (.val (.slice none 0 0))),(85,0,.im (nI c51.1.Inputs)),(85,1,.im (nI c51.1.Start)),(85,2,.im (nL (cL cI) c51.1.Next)),(85,3,.im (nL (cL cI) c51.1.Out)),(86,0,.im (nI c51.1.Inputs)),(86,1,.im (nI 0)),(86,2,.osl 87 1),(86,3,.osl 88 1)]) (fun (y744,y745)=>lZ c53.1∧lZ e717∧lZ c51.1.Next∧lZ c51.1.Out∧lZ y527∧lZ y528∧lZ y744∧True) h (eA [(84,some 84),(85,some 85),(86,some 86),(87,some 87),(88,some 88),(89,none)]) (by rintro ⟨y744,y745⟩;exact ((Holds.avl 6 rfl).and ((Holds.avl 50 rfl).and ((Holds.cel 85 2 rfl (by decide) rfl).and ((Holds.cel 85 3 rfl (by decide) rfl).and ((Holds.kdl 87 rfl).and ((Holds.kdl 88 rfl).and ((Holds.kdl 89 rfl).and (hT))))))))) ?_
 clear h
 rintro k ⟨y744,y745⟩ o hp h ho750
 replace h:za6.s30 c53 e717 y744 y745=some o:=h
 unfold za6.s30 at h
 obtain ⟨z755,z756,z757,z758,z759,z760,z761,_⟩:=hp
 conv=>whnf
 refine Both.mk ?_ ?_<;>intro b751
 obtain ⟨h,b751d⟩:=ctd b751 h
 conv=>whnf
 obtain ⟨e752,he752,h⟩:=zab h
 refine ⟨_,⟨(by omega),map_at he752,rfl⟩,?_⟩
 conv=>whnf
 obtain ⟨e753,he753z,he753,h⟩:=idx_some h
 refine ⟨_,⟨he753z,map_at he753,rfl⟩,?_⟩
 conv=>whnf
 obtain ⟨c754,h⟩:=chk_some h
 refine Side.mk ⟨rfl,map_len (l:=[e753]) (c:=cI) fun _=>rfl,show capOk _ 8 by simpa only [List.length_map,List.length_cons,List.length_nil,Nat.zero_add] using c754⟩ ?_
 conv=>whnf
 refine Nf.mk (List.map cI (y744++[e753])) (app_map (l:=y744) (m:=[e753]) (c:=cI)) ?_
 conv=>whnf
 refine Arith.mk (by show inR _;unfold inR;omega) ?_
 conv=>whnf
 cases h
 exact Nxt.mk _ ho750 (eA [(84,some 84),(85,some 85),(86,some 86),(87,some 87),(88,some 88),(89,some 89)])
 obtain ⟨h,b751d⟩:=cfd b751 h
 conv=>whnf
 cases h
 have ho750:_=_:=ho750
 cases ho750
 exact Join.mk (eA [(84,some 84),(85,some 85),(86,some 86),(87,some 87),(88,some 88),(89,some 89)])
 replace h:=hk718
 obtain ⟨z762,z763,z764,z765,z766,z767,_⟩:=hp
 conv=>whnf
 refine Side.mk rfl ?_
 conv=>whnf
 refine Side.mk rfl ?_
 conv=>whnf
 refine Side.mk ⟨rfl,trivial⟩ ?_
 conv=>whnf
 obtain ⟨c768,h⟩:=chk_some h
 refine Side.mk ⟨rfl,map_len (l:=[y740]) (c:=cL cI) fun _=>rfl,show capOk _ 24 by simpa only [List.length_map,List.length_cons,List.length_nil,Nat.zero_add] using c768⟩ ?_
 conv=>whnf
 refine Nf.mk (List.map (cL cI) (y527++[y740])) (app_map (l:=y527) (m:=[y740]) (c:=cL cI)) ?_
 conv=>whnf
 refine Side.mk rfl ?_
 conv=>whnf
 refine Side.mk rfl ?_
 conv=>whnf
 refine Side.mk rfl ?_
 conv=>whnf
 refine Side.mk rfl ?_
 conv=>whnf
 refine Side.mk rfl ?_
 conv=>whnf
 refine Side.mk rfl ?_
 conv=>whnf
 obtain ⟨e769,he769,h⟩:=zab h
 refine ⟨_,⟨(by omega),map_at he769,rfl⟩,?_⟩
 conv=>whnf
 obtain ⟨c770,h⟩:=chk_some h
 refine Side.mk ⟨rfl,map_len (l:=e769) (c:=cI) fun _=>rfl,show capOk _ 8 by simpa only [List.length_map,List.length_cons,List.length_nil,Nat.zero_add] using c770⟩ ?_
 conv=>whnf
 refine Nf.mk (List.map cI ([]++e769)) (app_map (l:=[]) (m:=e769) (c:=cI)) ?_
 conv=>whnf
 refine Side.mk ⟨rfl,trivial⟩ ?_
 conv=>whnf
 obtain ⟨c771,h⟩:=chk_some h
 refine Side.mk ⟨rfl,map_len (l:=[([]++e769)]) (c:=cL cI) fun _=>rfl,show capOk _ 24 by simpa only [List.length_map,List.length_cons,List.length_nil,Nat.zero_add] using c771⟩ ?_
 conv=>whnf
 refine Nf.mk (List.map (cL cI) (y528++[([]++e769)])) (app_map (l:=y528) (m:=[([]++e769)]) (c:=cL cI)) ?_
 conv=>whnf
 refine Side.mk rfl ?_
 conv=>whnf
 refine Side.mk rfl ?_
 conv=>whnf
 cases h
 exact Join.mk (eA [(84,some 84),(85,some 85),(86,some 86),(87,some 87),(88,some 88)])
 replace h:za6.k31 y529 y713 y714=some _:=hk655
 unfold za6.k31 at h
 obtain ⟨z772,z773,z774,z775,z776,_⟩:=hp
 conv=>whnf
 refine Arith.mk (by show inR _;unfold inR;omega) ?_
 conv=>whnf
 cases h
 exact Nxt.mk _ ho653 (eA [(84,some 84),(85,some 85),(86,some 86),(87,some 87),(88,some 88)])
 obtain ⟨h,b654d⟩:=cfd b654 h
 conv=>whnf
 cases h
 have ho653:_=_:=ho653
 cases ho653
 exact Join.mk (eA [(84,some 84),(85,some 86),(86,some 87),(87,some 88)])
 replace h:za6.k33 c51 y418 y419=some _:=hk55
 unfold za6.k33 at h
 obtain ⟨z782,z783,_⟩:=hp
 conv=>whnf
 refine Side.mk rfl ?_
 conv=>whnf
 refine Side.mk rfl ?_
 conv=>whnf
 cases h
 conv=>whnf
 refine Side.mk ⟨rfl,trivial⟩ ?_
 conv=>whnf
 exact Side.mk ⟨rfl,rfl,trivial⟩ ⟨rfl,rfl⟩
theorem zjr (m_:zad) (from_:Int) (r:List zav) (h:Ok (.agg (zaf m_))→Ok (nI from_)→zbf m_ from_=some r):Sp Tryz.prog 117 [.im (.agg (zaf m_)),.im (nI from_)] (.row 147 2 (List.map zcb r)):=by
 refine sp_of rfl [19,700002] rfl rfl rfl (Nat.le_of_ble_eq_true rfl) rfl fun hk=>?_
 replace h:=h hk.1 hk.2.1
 have z1:lZ m_.Next:=ok_len (Ok.agg_at hk.1 2 rfl)
 have z2:lZ m_.Out:=ok_len (Ok.agg_at hk.1 3 rfl)
 unfold zbf at h
 conv=>whnf
 refine Nf.mk (List.length m_.Next) len_map ?_
 conv=>whnf
 obtain ⟨c51,h⟩:=chk_some h
 refine Side.mk c51 ?_
 conv=>whnf
 refine Nf.mk (List.map cB (List.replicate (List.length m_.Next) false)) (rep_map (c:=cB) (z:=false) (n:=(List.length m_.Next)) rfl rfl) ?_
 conv=>whnf
 obtain ⟨e52,he52z,he52,h⟩:=idx_some h
 refine Side.mk ⟨he52z,rfl,map_lt he52⟩ ?_
 conv=>whnf
 refine Side.mk ⟨rfl,trivial⟩ ?_
 conv=>whnf
 refine ⟨_,map_at he52,?_⟩
 conv=>whnf
 refine Nf.mk (List.map cB (List.set (List.replicate (List.length m_.Next) false) from_.toNat true)) (set_map rfl) ?_
 conv=>whnf
 obtain ⟨y270,hc,hk53⟩:=bind_some h
 clear h
 have h:=hc
 clear hc
 refine Cut.mk (mkSt [(6,.osl 65 1)] [(65,.row 147 2 (List.map zcb y270))] []) (lZ y270∧True) ((Holds.kdl 65 rfl).and (hT)) ?_ (fun hp=>?_)
 conv=>whnf
 refine Loops.iter (fun (s:List Bool×List zav×Nat)=>zbf.s20 m_ s.1 s.2.1 s.2.2) (fun (y341,y342,i343)=>mkSt [(2,.im (.ref (zaf m_))),(5,.osl 65 1),(6,.osl 66 1),(7,.im (nI (↑i343:Int)))] [(65,.row 4 1 (List.map cB y341)),(66,.row 147 2 (List.map zcb y342))] []) (fun (y341,y342,i343)=>lZ y341∧lZ y342∧True) h (eA [(65,some 13),(66,some 19)]) (by rintro ⟨y341,y342,i343⟩;exact ((Holds.kdl 65 rfl).and ((Holds.kdl 66 rfl).and (hT)))) ?_
 clear h
 rintro k ⟨y341,y342,i343⟩ o hp h ho414
 replace h:zbf.s20 m_ y341 y342 i343=some o:=h
 unfold zbf.s20 at h
 obtain ⟨z485,z486,_⟩:=hp
 conv=>whnf
 refine Side.mk rfl ?_
 conv=>whnf
 refine Nf.mk (List.length y342) len_map ?_
 conv=>whnf
 refine Both.mk ?_ ?_<;>intro b415
 obtain ⟨h,b415d⟩:=ctd b415 h
 conv=>whnf
 obtain ⟨e416,he416,h⟩:=zab h
 refine Side.mk ⟨(by omega),rfl,map_lt he416⟩ ?_
 conv=>whnf
 refine Side.mk rfl ?_
 conv=>whnf
 refine ⟨_,_,⟨rfl,map_at he416,rfl,rfl⟩,?_⟩
 conv=>whnf
 obtain ⟨e417,he417z,he417,h⟩:=idx_some h
 refine ⟨_,⟨he417z,map_at he417,rfl⟩,?_⟩
 conv=>whnf
 refine Nf.mk (List.length e417) len_map ?_
 conv=>whnf
 obtain ⟨⟨y450,y451⟩,hc,hk418⟩:=bind_some h
 clear h
 have h:=hc
 clear hc
 refine Cut.mk (mkSt [(2,.im (.ref (zaf m_))),(5,.osl 65 1),(6,.osl 66 1),(7,.im (nI (↑i343:Int)))] [(65,.row 4 1 (List.map cB y450)),(66,.row 147 2 (List.map zcb y451))] []) (lZ y450∧lZ y451∧True) ((Holds.kdl 65 rfl).and ((Holds.kdl 66 rfl).and (hT))) ?_ (fun hp=>?_)
 conv=>whnf
 refine Loops.iter (fun (s:List Bool×List zav×Nat)=>zbf.s18 i343 e417 s.1 s.2.1 s.2.2) (fun (y460,y461,y462)=>mkSt [(2,.im (.ref (zaf m_))),(5,.osl 65 1),(6,.osl 66 1),(7,.im (nI (↑i343:Int))),(34,.im (nL cI e417)),(35,.im (nI (↑(List.length e417):Int))),(36,.im (nI (↑y462:Int)))] [(65,.row 4 1 (List.map cB y460)),(66,.row 147 2 (List.map zcb y461))] []) (fun (y460,y461,y462)=>lZ e417∧lZ y460∧lZ y461∧True) h (eA [(65,some 65),(66,some 66)]) (by rintro ⟨y460,y461,y462⟩;exact ((Holds.avl 34 rfl).and ((Holds.kdl 65 rfl).and ((Holds.kdl 66 rfl).and (hT))))) ?_
 clear h
 rintro k ⟨y460,y461,y462⟩ o hp h ho471
 replace h:zbf.s18 i343 e417 y460 y461 y462=some o:=h
 unfold zbf.s18 at h
 obtain ⟨z480,z481,z482,_⟩:=hp
 conv=>whnf
 refine Both.mk ?_ ?_<;>intro b472
 obtain ⟨h,b472d⟩:=ctd b472 h
 conv=>whnf
 obtain ⟨e473,he473,h⟩:=zab h
 refine ⟨_,⟨(by omega),map_at he473,rfl⟩,?_⟩
 conv=>whnf
 obtain ⟨e474,he474z,he474,h⟩:=idx_some h
 refine Side.mk ⟨he474z,rfl,map_lt he474⟩ ?_
 conv=>whnf
 refine ⟨_,_,⟨rfl,map_at he474,rfl,rfl⟩,?_⟩
 conv=>whnf
 refine Both.mk ?_ ?_<;>intro b475
 replace h:=cond_t b475 h
 conv=>whnf
 obtain ⟨e476,he476z,he476,h⟩:=idx_some h
 refine Side.mk ⟨he476z,rfl,map_lt he476⟩ ?_
 conv=>whnf
 refine Side.mk ⟨rfl,trivial⟩ ?_
 conv=>whnf
 refine ⟨_,map_at he476,?_⟩
 conv=>whnf
 refine Nf.mk (List.map cB (List.set y460 e473.toNat true)) (set_map rfl) ?_
 conv=>whnf
 obtain ⟨e477,he477,h⟩:=zab h
 refine Side.mk ⟨(by omega),rfl,map_lt he477⟩ ?_
 conv=>whnf
 refine Side.mk rfl ?_
 conv=>whnf
 refine ⟨_,_,⟨rfl,map_at he477,rfl,rfl⟩,?_⟩
 conv=>whnf
 obtain ⟨c478,hc478,h⟩:=bind_some h
 refine ⟨_,(zd2 [e477.word,[(↑y462:Int)]] c478 (fun _=>hc478)),?_⟩
 conv=>whnf
 obtain ⟨c479,h⟩:=chk_some h
 refine Side.mk ⟨rfl,map_len (l:=[(⟨e473,c478⟩:zav)]) (c:=zcb) fun _=>rfl,show capOk _ 32 by simpa only [List.length_map,List.length_cons,List.length_nil,Nat.zero_add] using c479⟩ ?_
 conv=>whnf
 refine Nf.mk (List.map zcb (y461++[(⟨e473,c478⟩:zav)])) (app_map (l:=y461) (m:=[(⟨e473,c478⟩:zav)]) (c:=zcb)) ?_
 conv=>whnf
 refine Arith.mk (by show inR _;unfold inR;omega) ?_
 conv=>whnf
 cases h
 exact Nxt.mk _ ho471 (eA [(65,some 65),(66,some 66)])
 replace h:=cond_f b475 h
 conv=>whnf
 refine Arith.mk (by show inR _;unfold inR;omega) ?_
 conv=>whnf
 cases h
 exact Nxt.mk _ ho471 (eA [(65,some 65),(66,some 66)])
 obtain ⟨h,b472d⟩:=cfd b472 h
 conv=>whnf
 cases h
 have ho471:_=_:=ho471
 cases ho471
 exact Join.mk (eA [(65,some 65),(66,some 66)])
 replace h:zbf.k19 i343 y450 y451=some _:=hk418
 unfold zbf.k19 at h
 obtain ⟨z483,z484,_⟩:=hp
 conv=>whnf
 refine Arith.mk (by show inR _;unfold inR;omega) ?_
 conv=>whnf
 cases h
 exact Nxt.mk _ ho414 (eA [(65,some 65),(66,some 66)])
 obtain ⟨h,b415d⟩:=cfd b415 h
 conv=>whnf
 cases h
 have ho414:_=_:=ho414
 cases ho414
 exact Join.mk (eA [(65,some 66)])
 replace h:=hk53
 obtain ⟨z487,_⟩:=hp
 conv=>whnf
 cases h
 conv=>whnf
 exact Side.mk ⟨rfl,trivial⟩ ⟨rfl,rfl⟩
theorem zgh (m_:zad) (r:List Int×List (List Int)×Int) (h:Ok (.agg (zaf m_))→zbw m_=some r):Sp Tryz.prog 87 [.im (.agg (zaf m_))] (.tup [nL cI r.1,nL (cL cI) r.2.1,nI r.2.2]):=by
 refine sp_of rfl [700001] rfl rfl rfl (Nat.le_of_ble_eq_true rfl) rfl fun hk=>?_
 replace h:=h hk.1
 have z1:lZ m_.Next:=ok_len (Ok.agg_at hk.1 2 rfl)
 have z2:lZ m_.Out:=ok_len (Ok.agg_at hk.1 3 rfl)
 unfold zbw at h
 conv=>whnf
 obtain ⟨c51,hc51,h⟩:=bind_some h
 refine ⟨_,(zch m_ c51 (fun _=>hc51)),?_⟩
 conv=>whnf
 refine Both.mk ?_ ?_<;>intro b52
 obtain ⟨h,b52d⟩:=ctd b52 h
 conv=>whnf
 cases h
 conv=>whnf
 exact ⟨rfl,rfl⟩
 obtain ⟨h,b52d⟩:=cfd b52 h
 conv=>whnf
 obtain ⟨c53,hc53,h⟩:=bind_some h
 refine ⟨_,(zjr m_ m_.Start c53 (fun _ _=>hc53)).im,?_⟩
 conv=>whnf
 refine Nf.mk (List.length c53) len_map ?_
 conv=>whnf
 obtain ⟨⟨y72,y73⟩,hc,hk54⟩:=bind_some h
 clear h
 have h:=hc
 clear hc
 refine Cut.mk (mkSt [(6,.osl 64 1),(7,.osl 65 1)] [(64,.row 3 1 (List.map cI y72)),(65,.row 25 1 (List.map (cL cI) y73))] []) (lZ y72∧lZ y73∧True) ((Holds.kdl 64 rfl).and ((Holds.kdl 65 rfl).and (hT))) ?_ (fun hp=>?_)
 conv=>whnf
 refine Loops.iter (fun (s:List Int×List (List Int)×Nat)=>zbw.s2 c53 s.1 s.2.1 s.2.2) (fun (y76,y77,y78)=>mkSt [(6,.osl 64 1),(7,.osl 65 1),(18,.im (nL zcb c53)),(19,.im (nI (↑(List.length c53):Int))),(20,.im (nI (↑y78:Int)))] [(64,.row 3 1 (List.map cI y76)),(65,.row 25 1 (List.map (cL cI) y77))] []) (fun (y76,y77,y78)=>lZ c53∧lZ y76∧lZ y77∧True) h (eA [(64,none),(65,none)]) (by rintro ⟨y76,y77,y78⟩;exact ((Holds.avl 18 rfl).and ((Holds.kdl 64 rfl).and ((Holds.kdl 65 rfl).and (hT))))) ?_
 clear h
 rintro k ⟨y76,y77,y78⟩ o hp h ho83
 replace h:zbw.s2 c53 y76 y77 y78=some o:=h
 unfold zbw.s2 at h
 obtain ⟨z88,z89,z90,_⟩:=hp
 conv=>whnf
 refine Both.mk ?_ ?_<;>intro b84
 obtain ⟨h,b84d⟩:=ctd b84 h
 conv=>whnf
 obtain ⟨e85,he85,h⟩:=zab h
 refine ⟨_,⟨(by omega),map_at he85,rfl⟩,?_⟩
 conv=>whnf
 refine Side.mk rfl ?_
 conv=>whnf
 refine Side.mk rfl ?_
 conv=>whnf
 refine Side.mk rfl ?_
 conv=>whnf
 obtain ⟨c86,h⟩:=chk_some h
 refine Side.mk ⟨rfl,map_len (l:=[e85.state]) (c:=cI) fun _=>rfl,show capOk _ 8 by simpa only [List.length_map,List.length_cons,List.length_nil,Nat.zero_add] using c86⟩ ?_
 conv=>whnf
 refine Nf.mk (List.map cI (y76++[e85.state])) (app_map (l:=y76) (m:=[e85.state]) (c:=cI)) ?_
 conv=>whnf
 refine Side.mk rfl ?_
 conv=>whnf
 refine Side.mk rfl ?_
 conv=>whnf
 obtain ⟨c87,h⟩:=chk_some h
 refine Side.mk ⟨rfl,map_len (l:=[e85.word]) (c:=cL cI) fun _=>rfl,show capOk _ 24 by simpa only [List.length_map,List.length_cons,List.length_nil,Nat.zero_add] using c87⟩ ?_
 conv=>whnf
 refine Nf.mk (List.map (cL cI) (y77++[e85.word])) (app_map (l:=y77) (m:=[e85.word]) (c:=cL cI)) ?_
 conv=>whnf
 refine Arith.mk (by show inR _;unfold inR;omega) ?_
 conv=>whnf
 cases h
 exact Nxt.mk _ ho83 (eA [(64,some 64),(65,some 65)])
 obtain ⟨h,b84d⟩:=cfd b84 h
 conv=>whnf
 cases h
 have ho83:_=_:=ho83
 cases ho83
 exact Join.mk (eA [(64,some 64),(65,some 65)])
 replace h:zbw.k3 y72 y73=some _:=hk54
 unfold zbw.k3 at h
 obtain ⟨z91,z92,_⟩:=hp
 conv=>whnf
 cases h
 conv=>whnf
 exact Side.mk ⟨rfl,rfl,trivial⟩ ⟨rfl,rfl⟩
theorem zhi (m_:zad) (r:List (List Int)×Int) (h:Ok (.agg (zaf m_))→zd6 m_=some r):Sp Tryz.prog 56 [.im (.agg (zaf m_))] (.tup [nL (cL cI) r.1,nI r.2]):=by
 refine sp_of rfl [700001] rfl rfl rfl (Nat.le_of_ble_eq_true rfl) rfl fun hk=>?_
 replace h:=h hk.1
 have z1:lZ m_.Next:=ok_len (Ok.agg_at hk.1 2 rfl)
 have z2:lZ m_.Out:=ok_len (Ok.agg_at hk.1 3 rfl)
 unfold zd6 at h
 conv=>whnf
 obtain ⟨c51,hc51,h⟩:=bind_some h
 refine ⟨_,(zgh m_ c51 (fun _=>hc51)),?_⟩
 conv=>whnf
 cases h
 conv=>whnf
 exact ⟨rfl,rfl⟩
theorem zg4 (m_:zad) (r:List (List Int)×Int) (h:Ok (.agg (zaf m_))→za8 m_=some r):Sp Tryz.prog 57 [.im (.agg (zaf m_))] (.tup [nL (cL cI) r.1,nI r.2]):=by
 refine sp_of rfl [700001] rfl rfl rfl (Nat.le_of_ble_eq_true rfl) rfl fun hk=>?_
 replace h:=h hk.1
 have z1:lZ m_.Next:=ok_len (Ok.agg_at hk.1 2 rfl)
 have z2:lZ m_.Out:=ok_len (Ok.agg_at hk.1 3 rfl)
 unfold za8 at h
 conv=>whnf
 obtain ⟨c51,hc51,h⟩:=bind_some h
 refine ⟨_,(zgh m_ c51 (fun _=>hc51)),?_⟩
 conv=>whnf
 refine Both.mk ?_ ?_<;>intro b52
 obtain ⟨h,b52d⟩:=ctd b52 h
 conv=>whnf
 cases h
 conv=>whnf
 exact ⟨rfl,rfl⟩
 obtain ⟨h,b52d⟩:=cfd b52 h
 conv=>whnf
 refine Nf.mk (List.length c51.2.1) len_map ?_
 conv=>whnf
 obtain ⟨y177,hc,hk53⟩:=bind_some h
 clear h
 have h:=hc
 clear hc
 refine Cut.mk (mkSt [(7,.osl 64 1)] [(64,.row 25 1 (List.map (cL cI) y177))] []) (lZ y177∧True) ((Holds.kdl 64 rfl).and (hT)) ?_ (fun hp=>?_)
 conv=>whnf
 refine Loops.iter (fun (s:List (List Int)×Nat)=>za8.s14 m_ c51 s.1 s.2) (fun (y216,y217)=>mkSt [(1,.im (.ref (zaf m_))),(7,.osl 64 1),(20,.im (nL (cL cI) c51.2.1)),(21,.im (nI (↑(List.length c51.2.1):Int))),(22,.im (nI (↑y217:Int)))] [(64,.row 25 1 (List.map (cL cI) y216))] []) (fun (y216,y217)=>lZ c51.2.1∧lZ y216∧True) h (eA [(64,none)]) (by rintro ⟨y216,y217⟩;exact ((Holds.avl 20 rfl).and ((Holds.kdl 64 rfl).and (hT)))) ?_
 clear h
 rintro k ⟨y216,y217⟩ o hp h ho258
 replace h:za8.s14 m_ c51 y216 y217=some o:=h
 unfold za8.s14 at h
 obtain ⟨z299,z300,_⟩:=hp
 conv=>whnf
 refine Both.mk ?_ ?_<;>intro b259
 obtain ⟨h,b259d⟩:=ctd b259 h
 conv=>whnf
 obtain ⟨e260,he260,h⟩:=zab h
 refine ⟨_,⟨(by omega),map_at he260,rfl⟩,?_⟩
 conv=>whnf
 obtain ⟨y279,hc,hk261⟩:=bind_some h
 clear h
 have h:=hc
 clear hc
 refine Cut.mk (mkSt [(1,.im (.ref (zaf m_))),(7,.osl 64 1),(20,.im (nL (cL cI) c51.2.1)),(21,.im (nI (↑(List.length c51.2.1):Int))),(22,.im (nI (↑y217:Int)))] [(64,.row 25 1 (List.map (cL cI) y279))] []) (lZ c51.2.1∧lZ y279∧True) ((Holds.avl 20 rfl).and ((Holds.kdl 64 rfl).and (hT))) ?_ (fun hp=>?_)
 conv=>whnf
 refine Loops.iter (fun (s:List (List Int)×Nat)=>za8.s13 m_ e260 s.1 s.2) (fun (y283,y284)=>mkSt [(1,.im (.ref (zaf m_))),(7,.osl 64 1),(9,.im (nL cI e260)),(20,.im (nL (cL cI) c51.2.1)),(21,.im (nI (↑(List.length c51.2.1):Int))),(22,.im (nI (↑y217:Int))),(27,.im (nI m_.Inputs)),(28,.im (nI (↑y284:Int)))] [(64,.row 25 1 (List.map (cL cI) y283))] []) (fun (y283,y284)=>lZ e260∧lZ c51.2.1∧lZ y283∧True) h (eA [(64,some 64)]) (by rintro ⟨y283,y284⟩;exact ((Holds.avl 9 rfl).and ((Holds.avl 20 rfl).and ((Holds.kdl 64 rfl).and (hT))))) ?_
 clear h
 rintro k ⟨y283,y284⟩ o hp h ho289
 replace h:za8.s13 m_ e260 y283 y284=some o:=h
 unfold za8.s13 at h
 obtain ⟨z294,z295,z296,_⟩:=hp
 conv=>whnf
 refine Both.mk ?_ ?_<;>intro b290
 obtain ⟨h,b290d⟩:=ctd b290 h
 conv=>whnf
 obtain ⟨c291,hc291,h⟩:=bind_some h
 refine ⟨_,(zd2 [e260,[(↑y284:Int)]] c291 (fun _=>hc291)),?_⟩
 conv=>whnf
 obtain ⟨c292,h⟩:=chk_some h
 refine Side.mk ⟨rfl,map_len (l:=[c291]) (c:=cL cI) fun _=>rfl,show capOk _ 24 by simpa only [List.length_map,List.length_cons,List.length_nil,Nat.zero_add] using c292⟩ ?_
 conv=>whnf
 refine Nf.mk (List.map (cL cI) (y283++[c291])) (app_map (l:=y283) (m:=[c291]) (c:=cL cI)) ?_
 conv=>whnf
 obtain ⟨c293,h⟩:=chk_some h
 refine Arith.mk c293 ?_
 conv=>whnf
 cases h
 exact Nxt.mk _ ho289 (eA [(64,some 64)])
 obtain ⟨h,b290d⟩:=cfd b290 h
 conv=>whnf
 cases h
 have ho289:_=_:=ho289
 cases ho289
 exact Join.mk (eA [(64,some 64)])
 replace h:=hk261
 obtain ⟨z297,z298,_⟩:=hp
 conv=>whnf
 refine Arith.mk (by show inR _;unfold inR;omega) ?_
 conv=>whnf
 cases h
 exact Nxt.mk _ ho258 (eA [(64,some 64)])
 obtain ⟨h,b259d⟩:=cfd b259 h
 conv=>whnf
 cases h
 have ho258:_=_:=ho258
 cases ho258
 exact Join.mk (eA [(64,some 64)])
 replace h:=hk53
 obtain ⟨z301,_⟩:=hp
 conv=>whnf
 refine Side.mk ⟨rfl,trivial⟩ ?_
 conv=>whnf
 obtain ⟨c302,hc302,h⟩:=bind_some h
 refine ⟨_,(zcj y177 c302 (fun _=>hc302)).im,?_⟩
 conv=>whnf
 cases h
 conv=>whnf
 exact ⟨rfl,rfl⟩
theorem zf2 (m_:zad) (s_:Int) (w_:List Int) (r:List Int) (h:Ok (.agg (zaf m_))→Ok (nI s_)→Ok (nL cI w_)→zca m_ s_ w_=some r):Sp Tryz.prog 123 [.im (.agg (zaf m_)),.im (nI s_),.im (nL cI w_)] (.row 3 1 (List.map cI r)):=by
 refine sp_of rfl [700003] rfl rfl rfl (Nat.le_of_ble_eq_true rfl) rfl fun hk=>?_
 replace h:=h hk.1 hk.2.1 hk.2.2.1
 have z1:lZ m_.Next:=ok_len (Ok.agg_at hk.1 2 rfl)
 have z2:lZ m_.Out:=ok_len (Ok.agg_at hk.1 3 rfl)
 have z3:lZ w_:=ok_len hk.2.2.1
 unfold zca at h
 conv=>whnf
 refine Nf.mk (List.length w_) len_map ?_
 conv=>whnf
 obtain ⟨c51,h⟩:=chk_some h
 refine Side.mk c51 ?_
 conv=>whnf
 refine Nf.mk (List.map cI []) rfl ?_
 conv=>whnf
 refine Nf.mk (List.length w_) len_map ?_
 conv=>whnf
 obtain ⟨y80,hc,hk52⟩:=bind_some h
 clear h
 have h:=hc
 clear hc
 refine Cut.mk (mkSt [(7,.osl 64 1)] [(64,.row 3 1 (List.map cI y80))] []) (lZ y80∧True) ((Holds.kdl 64 rfl).and (hT)) ?_ (fun hp=>?_)
 conv=>whnf
 refine Loops.iter (fun (s:Int×List Int×Nat)=>zca.s2 m_ w_ s.1 s.2.1 s.2.2) (fun (s88,y89,y90)=>mkSt [(1,.im (nI s88)),(3,.im (.ref (zaf m_))),(7,.osl 64 1),(13,.im (nL cI w_)),(14,.im (nI (↑(List.length w_):Int))),(15,.im (nI (↑y90:Int)))] [(64,.row 3 1 (List.map cI y89))] []) (fun (s88,y89,y90)=>lZ w_∧lZ y89∧True) h (eA [(64,some 12)]) (by rintro ⟨s88,y89,y90⟩;exact ((Holds.avl 13 rfl).and ((Holds.kdl 64 rfl).and (hT)))) ?_
 clear h
 rintro k ⟨s88,y89,y90⟩ o hp h ho98
 replace h:zca.s2 m_ w_ s88 y89 y90=some o:=h
 unfold zca.s2 at h
 obtain ⟨z106,z107,_⟩:=hp
 conv=>whnf
 refine Both.mk ?_ ?_<;>intro b99
 obtain ⟨h,b99d⟩:=ctd b99 h
 conv=>whnf
 obtain ⟨e100,he100,h⟩:=zab h
 refine ⟨_,⟨(by omega),map_at he100,rfl⟩,?_⟩
 conv=>whnf
 obtain ⟨e101,he101z,he101,h⟩:=idx_some h
 refine ⟨_,⟨he101z,map_at he101,rfl⟩,?_⟩
 conv=>whnf
 obtain ⟨e102,he102z,he102,h⟩:=idx_some h
 refine ⟨_,⟨he102z,map_at he102,rfl⟩,?_⟩
 conv=>whnf
 obtain ⟨c103,h⟩:=chk_some h
 refine Side.mk ⟨rfl,map_len (l:=[e102]) (c:=cI) fun _=>rfl,show capOk _ 8 by simpa only [List.length_map,List.length_cons,List.length_nil,Nat.zero_add] using c103⟩ ?_
 conv=>whnf
 refine Nf.mk (List.map cI (y89++[e102])) (app_map (l:=y89) (m:=[e102]) (c:=cI)) ?_
 conv=>whnf
 obtain ⟨e104,he104z,he104,h⟩:=idx_some h
 refine ⟨_,⟨he104z,map_at he104,rfl⟩,?_⟩
 conv=>whnf
 obtain ⟨e105,he105z,he105,h⟩:=idx_some h
 refine ⟨_,⟨he105z,map_at he105,rfl⟩,?_⟩
 conv=>whnf
 refine Arith.mk (by show inR _;unfold inR;omega) ?_
 conv=>whnf
 cases h
 exact Nxt.mk _ ho98 (eA [(64,some 64)])
 obtain ⟨h,b99d⟩:=cfd b99 h
 conv=>whnf
 cases h
 have ho98:_=_:=ho98
 cases ho98
 exact Join.mk (eA [(64,some 64)])
 replace h:=hk52
 obtain ⟨z108,_⟩:=hp
 conv=>whnf
 cases h
 conv=>whnf
 exact Side.mk ⟨rfl,trivial⟩ ⟨rfl,rfl⟩
theorem zfg (s1_:List Int) (s2_:List Int) (r:Bool) (h:Ok (nL cI s1_)→Ok (nL cI s2_)→zbg s1_ s2_=some r):Sp Tryz.prog 122 [.im (nL cI s1_),.im (nL cI s2_)] (.im (nB r)):=by
 refine sp_of rfl [] rfl rfl rfl (Nat.le_of_ble_eq_true rfl) rfl fun hk=>?_
 replace h:=h hk.1 hk.2.1
 have z1:lZ s1_:=ok_len hk.1
 have z2:lZ s2_:=ok_len hk.2.1
 unfold zbg at h
 conv=>whnf
 refine Nf.mk (List.length s1_) len_map ?_
 conv=>whnf
 refine Nf.mk (List.length s2_) len_map ?_
 conv=>whnf
 refine Both.mk ?_ ?_<;>intro b51
 obtain ⟨h,b51d⟩:=ctd b51 h
 conv=>whnf
 cases h
 conv=>whnf
 exact ⟨rfl,rfl⟩
 obtain ⟨h,b51d⟩:=cfd b51 h
 conv=>whnf
 refine Nf.mk (List.length s1_) len_map ?_
 conv=>whnf
 obtain ⟨oc,hc,hk52⟩:=bind_some h
 clear h
 have h:=hc
 clear hc
 refine Cut.mkS oc (Y:=Unit) (fun (_:Unit)=>mkSt [] [] []) (fun (_:Unit)=>True) (by rintro ⟨⟩;exact (hT)) ?_ ?_
 conv=>whnf
 refine Loops.iter (fun (s:Nat)=>zbg.s2 s1_ s2_ s) (fun y73=>mkSt [(0,.im (nL cI s1_)),(1,.im (nL cI s2_)),(12,.im (nI (↑(List.length s1_):Int))),(13,.im (nI (↑y73:Int)))] [] []) (fun y73=>lZ s1_∧lZ s2_∧True) h (eA []) (by rintro y73;exact ((Holds.avl 0 rfl).and ((Holds.avl 1 rfl).and (hT)))) ?_
 clear h
 rintro k y73 o hp h ho78
 replace h:zbg.s2 s1_ s2_ y73=some o:=h
 unfold zbg.s2 at h
 obtain ⟨z83,z84,_⟩:=hp
 conv=>whnf
 refine Both.mk ?_ ?_<;>intro b79
 obtain ⟨h,b79d⟩:=ctd b79 h
 conv=>whnf
 obtain ⟨e80,he80,h⟩:=zab h
 refine ⟨_,⟨(by omega),map_at he80,rfl⟩,?_⟩
 conv=>whnf
 obtain ⟨e81,he81,h⟩:=zab h
 refine ⟨_,⟨(by omega),map_at he81,rfl⟩,?_⟩
 conv=>whnf
 refine Both.mk ?_ ?_<;>intro b82
 obtain ⟨h,b82d⟩:=ctd b82 h
 conv=>whnf
 cases h
 have ho78:_=_:=ho78
 cases ho78
 replace h:some _=some _:=hk52
 cases h
 conv=>whnf
 exact ⟨rfl,rfl⟩
 obtain ⟨h,b82d⟩:=cfd b82 h
 conv=>whnf
 refine Arith.mk (by show inR _;unfold inR;omega) ?_
 conv=>whnf
 cases h
 exact Nxt.mk _ ho78 (eA [])
 obtain ⟨h,b79d⟩:=cfd b79 h
 conv=>whnf
 cases h
 have ho78:_=_:=ho78
 cases ho78
 exact JoinS.mk' _ rfl (eA [])
 rintro ⟨⟩ rfl hp
 replace h:=sum_inl hk52
 conv=>whnf
 cases h
 conv=>whnf
 exact ⟨rfl,rfl⟩
theorem zfz (w_:List Int) (p1_:zad) (p2_:Int) (p3_:Int) (r:Bool) (h:Ok (nL cI w_)→Ok (.ref (zaf p1_))→Ok (.ref (cI p2_))→Ok (.ref (cI p3_))→zco w_ p1_ p2_ p3_=some r):Sp Tryz.prog 121 [.im (nL cI w_),.im (.ref (zaf p1_)),.im (.ref (cI p2_)),.im (.ref (cI p3_))] (.im (nB r)):=by
 refine sp_of rfl [] rfl rfl rfl (Nat.le_of_ble_eq_true rfl) rfl fun hk=>?_
 replace h:=h hk.1 hk.2.1 hk.2.2.1 hk.2.2.2.1
 have z1:lZ w_:=ok_len hk.1
 have z2:lZ p1_.Next:=ok_len (Ok.ref_at hk.2.1 2 rfl)
 have z3:lZ p1_.Out:=ok_len (Ok.ref_at hk.2.1 3 rfl)
 unfold zco at h
 conv=>whnf
 obtain ⟨c51,hc51,h⟩:=bind_some h
 refine ⟨_,(zf2 p1_ p2_ w_ c51 (fun _ _ _=>hc51)).im,?_⟩
 conv=>whnf
 obtain ⟨c52,hc52,h⟩:=bind_some h
 refine ⟨_,(zf2 p1_ p3_ w_ c52 (fun _ _ _=>hc52)).im,?_⟩
 conv=>whnf
 obtain ⟨c53,hc53,h⟩:=bind_some h
 refine ⟨_,(zfg c51 c52 c53 (fun _ _=>hc53)),?_⟩
 conv=>whnf
 cases h
 conv=>whnf
 exact ⟨rfl,rfl⟩
theorem zfd (l_:List (List Int)) (has_:(List Int)→Option Bool) (f1_:FuncId) (k1_0 k1_1 k1_2:IV) (hk1_0:nz k1_0=k1_0) (hk1_1:nz k1_1=k1_1) (hk1_2:nz k1_2=k1_2) (hf1:∀ x0 r,has_ x0=some r→Sp Tryz.prog f1_ [.im (nL cI x0),.im k1_0,.im k1_1,.im k1_2] (.im (nB r))) (r:Bool) (h:Ok (nL (cL cI) l_)→Ok (.fn f1_ [k1_0,k1_1,k1_2])→zbh l_ has_=some r):Sp Tryz.prog 120 [.im (nL (cL cI) l_),.im (.fn f1_ [k1_0,k1_1,k1_2])] (.im (nB r)):=by
 refine sp_of rfl [] rfl rfl rfl (Nat.le_of_ble_eq_true rfl) rfl fun hk=>?_
 replace h:=h hk.1 hk.2.1
 have z1:lZ l_:=ok_len hk.1
 unfold zbh at h
 conv=>whnf
 refine Nf.mk (List.length l_) len_map ?_
 conv=>whnf
 obtain ⟨oc,hc,hk51⟩:=bind_some h
 clear h
 have h:=hc
 clear hc
 refine Cut.mkS oc (Y:=Unit) (fun (_:Unit)=>mkSt [] [] []) (fun (_:Unit)=>True) (by rintro ⟨⟩;exact (hT)) ?_ ?_
 conv=>whnf
 refine Loops.iter (fun (s:Nat)=>zbh.s2 l_ has_ s) (fun y71=>mkSt [(1,.im (.fn f1_ [k1_0,k1_1,k1_2])),(7,.im (nL (cL cI) l_)),(8,.im (nI (↑(List.length l_):Int))),(9,.im (nI (↑y71:Int)))] [] []) (fun y71=>lZ l_∧True) h (eA []) (by rintro y71;exact ((Holds.avl 7 rfl).and (hT))) ?_
 clear h
 rintro k y71 o hp h ho76
 replace h:zbh.s2 l_ has_ y71=some o:=h
 unfold zbh.s2 at h
 obtain ⟨z81,_⟩:=hp
 conv=>whnf
 refine Both.mk ?_ ?_<;>intro b77
 obtain ⟨h,b77d⟩:=ctd b77 h
 conv=>whnf
 obtain ⟨e78,he78,h⟩:=zab h
 refine ⟨_,⟨(by omega),map_at he78,rfl⟩,?_⟩
 conv=>whnf
 obtain ⟨c79,hc79,h⟩:=bind_some h
 refine ⟨_,Sp.args (hf1 e78 c79 hc79) (by rw [hk1_0,hk1_1,hk1_2];try rfl),?_⟩
 conv=>whnf
 refine Both.mk ?_ ?_<;>intro b80
 replace h:=cond_t b80 h
 conv=>whnf
 cases h
 have ho76:_=_:=ho76
 cases ho76
 replace h:some _=some _:=hk51
 cases h
 conv=>whnf
 exact ⟨rfl,rfl⟩
 replace h:=cond_f b80 h
 conv=>whnf
 refine Arith.mk (by show inR _;unfold inR;omega) ?_
 conv=>whnf
 cases h
 exact Nxt.mk _ ho76 (eA [])
 obtain ⟨h,b77d⟩:=cfd b77 h
 conv=>whnf
 cases h
 have ho76:_=_:=ho76
 cases ho76
 exact JoinS.mk' _ rfl (eA [])
 rintro ⟨⟩ rfl hp
 replace h:=sum_inl hk51
 conv=>whnf
 cases h
 conv=>whnf
 exact ⟨rfl,rfl⟩
theorem zga (m_:zad) (words_:List (List Int)) (s_:Int) (t_:Int) (r:Bool) (h:Ok (.agg (zaf m_))→Ok (nL (cL cI) words_)→Ok (nI s_)→Ok (nI t_)→zdn m_ words_ s_ t_=some r):Sp Tryz.prog 91 [.im (.agg (zaf m_)),.im (nL (cL cI) words_),.im (nI s_),.im (nI t_)] (.im (nB r)):=by
 refine sp_of rfl [700004,700006,700007] rfl rfl rfl (Nat.le_of_ble_eq_true rfl) rfl fun hk=>?_
 replace h:=h hk.1 hk.2.1 hk.2.2.1 hk.2.2.2.1
 have z1:lZ m_.Next:=ok_len (Ok.agg_at hk.1 2 rfl)
 have z2:lZ m_.Out:=ok_len (Ok.agg_at hk.1 3 rfl)
 have z3:lZ words_:=ok_len hk.2.1
 unfold zdn at h
 conv=>whnf
 obtain ⟨c51,hc51,h⟩:=bind_some h
 refine ⟨_,(zfd words_ (fun u0=>zco u0 m_ s_ t_) 121 (.ref (zaf m_)) (.ref (cI s_)) (.ref (cI t_)) rfl rfl rfl (fun u0 r h=>(zfz u0 m_ s_ t_ r (fun _ _ _ _=>h))) c51 (fun _ _=>hc51)),?_⟩
 conv=>whnf
 cases h
 conv=>whnf
 exact ⟨rfl,rfl⟩
theorem zhp (m_:zad) (r:Bool) (h:Ok (.agg (zaf m_))→zd4 m_=some r):Sp Tryz.prog 119 [.im (.agg (zaf m_))] (.im (nB r)):=by
 refine sp_of rfl [700001] rfl rfl rfl (Nat.le_of_ble_eq_true rfl) rfl fun hk=>?_
 replace h:=h hk.1
 have z1:lZ m_.Next:=ok_len (Ok.agg_at hk.1 2 rfl)
 have z2:lZ m_.Out:=ok_len (Ok.agg_at hk.1 3 rfl)
 unfold zd4 at h
 conv=>whnf
 obtain ⟨y56,hc,hk52⟩:=bind_some h
 clear h
 have h:=hc
 clear hc
 refine Cut.mk (mkSt [(1,.im (.ref (zaf m_))),(16,.im (nB y56))] [] []) (True) (hT) ?_ (fun hp=>?_)
 conv=>whnf
 obtain ⟨c57,hc57,h⟩:=bind_some h
 refine ⟨_,(zch m_ c57 (fun _=>hc57)),?_⟩
 conv=>whnf
 refine Both.mk ?_ ?_<;>intro b58
 replace b58:=beq_ff b58
 obtain ⟨h,b58d⟩:=cfd b58 h
 conv=>whnf
 refine Both.yes (ff_beq b58) ?_
 conv=>whnf
 obtain ⟨c59,hc59,h⟩:=bind_some h
 refine ⟨_,(zg9 m_ c59 (fun _=>hc59)).im,?_⟩
 conv=>whnf
 refine Both.yes (ff_beq b58) ?_
 conv=>whnf
 refine Nf.mk (List.length c59) len_map ?_
 conv=>whnf
 iterate 3 (refine Both.yes (ff_beq b58) ?_;(conv=>whnf))
 refine Nf.mk (List.length m_.Next) len_map ?_
 conv=>whnf
 refine Both.yes (ff_beq b58) ?_
 conv=>whnf
 refine Both.no b58 ?_
 conv=>whnf
 cases h
 exact Join.mk (eA [])
 replace b58:=beq_ft b58
 obtain ⟨h,b58d⟩:=ctd b58 h
 conv=>whnf
 iterate 6 (refine Both.no (tf_beq b58) ?_;(conv=>whnf))
 refine Both.yes b58 ?_
 conv=>whnf
 cases h
 exact Join.mk (eA [])
 replace h:=hk52
 conv=>whnf
 refine Both.mk ?_ ?_<;>intro b60
 replace h:=cond_t b60 h
 conv=>whnf
 cases h
 conv=>whnf
 exact ⟨rfl,rfl⟩
 replace h:=cond_f b60 h
 conv=>whnf
 obtain ⟨c61,hc61,h⟩:=bind_some h
 refine ⟨_,(zf8 m_ c61 (fun _=>hc61)),?_⟩
 conv=>whnf
 refine Side.mk rfl ?_
 conv=>whnf
 obtain ⟨y65,hc,hk63⟩:=bind_some h
 clear h
 have h:=hc
 clear hc
 refine Cut.mk (mkSt [(2,.im (nB y65))] [] []) (True) (hT) ?_ (fun hp=>?_)
 conv=>whnf
 refine Both.mk ?_ ?_<;>intro b66
 replace b66:=beq_tt b66
 obtain ⟨h,b66d⟩:=ctd b66 h
 conv=>whnf
 refine Side.mk rfl ?_
 conv=>whnf
 refine Both.yes (tt_beq b66) ?_
 conv=>whnf
 refine Side.mk rfl ?_
 conv=>whnf
 refine Both.yes (tt_beq b66) ?_
 conv=>whnf
 refine Nf.mk (List.length c61.1.Next) len_map ?_
 conv=>whnf
 iterate 3 (refine Both.yes (tt_beq b66) ?_;(conv=>whnf))
 refine Nf.mk (List.length m_.Next) len_map ?_
 conv=>whnf
 refine Both.yes (tt_beq b66) ?_
 conv=>whnf
 refine Both.yes b66 ?_
 conv=>whnf
 cases h
 exact Join.mk (eA [])
 replace b66:=beq_tf b66
 obtain ⟨h,b66d⟩:=cfd b66 h
 conv=>whnf
 iterate 6 (refine Both.no (ft_beq b66) ?_;(conv=>whnf))
 refine Both.no b66 ?_
 conv=>whnf
 cases h
 exact Join.mk (eA [])
 replace h:=hk63
 conv=>whnf
 cases h
 conv=>whnf
 exact ⟨rfl,rfl⟩
theorem zir (m_:zad) (r:Int) (h:Ok (.agg (zaf m_))→ze4 m_=some r):Sp Tryz.prog 90 [.im (.agg (zaf m_))] (.im (nI r)):=by
 refine sp_of rfl [700001] rfl rfl rfl (Nat.le_of_ble_eq_true rfl) rfl fun hk=>?_
 replace h:=h hk.1
 have z1:lZ m_.Next:=ok_len (Ok.agg_at hk.1 2 rfl)
 have z2:lZ m_.Out:=ok_len (Ok.agg_at hk.1 3 rfl)
 unfold ze4 at h
 conv=>whnf
 obtain ⟨c51,hc51,h⟩:=bind_some h
 refine ⟨_,(zch m_ c51 (fun _=>hc51)),?_⟩
 conv=>whnf
 refine Both.mk ?_ ?_<;>intro b52
 obtain ⟨h,b52d⟩:=ctd b52 h
 conv=>whnf
 cases h
 conv=>whnf
 exact ⟨rfl,rfl⟩
 obtain ⟨h,b52d⟩:=cfd b52 h
 conv=>whnf
 obtain ⟨c53,hc53,h⟩:=bind_some h
 refine ⟨_,(zhp m_ c53 (fun _=>hc53)),?_⟩
 conv=>whnf
 refine Both.mk ?_ ?_<;>intro b54
 replace h:=cond_t b54 h
 conv=>whnf
 cases h
 conv=>whnf
 exact ⟨rfl,rfl⟩
 replace h:=cond_f b54 h
 conv=>whnf
 cases h
 conv=>whnf
 exact ⟨rfl,rfl⟩
theorem zj5 (a_:zad) (b_:zad) (first_:zcd) (r:List Int×Bool) (h:Ok (.agg (zaf a_))→Ok (.agg (zaf b_))→Ok (.agg (zeu first_))→za7 a_ b_ first_=some r):Sp Tryz.prog 124 [.im (.agg (zaf a_)),.im (.agg (zaf b_)),.im (.agg (zeu first_))] (.tup [nL cI r.1,nB r.2]):=by
 refine sp_of rfl [42,600018,700003,700004,700005] rfl rfl rfl (Nat.le_of_ble_eq_true rfl) rfl fun hk=>?_
 replace h:=h hk.1 hk.2.1 hk.2.2.1
 have z1:lZ a_.Next:=ok_len (Ok.agg_at hk.1 2 rfl)
 have z2:lZ a_.Out:=ok_len (Ok.agg_at hk.1 3 rfl)
 have z3:lZ b_.Next:=ok_len (Ok.agg_at hk.2.1 2 rfl)
 have z4:lZ b_.Out:=ok_len (Ok.agg_at hk.2.1 3 rfl)
 unfold za7 at h
 conv=>whnf
 refine Nf.mk (List.length a_.Next) len_map ?_
 conv=>whnf
 obtain ⟨c51,h⟩:=chk_some h
 refine Side.mk c51 ?_
 conv=>whnf
 refine Nf.mk (List.map (cL cB) (List.replicate (List.length a_.Next) ([]:List Bool))) (rep_map (c:=(cL cB)) (z:=([]:List Bool)) (n:=(List.length a_.Next)) rfl rfl) ?_
 conv=>whnf
 refine Side.mk rfl ?_
 conv=>whnf
 refine Nf.mk (List.length (List.replicate (List.length a_.Next) ([]:List Bool))) len_map ?_
 conv=>whnf
 obtain ⟨y68,hc,hk52⟩:=bind_some h
 clear h
 have h:=hc
 clear hc
 refine Cut.mk (mkSt [(3,.im (.ref (zaf a_))),(4,.im (.ref (zaf b_))),(5,.im (.ref (zeu first_))),(8,.osl 144 1)] [(144,.grid 85 4 1 (List.map (cL cB) y68) none)] []) (lZ y68∧True) ((Holds.kdg 144 rfl).and (hT)) ?_ (fun hp=>?_)
 conv=>whnf
 refine Loops.iter (fun (s:List (List Bool)×Nat)=>za7.s2 a_ b_ s.1 s.2) (fun (y72,y73)=>mkSt [(3,.im (.ref (zaf a_))),(4,.im (.ref (zaf b_))),(5,.im (.ref (zeu first_))),(8,.osl 144 1),(20,.im (nI (↑(List.length (List.replicate (List.length a_.Next) ([]:List Bool))):Int))),(21,.im (nI (↑y73:Int)))] [(144,.grid 85 4 1 (List.map (cL cB) y72) none)] []) (fun (y72,y73)=>lZ y72∧True) h (eA [(144,some 18)]) (by rintro ⟨y72,y73⟩;exact ((Holds.kdg 144 rfl).and (hT))) ?_
 clear h
 rintro k ⟨y72,y73⟩ o hp h ho78
 replace h:za7.s2 a_ b_ y72 y73=some o:=h
 unfold za7.s2 at h
 obtain ⟨z83,_⟩:=hp
 conv=>whnf
 refine Both.mk ?_ ?_<;>intro b79
 obtain ⟨h,b79d⟩:=ctd b79 h
 conv=>whnf
 refine Nf.mk (List.length b_.Next) len_map ?_
 conv=>whnf
 obtain ⟨c80,h⟩:=chk_some h
 refine Side.mk c80 ?_
 conv=>whnf
 refine Nf.mk (List.map cB (List.replicate (List.length b_.Next) false)) (rep_map (c:=cB) (z:=false) (n:=(List.length b_.Next)) rfl rfl) ?_
 conv=>whnf
 obtain ⟨e81,he81,h⟩:=zab h
 refine Side.mk ⟨(by omega),rfl,map_lt he81⟩ ?_
 conv=>whnf
 refine Side.mk ⟨rfl,rfl,map_lt he81,trivial⟩ ?_
 conv=>whnf
 refine Nf.mk (List.map (cL cB) (List.set y72 y73 (List.replicate (List.length b_.Next) false))) set_grid1 ?_
 conv=>whnf
 obtain ⟨c82,h⟩:=chk_some h
 refine Arith.mk c82 ?_
 conv=>whnf
 cases h
 exact Nxt.mk _ ho78 (eA [(144,some 144)])
 obtain ⟨h,b79d⟩:=cfd b79 h
 conv=>whnf
 cases h
 have ho78:_=_:=ho78
 cases ho78
 exact Join.mk (eA [(144,some 144)])
 replace h:=hk52
 obtain ⟨z84,_⟩:=hp
 conv=>whnf
 obtain ⟨e85,he85z,he85,h⟩:=idx_some h
 refine Side.mk ⟨he85z,rfl,map_lt he85⟩ ?_
 conv=>whnf
 refine Side.mk ⟨rfl,map_lt he85⟩ ?_
 conv=>whnf
 obtain ⟨e86,he86z,he86,h⟩:=idx_some h
 refine ⟨_,⟨he86z,rfl,map_at he85,map_lt he86⟩,?_⟩
 conv=>whnf
 refine ⟨_,_,⟨rfl,map_at he85,map_at he86⟩,?_⟩
 conv=>whnf
 refine Nf.mk (List.map (cL cB) (List.set y68 (Int.toNat first_.s) (List.set e85 (Int.toNat first_.t) true))) (zel rfl) ?_
 conv=>whnf
 obtain ⟨oc,hc,hk87⟩:=bind_some h
 clear h
 have h:=hc
 clear hc
 refine Cut.mkS oc (Y:=Unit) (fun (_:Unit)=>mkSt [] [] []) (fun (_:Unit)=>True) (by rintro ⟨⟩;exact (hT)) ?_ ?_
 conv=>whnf
 refine Loops.iter (fun (s:List (List Bool)×List za2×Nat)=>za7.s22 a_ b_ s.1 s.2.1 s.2.2) (fun (y898,y899,i900)=>mkSt [(3,.im (.ref (zaf a_))),(4,.im (.ref (zaf b_))),(8,.osl 144 1),(10,.osl 145 1),(11,.im (nI (↑i900:Int)))] [(144,.grid 85 4 1 (List.map (cL cB) y898) none),(145,.row 170 3 (List.map zcr y899))] []) (fun (y898,y899,i900)=>lZ y898∧lZ y899∧True) h (eA [(144,some 144),(145,some 42)]) (by rintro ⟨y898,y899,i900⟩;exact ((Holds.kdg 144 rfl).and ((Holds.kdl 145 rfl).and (hT)))) ?_
 clear h
 rintro k ⟨y898,y899,i900⟩ o hp h ho1102
 replace h:za7.s22 a_ b_ y898 y899 i900=some o:=h
 unfold za7.s22 at h
 obtain ⟨z1304,z1305,_⟩:=hp
 conv=>whnf
 refine Side.mk rfl ?_
 conv=>whnf
 refine Nf.mk (List.length y899) len_map ?_
 conv=>whnf
 refine Both.mk ?_ ?_<;>intro b1103
 obtain ⟨h,b1103d⟩:=ctd b1103 h
 conv=>whnf
 obtain ⟨e1104,he1104,h⟩:=zab h
 refine Side.mk ⟨(by omega),rfl,map_lt he1104⟩ ?_
 conv=>whnf
 refine Side.mk rfl ?_
 conv=>whnf
 refine ⟨_,⟨rfl,map_at he1104,of_decide_eq_true rfl,rfl⟩,?_⟩
 conv=>whnf
 refine Side.mk rfl ?_
 conv=>whnf
 obtain ⟨oc,hc,hk1105⟩:=bind_some h
 clear h
 have h:=hc
 clear hc
 refine Cut.mkS oc (Y:=List (List Bool)×List za2) (fun (y1203,y1204)=>mkSt [(3,.im (.ref (zaf a_))),(4,.im (.ref (zaf b_))),(8,.osl 144 1),(10,.osl 145 1),(11,.im (nI (↑i900:Int)))] [(144,.grid 85 4 1 (List.map (cL cB) y1203) none),(145,.row 170 3 (List.map zcr y1204))] []) (fun (y1203,y1204)=>lZ y1203∧lZ y1204∧True) (by rintro ⟨y1203,y1204⟩;exact ((Holds.kdg 144 rfl).and ((Holds.kdl 145 rfl).and (hT)))) ?_ ?_
 conv=>whnf
 refine Loops.iter (fun (s:List (List Bool)×List za2×Nat)=>za7.s20 a_ b_ i900 e1104 s.1 s.2.1 s.2.2) (fun (y1234,y1235,y1236)=>mkSt [(3,.im (.ref (zaf a_))),(4,.im (.ref (zaf b_))),(8,.osl 144 1),(10,.osl 145 1),(11,.im (nI (↑i900:Int))),(12,.own 146 1 0),(55,.im (nI a_.Inputs)),(56,.im (nI (↑y1236:Int)))] [(144,.grid 85 4 1 (List.map (cL cB) y1234) none),(145,.row 170 3 (List.map zcr y1235)),(146,.box 153 2)] [(146,0,.im (nI e1104.at_.s)),(146,1,.im (nI e1104.at_.t))]) (fun (y1234,y1235,y1236)=>lZ y1234∧lZ y1235∧True) h (eA [(144,some 144),(145,some 145),(146,some 12)]) (by rintro ⟨y1234,y1235,y1236⟩;exact ((Holds.kdg 144 rfl).and ((Holds.kdl 145 rfl).and (hT)))) ?_
 clear h
 rintro k ⟨y1234,y1235,y1236⟩ o hp h ho1268
 replace h:za7.s20 a_ b_ i900 e1104 y1234 y1235 y1236=some o:=h
 unfold za7.s20 at h
 obtain ⟨z1300,z1301,_⟩:=hp
 conv=>whnf
 refine Both.mk ?_ ?_<;>intro b1269
 obtain ⟨h,b1269d⟩:=ctd b1269 h
 conv=>whnf
 refine Side.mk rfl ?_
 conv=>whnf
 refine Side.mk rfl ?_
 conv=>whnf
 obtain ⟨e1270,he1270z,he1270,h⟩:=idx_some h
 refine ⟨_,⟨he1270z,map_at he1270,rfl⟩,?_⟩
 conv=>whnf
 obtain ⟨e1271,he1271,h⟩:=zab h
 refine ⟨_,⟨(by omega),map_at he1271,rfl⟩,?_⟩
 conv=>whnf
 refine Side.mk rfl ?_
 conv=>whnf
 refine Side.mk rfl ?_
 conv=>whnf
 obtain ⟨e1272,he1272z,he1272,h⟩:=idx_some h
 refine ⟨_,⟨he1272z,map_at he1272,rfl⟩,?_⟩
 conv=>whnf
 obtain ⟨e1273,he1273,h⟩:=zab h
 refine ⟨_,⟨(by omega),map_at he1273,rfl⟩,?_⟩
 conv=>whnf
 refine Both.mk ?_ ?_<;>intro b1274
 obtain ⟨h,b1274d⟩:=ctd b1274 h
 conv=>whnf
 obtain ⟨e1275,he1275,h⟩:=zab h
 refine Side.mk ⟨(by omega),rfl,map_lt he1275⟩ ?_
 conv=>whnf
 refine Side.mk rfl ?_
 conv=>whnf
 refine ⟨_,_,⟨rfl,map_at he1275,rfl,rfl⟩,?_⟩
 conv=>whnf
 obtain ⟨c1276,hc1276,h⟩:=bind_some h
 refine ⟨_,(zd2 [e1275.word,[(↑y1236:Int)]] c1276 (fun _=>hc1276)),?_⟩
 conv=>whnf
 cases h
 have ho1268:_=_:=ho1268
 cases ho1268
 replace h:some _=some _:=hk1105
 cases h
 have ho1102:_=_:=ho1102
 cases ho1102
 replace h:some _=some _:=hk87
 cases h
 conv=>whnf
 exact ⟨rfl,rfl⟩
 obtain ⟨h,b1274d⟩:=cfd b1274 h
 conv=>whnf
 refine Side.mk rfl ?_
 conv=>whnf
 refine Side.mk rfl ?_
 conv=>whnf
 obtain ⟨e1277,he1277z,he1277,h⟩:=idx_some h
 refine ⟨_,⟨he1277z,map_at he1277,rfl⟩,?_⟩
 conv=>whnf
 obtain ⟨e1278,he1278,h⟩:=zab h
 refine ⟨_,⟨(by omega),map_at he1278,rfl⟩,?_⟩
 conv=>whnf
 refine Side.mk rfl ?_
 conv=>whnf
 refine Side.mk rfl ?_
 conv=>whnf
 obtain ⟨e1279,he1279z,he1279,h⟩:=idx_some h
 refine ⟨_,⟨he1279z,map_at he1279,rfl⟩,?_⟩
 conv=>whnf
 obtain ⟨e1280,he1280,h⟩:=zab h
 refine ⟨_,⟨(by omega),map_at he1280,rfl⟩,?_⟩
 conv=>whnf
 refine Side.mk rfl ?_
 conv=>whnf
 obtain ⟨y1286,hc,hk1282⟩:=bind_some h
 clear h
 have h:=hc
 clear hc
 refine Cut.mk (mkSt [(3,.im (.ref (zaf a_))),(4,.im (.ref (zaf b_))),(8,.osl 144 1),(10,.osl 145 1),(11,.im (nI (↑i900:Int))),(12,.own 146 1 0),(13,.im (nI (↑y1236:Int))),(14,.own 147 1 0),(55,.im (nI a_.Inputs)),(56,.im (nI (↑y1236:Int))),(120,.im (nB y1286))] [(144,.grid 85 4 1 (List.map (cL cB) y1234) none),(145,.row 170 3 (List.map zcr y1235)),(146,.box 153 2),(147,.box 153 2)] [(146,0,.im (nI e1104.at_.s)),(146,1,.im (nI e1104.at_.t)),(147,0,.im (nI e1278)),(147,1,.im (nI e1280))]) (lZ y1234∧lZ y1235∧True) ((Holds.kdg 144 rfl).and ((Holds.kdl 145 rfl).and (hT))) ?_ (fun hp=>?_)
 conv=>whnf
 refine Side.mk rfl ?_
 conv=>whnf
 refine Side.mk rfl ?_
 conv=>whnf
 refine Side.mk (by kernel_rfl) ?_
 conv=>whnf
 refine Nf.mk (decide (e1278=e1104.at_.s)&&(decide (e1280=e1104.at_.t)&&true)) rfl ?_
 conv=>whnf
 refine Both.mk ?_ ?_<;>intro b1287
 replace b1287:=beq_tt b1287
 replace h:=cond_t b1287 h
 conv=>whnf
 refine Both.yes (tt_beq b1287) ?_
 conv=>whnf
 refine Side.mk rfl ?_
 conv=>whnf
 refine Both.yes (tt_beq b1287) ?_
 conv=>whnf
 refine Side.mk rfl ?_
 conv=>whnf
 refine Both.yes (tt_beq b1287) ?_
 conv=>whnf
 obtain ⟨e1288,he1288z,he1288,h⟩:=idx_some h
 refine Side.mk ⟨he1288z,rfl,map_lt he1288⟩ ?_
 conv=>whnf
 refine Both.yes (tt_beq b1287) ?_
 conv=>whnf
 refine Side.mk ⟨rfl,map_lt he1288⟩ ?_
 conv=>whnf
 refine Both.yes (tt_beq b1287) ?_
 conv=>whnf
 refine Side.mk rfl ?_
 conv=>whnf
 refine Both.yes (tt_beq b1287) ?_
 conv=>whnf
 refine Side.mk rfl ?_
 conv=>whnf
 refine Both.yes (tt_beq b1287) ?_
 conv=>whnf
 obtain ⟨e1289,he1289z,he1289,h⟩:=idx_some h
 refine ⟨_,⟨he1289z,rfl,map_at he1288,map_lt he1289⟩,?_⟩
 conv=>whnf
 refine Both.yes (tt_beq b1287) ?_
 conv=>whnf
 refine ⟨_,_,_,⟨rfl,map_at he1288,map_at he1289,rfl⟩,?_⟩
 conv=>whnf
 refine Both.yes (tt_beq b1287) ?_
 conv=>whnf
 refine Both.yes b1287 ?_
 conv=>whnf
 cases h
 exact Join.mk (eA [(144,some 144),(145,some 145),(146,some 146),(147,some 14)])
 replace b1287:=beq_tf b1287
 replace h:=cond_f b1287 h
 conv=>whnf
 iterate 9 (refine Both.no (ft_beq b1287) ?_;(conv=>whnf))
 refine Both.no b1287 ?_
 conv=>whnf
 cases h
 exact Join.mk (eA [(144,some 144),(145,some 145),(146,some 146),(147,some 14)])
 replace h:=hk1282
 obtain ⟨z1290,z1291,_⟩:=hp
 conv=>whnf
 refine Both.mk ?_ ?_<;>intro b1292
 replace h:=cond_t b1292 h
 conv=>whnf
 refine Side.mk rfl ?_
 conv=>whnf
 refine Side.mk rfl ?_
 conv=>whnf
 obtain ⟨e1293,he1293z,he1293,h⟩:=idx_some h
 refine Side.mk ⟨he1293z,rfl,map_lt he1293⟩ ?_
 conv=>whnf
 refine Side.mk ⟨rfl,map_lt he1293⟩ ?_
 conv=>whnf
 refine Side.mk rfl ?_
 conv=>whnf
 refine Side.mk rfl ?_
 conv=>whnf
 obtain ⟨e1294,he1294z,he1294,h⟩:=idx_some h
 refine ⟨_,⟨he1294z,rfl,map_at he1293,map_lt he1294⟩,?_⟩
 conv=>whnf
 refine ⟨_,_,⟨rfl,map_at he1293,map_at he1294⟩,?_⟩
 conv=>whnf
 refine Nf.mk (List.map (cL cB) (List.set y1234 (Int.toNat e1278) (List.set e1293 (Int.toNat e1280) true))) (zel rfl) ?_
 conv=>whnf
 refine Side.mk rfl ?_
 conv=>whnf
 obtain ⟨e1295,he1295,h⟩:=zab h
 refine Side.mk ⟨(by omega),rfl,map_lt he1295⟩ ?_
 conv=>whnf
 refine Side.mk rfl ?_
 conv=>whnf
 refine ⟨_,_,⟨rfl,map_at he1295,rfl,rfl⟩,?_⟩
 conv=>whnf
 obtain ⟨c1296,hc1296,h⟩:=bind_some h
 refine ⟨_,(zd2 [e1295.word,[(↑y1236:Int)]] c1296 (fun _=>hc1296)),?_⟩
 conv=>whnf
 obtain ⟨c1297,h⟩:=chk_some h
 refine Side.mk ⟨rfl,map_len (l:=[(⟨(⟨e1278,e1280⟩:zcd),c1296⟩:za2)]) (c:=zcr) fun _=>rfl,show capOk _ 40 by simpa only [List.length_map,List.length_cons,List.length_nil,Nat.zero_add] using c1297⟩ ?_
 conv=>whnf
 refine Nf.mk (List.map zcr (y1235++[(⟨(⟨e1278,e1280⟩:zcd),c1296⟩:za2)])) (app_map (l:=y1235) (m:=[(⟨(⟨e1278,e1280⟩:zcd),c1296⟩:za2)]) (c:=zcr)) ?_
 conv=>whnf
 obtain ⟨c1298,h⟩:=chk_some h
 refine Arith.mk c1298 ?_
 conv=>whnf
 cases h
 exact Nxt.mk _ ho1268 (eA [(144,some 144),(145,some 145),(146,some 146)])
 replace h:=cond_f b1292 h
 conv=>whnf
 obtain ⟨c1299,h⟩:=chk_some h
 refine Arith.mk c1299 ?_
 conv=>whnf
 cases h
 exact Nxt.mk _ ho1268 (eA [(144,some 144),(145,some 145),(146,some 146)])
 obtain ⟨h,b1269d⟩:=cfd b1269 h
 conv=>whnf
 cases h
 have ho1268:_=_:=ho1268
 cases ho1268
 exact JoinS.mk' _ rfl (eA [(144,some 144),(145,some 145)])
 rintro ⟨y1203,y1204⟩ rfl hp
 have hx_:=sum_inl hk1105
 replace h:za7.k21 i900 y1203 y1204=some _:=hx_
 clear hx_
 unfold za7.k21 at h
 obtain ⟨z1302,z1303,_⟩:=hp
 conv=>whnf
 refine Arith.mk (by show inR _;unfold inR;omega) ?_
 conv=>whnf
 cases h
 exact Nxt.mk _ ho1102 (eA [(144,some 144),(145,some 145)])
 obtain ⟨h,b1103d⟩:=cfd b1103 h
 conv=>whnf
 cases h
 have ho1102:_=_:=ho1102
 cases ho1102
 exact JoinS.mk' _ rfl (eA [])
 rintro ⟨⟩ rfl hp
 replace h:=sum_inl hk87
 conv=>whnf
 cases h
 conv=>whnf
 exact ⟨rfl,rfl⟩
theorem zjn (m_:zad) (s_:Int) (t_:Int) (r:List Int×Bool×Int) (h:Ok (.agg (zaf m_))→Ok (nI s_)→Ok (nI t_)→zgc m_ s_ t_=some r):Sp Tryz.prog 92 [.im (.agg (zaf m_)),.im (nI s_),.im (nI t_)] (.tup [nL cI r.1,nB r.2.1,nI r.2.2]):=by
 refine sp_of rfl [700003] rfl rfl rfl (Nat.le_of_ble_eq_true rfl) rfl fun hk=>?_
 replace h:=h hk.1 hk.2.1 hk.2.2.1
 have z1:lZ m_.Next:=ok_len (Ok.agg_at hk.1 2 rfl)
 have z2:lZ m_.Out:=ok_len (Ok.agg_at hk.1 3 rfl)
 unfold zgc at h
 conv=>whnf
 obtain ⟨c51,hc51,h⟩:=bind_some h
 refine ⟨_,(zch m_ c51 (fun _=>hc51)),?_⟩
 conv=>whnf
 refine Both.mk ?_ ?_<;>intro b52
 obtain ⟨h,b52d⟩:=ctd b52 h
 conv=>whnf
 cases h
 conv=>whnf
 exact ⟨rfl,rfl⟩
 obtain ⟨h,b52d⟩:=cfd b52 h
 conv=>whnf
 obtain ⟨y58,hc,hk54⟩:=bind_some h
 clear h
 have h:=hc
 clear hc
 refine Cut.mk (mkSt [(1,.im (nI s_)),(2,.im (nI t_)),(3,.im (.ref (zaf m_))),(36,.im (nB y58))] [] []) (True) (hT) ?_ (fun hp=>?_)
 conv=>whnf
 refine Both.mk ?_ ?_<;>intro b59
 replace b59:=beq_ff b59
 obtain ⟨h,b59d⟩:=cfd b59 h
 conv=>whnf
 iterate 3 (refine Both.yes (ff_beq b59) ?_;(conv=>whnf))
 refine Nf.mk (List.length m_.Next) len_map ?_
 conv=>whnf
 refine Both.yes (ff_beq b59) ?_
 conv=>whnf
 refine Both.no b59 ?_
 conv=>whnf
 refine Both.mk ?_ ?_<;>intro b60
 replace b60:=beq_ff b60
 obtain ⟨h,b60d⟩:=cfd b60 h
 conv=>whnf
 refine Both.yes (ff_beq b60) ?_
 conv=>whnf
 refine Both.no b60 ?_
 conv=>whnf
 refine Both.mk ?_ ?_<;>intro b61
 replace b61:=beq_ff b61
 obtain ⟨h,b61d⟩:=cfd b61 h
 conv=>whnf
 iterate 3 (refine Both.yes (ff_beq b61) ?_;(conv=>whnf))
 refine Nf.mk (List.length m_.Next) len_map ?_
 conv=>whnf
 refine Both.yes (ff_beq b61) ?_
 conv=>whnf
 refine Both.no b61 ?_
 conv=>whnf
 cases h
 exact Join.mk (eA [])
 replace b61:=beq_ft b61
 obtain ⟨h,b61d⟩:=ctd b61 h
 conv=>whnf
 iterate 4 (refine Both.no (tf_beq b61) ?_;(conv=>whnf))
 refine Both.yes b61 ?_
 conv=>whnf
 cases h
 exact Join.mk (eA [])
 replace b60:=beq_ft b60
 obtain ⟨h,b60d⟩:=ctd b60 h
 conv=>whnf
 refine Both.no (tf_beq b60) ?_
 conv=>whnf
 refine Both.yes b60 ?_
 conv=>whnf
 iterate 5 (refine Both.no rfl ?_;(conv=>whnf))
 refine Both.yes rfl ?_
 conv=>whnf
 cases h
 exact Join.mk (eA [])
 replace b59:=beq_ft b59
 obtain ⟨h,b59d⟩:=ctd b59 h
 conv=>whnf
 iterate 4 (refine Both.no (tf_beq b59) ?_;(conv=>whnf))
 refine Both.yes b59 ?_
 conv=>whnf
 iterate 2 (refine Both.no rfl ?_;(conv=>whnf))
 refine Both.yes rfl ?_
 conv=>whnf
 iterate 5 (refine Both.no rfl ?_;(conv=>whnf))
 refine Both.yes rfl ?_
 conv=>whnf
 cases h
 exact Join.mk (eA [])
 replace h:=hk54
 conv=>whnf
 refine Both.mk ?_ ?_<;>intro b62
 replace h:=cond_t b62 h
 conv=>whnf
 cases h
 conv=>whnf
 exact ⟨rfl,rfl⟩
 replace h:=cond_f b62 h
 conv=>whnf
 obtain ⟨c63,hc63,h⟩:=bind_some h
 refine ⟨_,(zj5 m_ m_ (⟨s_,t_⟩:zcd) c63 (fun _ _ _=>hc63)),?_⟩
 conv=>whnf
 cases h
 conv=>whnf
 exact ⟨rfl,rfl⟩
theorem zho (m_:zad) (r:List (List Int)×Int) (h:Ok (.agg (zaf m_))→zbb m_=some r):Sp Tryz.prog 58 [.im (.agg (zaf m_))] (.tup [nL (cL cI) r.1,nI r.2]):=by
 refine sp_of rfl [500035,700001] rfl rfl rfl (Nat.le_of_ble_eq_true rfl) rfl fun hk=>?_
 replace h:=h hk.1
 have z1:lZ m_.Next:=ok_len (Ok.agg_at hk.1 2 rfl)
 have z2:lZ m_.Out:=ok_len (Ok.agg_at hk.1 3 rfl)
 unfold zbb at h
 conv=>whnf
 obtain ⟨c51,hc51,h⟩:=bind_some h
 refine ⟨_,(zir m_ c51 (fun _=>hc51)),?_⟩
 conv=>whnf
 refine Both.mk ?_ ?_<;>intro b52
 obtain ⟨h,b52d⟩:=ctd b52 h
 conv=>whnf
 cases h
 conv=>whnf
 exact ⟨rfl,rfl⟩
 obtain ⟨h,b52d⟩:=cfd b52 h
 conv=>whnf
 refine Nf.mk (List.length m_.Next) len_map ?_
 conv=>whnf
 obtain ⟨oc,hc,hk53⟩:=bind_some h
 clear h
 have h:=hc
 clear hc
 refine Cut.mkS oc (Y:=List (List Int)) (fun y342=>mkSt [(5,.osl 64 1)] [(64,.row 25 1 (List.map (cL cI) y342))] []) (fun y342=>lZ y342∧True) (by rintro y342;exact ((Holds.kdl 64 rfl).and (hT))) ?_ ?_
 conv=>whnf
 refine Loops.iter (fun (s:List (List Int)×Nat)=>zbb.s14 m_ s.1 s.2) (fun (y435,y436)=>mkSt [(1,.im (.ref (zaf m_))),(5,.osl 64 1),(18,.im (nI (↑(List.length m_.Next):Int))),(19,.im (nI (↑y436:Int)))] [(64,.row 25 1 (List.map (cL cI) y435))] []) (fun (y435,y436)=>lZ y435∧True) h (eA [(64,none)]) (by rintro ⟨y435,y436⟩;exact ((Holds.kdl 64 rfl).and (hT))) ?_
 clear h
 rintro k ⟨y435,y436⟩ o hp h ho533
 replace h:zbb.s14 m_ y435 y436=some o:=h
 unfold zbb.s14 at h
 obtain ⟨z630,_⟩:=hp
 conv=>whnf
 refine Both.mk ?_ ?_<;>intro b534
 obtain ⟨h,b534d⟩:=ctd b534 h
 conv=>whnf
 refine Arith.mk (by show inR _;unfold inR;omega) ?_
 conv=>whnf
 obtain ⟨oc,hc,hk535⟩:=bind_some h
 clear h
 have h:=hc
 clear hc
 refine Cut.mkS oc (Y:=List (List Int)) (fun y582=>mkSt [(1,.im (.ref (zaf m_))),(5,.osl 64 1),(18,.im (nI (↑(List.length m_.Next):Int))),(19,.im (nI (↑y436:Int)))] [(64,.row 25 1 (List.map (cL cI) y582))] []) (fun y582=>lZ y582∧True) (by rintro y582;exact ((Holds.kdl 64 rfl).and (hT))) ?_ ?_
 conv=>whnf
 refine Loops.iter (fun (s:List (List Int)×Nat)=>zbb.s13 m_ y436 s.1 s.2) (fun (y597,t598)=>mkSt [(1,.im (.ref (zaf m_))),(5,.osl 64 1),(6,.im (nI (↑y436:Int))),(7,.im (nI (↑t598:Int))),(18,.im (nI (↑(List.length m_.Next):Int))),(19,.im (nI (↑y436:Int)))] [(64,.row 25 1 (List.map (cL cI) y597))] []) (fun (y597,t598)=>lZ y597∧True) h (eA [(64,some 64)]) (by rintro ⟨y597,t598⟩;exact ((Holds.kdl 64 rfl).and (hT))) ?_
 clear h
 rintro k ⟨y597,t598⟩ o hp h ho613
 replace h:zbb.s13 m_ y436 y597 t598=some o:=h
 unfold zbb.s13 at h
 obtain ⟨z628,_⟩:=hp
 conv=>whnf
 refine Nf.mk (List.length m_.Next) len_map ?_
 conv=>whnf
 refine Both.mk ?_ ?_<;>intro b614
 obtain ⟨h,b614d⟩:=ctd b614 h
 conv=>whnf
 obtain ⟨oc,hc,hk615⟩:=bind_some h
 clear h
 have h:=hc
 clear hc
 refine Cut.mkS oc (Y:=List (List Int)) (fun y621=>mkSt [(1,.im (.ref (zaf m_))),(5,.osl 64 1),(6,.im (nI (↑y436:Int))),(7,.im (nI (↑t598:Int))),(18,.im (nI (↑(List.length m_.Next):Int))),(19,.im (nI (↑y436:Int)))] [(64,.row 25 1 (List.map (cL cI) y621))] []) (fun y621=>lZ y621∧True) (by rintro y621;exact ((Holds.kdl 64 rfl).and (hT))) ?_ ?_
 conv=>whnf
 refine Side.mk ⟨rfl,trivial⟩ ?_
 conv=>whnf
 obtain ⟨c622,hc622,h⟩:=bind_some h
 refine ⟨_,(zga m_ y597 (↑y436:Int) (↑t598:Int) c622 (fun _ _ _ _=>hc622)),?_⟩
 conv=>whnf
 refine Side.mk flat_one ?_
 conv=>whnf
 refine Both.mk ?_ ?_<;>intro b623
 replace h:=cond_t b623 h
 conv=>whnf
 cases h
 exact JoinS.mk' _ rfl (eA [(64,some 64)])
 replace h:=cond_f b623 h
 conv=>whnf
 obtain ⟨c624,hc624,h⟩:=bind_some h
 refine ⟨_,(zjn m_ (↑y436:Int) (↑t598:Int) c624 (fun _ _ _=>hc624)),?_⟩
 conv=>whnf
 refine Both.mk ?_ ?_<;>intro b625
 obtain ⟨h,b625d⟩:=ctd b625 h
 conv=>whnf
 cases h
 replace h:some _=some _:=hk615
 cases h
 have ho613:_=_:=ho613
 cases ho613
 replace h:some _=some _:=hk535
 cases h
 have ho533:_=_:=ho533
 cases ho533
 replace h:some _=some _:=hk53
 cases h
 conv=>whnf
 exact ⟨rfl,rfl⟩
 obtain ⟨h,b625d⟩:=cfd b625 h
 conv=>whnf
 obtain ⟨c626,h⟩:=chk_some h
 refine Side.mk ⟨rfl,map_len (l:=[c624.1]) (c:=cL cI) fun _=>rfl,show capOk _ 24 by simpa only [List.length_map,List.length_cons,List.length_nil,Nat.zero_add] using c626⟩ ?_
 conv=>whnf
 refine Nf.mk (List.map (cL cI) (y597++[c624.1])) (app_map (l:=y597) (m:=[c624.1]) (c:=cL cI)) ?_
 conv=>whnf
 cases h
 exact JoinS.mk' _ rfl (eA [(64,some 64)])
 rintro y621 rfl hp
 replace h:=sum_inl hk615
 obtain ⟨z627,_⟩:=hp
 conv=>whnf
 refine Arith.mk (by show inR _;unfold inR;omega) ?_
 conv=>whnf
 cases h
 exact Nxt.mk _ ho613 (eA [(64,some 64)])
 obtain ⟨h,b614d⟩:=cfd b614 h
 conv=>whnf
 cases h
 have ho613:_=_:=ho613
 cases ho613
 exact JoinS.mk' _ rfl (eA [(64,some 64)])
 rintro y582 rfl hp
 replace h:=sum_inl hk535
 obtain ⟨z629,_⟩:=hp
 conv=>whnf
 refine Arith.mk (by show inR _;unfold inR;omega) ?_
 conv=>whnf
 cases h
 exact Nxt.mk _ ho533 (eA [(64,some 64)])
 obtain ⟨h,b534d⟩:=cfd b534 h
 conv=>whnf
 cases h
 have ho533:_=_:=ho533
 cases ho533
 exact JoinS.mk' _ rfl (eA [(64,some 64)])
 rintro y342 rfl hp
 replace h:=sum_inl hk53
 obtain ⟨z631,_⟩:=hp
 conv=>whnf
 refine Side.mk ⟨rfl,trivial⟩ ?_
 conv=>whnf
 obtain ⟨c632,hc632,h⟩:=bind_some h
 refine ⟨_,(zcj y342 c632 (fun _=>hc632)).im,?_⟩
 conv=>whnf
 cases h
 conv=>whnf
 exact ⟨rfl,rfl⟩
theorem zj3 (m_:zad) (r:List (List Int)×Int) (h:Ok (.agg (zaf m_))→zgd m_=some r):Sp Tryz.prog 29 [.im (.agg (zaf m_))] (.tup [nL (cL cI) r.1,nI r.2]):=by
 refine sp_of rfl [700001] rfl rfl rfl (Nat.le_of_ble_eq_true rfl) rfl fun hk=>?_
 replace h:=h hk.1
 have z1:lZ m_.Next:=ok_len (Ok.agg_at hk.1 2 rfl)
 have z2:lZ m_.Out:=ok_len (Ok.agg_at hk.1 3 rfl)
 unfold zgd at h
 conv=>whnf
 obtain ⟨c51,hc51,h⟩:=bind_some h
 refine ⟨_,(zch m_ c51 (fun _=>hc51)),?_⟩
 conv=>whnf
 refine Both.mk ?_ ?_<;>intro b52
 obtain ⟨h,b52d⟩:=ctd b52 h
 conv=>whnf
 cases h
 conv=>whnf
 exact ⟨rfl,rfl⟩
 obtain ⟨h,b52d⟩:=cfd b52 h
 conv=>whnf
 obtain ⟨c53,hc53,h⟩:=bind_some h
 refine ⟨_,(zf8 m_ c53 (fun _=>hc53)),?_⟩
 conv=>whnf
 refine Side.mk rfl ?_
 conv=>whnf
 refine Side.mk rfl ?_
 conv=>whnf
 obtain ⟨c54,hc54,h⟩:=bind_some h
 refine ⟨_,(zhi c53.1 c54 (fun _=>hc54)),?_⟩
 conv=>whnf
 refine Side.mk rfl ?_
 conv=>whnf
 obtain ⟨c55,hc55,h⟩:=bind_some h
 refine ⟨_,(zg4 c53.1 c55 (fun _=>hc55)),?_⟩
 conv=>whnf
 refine Side.mk rfl ?_
 conv=>whnf
 obtain ⟨c56,hc56,h⟩:=bind_some h
 refine ⟨_,(zho c53.1 c56 (fun _=>hc56)),?_⟩
 conv=>whnf
 obtain ⟨ends60,hc,hk58⟩:=bind_some h
 clear h
 have h:=hc
 clear hc
 refine Cut.mk (mkSt [(7,.im (nL (cL cI) c54.1)),(9,.im (nL (cL cI) c55.1)),(11,.im (nL (cL cI) ends60))] [] []) (lZ c54.1∧lZ c55.1∧lZ ends60∧True) ((Holds.avl 7 rfl).and ((Holds.avl 9 rfl).and ((Holds.avl 11 rfl).and (hT)))) ?_ (fun hp=>?_)
 conv=>whnf
 refine Nf.mk (List.length c56.1) len_map ?_
 conv=>whnf
 refine Both.mk ?_ ?_<;>intro b61
 obtain ⟨h,b61d⟩:=ctd b61 h
 conv=>whnf
 cases h
 exact Join.mk (eA [])
 obtain ⟨h,b61d⟩:=cfd b61 h
 conv=>whnf
 cases h
 exact Join.mk (eA [])
 replace h:=hk58
 obtain ⟨z62,z63,z64,_⟩:=hp
 conv=>whnf
 obtain ⟨c65,hc65,h⟩:=bind_some h
 refine ⟨_,(zf0 [c54.1,c55.1] c65 (fun _=>hc65)),?_⟩
 conv=>whnf
 obtain ⟨c66,hc66,h⟩:=bind_some h
 refine ⟨_,(zh8 c65 ends60 c66 (fun _ _=>hc66)),?_⟩
 conv=>whnf
 refine Both.mk ?_ ?_<;>intro b67
 obtain ⟨h,b67d⟩:=ctd b67 h
 conv=>whnf
 cases h
 conv=>whnf
 exact ⟨rfl,rfl⟩
 obtain ⟨h,b67d⟩:=cfd b67 h
 conv=>whnf
 obtain ⟨c68,hc68,h⟩:=bind_some h
 refine ⟨_,(zf0 [c55.1,c66.1] c68 (fun _=>hc68)),?_⟩
 conv=>whnf
 obtain ⟨c69,hc69,h⟩:=bind_some h
 refine ⟨_,(zh0 c68 c69 (fun _=>hc69)),?_⟩
 conv=>whnf
 cases h
 conv=>whnf
 exact ⟨rfl,rfl⟩
theorem zii (p_:zaa) (out_:Int) (r:zad×Int) (h:Ok (.agg (zak p_))→Ok (nI out_)→za1 p_ out_=some r):Sp Tryz.prog 13 [.im (.agg (zak p_)),.im (nI out_)] (.tup [.agg (zaf r.1),nI r.2]):=by
 refine sp_of rfl [700002] rfl rfl rfl (Nat.le_of_ble_eq_true rfl) rfl fun hk=>?_
 replace h:=h hk.1 hk.2.1
 have z1:lZ p_.Next:=ok_len (Ok.agg_at hk.1 2 rfl)
 have z2:lZ p_.Out:=ok_len (Ok.agg_at hk.1 3 rfl)
 unfold za1 at h
 conv=>whnf
 obtain ⟨c51,hc51,h⟩:=bind_some h
 refine ⟨_,(zc7 p_ c51 (fun _=>hc51)),?_⟩
 conv=>whnf
 refine Both.mk ?_ ?_<;>intro b52
 obtain ⟨h,b52d⟩:=ctd b52 h
 conv=>whnf
 refine Side.mk rfl ?_
 conv=>whnf
 cases h
 conv=>whnf
 refine Side.mk ⟨rfl,trivial⟩ ?_
 conv=>whnf
 exact ⟨rfl,rfl⟩
 obtain ⟨h,b52d⟩:=cfd b52 h
 conv=>whnf
 obtain ⟨y56,hc,hk54⟩:=bind_some h
 clear h
 have h:=hc
 clear hc
 refine Cut.mk (mkSt [(1,.im (nI out_)),(2,.im (.ref (zak p_))),(4,.own 99 1 0),(24,.im (nB y56))] [(99,.box 37 4)] [(99,0,.im (nI 0)),(99,1,.im (nI 0)),(99,2,.im (.val (.slice none 0 0))),(99,3,.im (.val (.slice none 0 0)))]) (True) (hT) ?_ (fun hp=>?_)
 conv=>whnf
 refine Both.mk ?_ ?_<;>intro b57
 replace b57:=beq_ff b57
 obtain ⟨h,b57d⟩:=cfd b57 h
 conv=>whnf
 refine Both.yes (ff_beq b57) ?_
 conv=>whnf
 refine Both.no b57 ?_
 conv=>whnf
 cases h
 exact Join.mk (eA [(99,some 4)])
 replace b57:=beq_ft b57
 obtain ⟨h,b57d⟩:=ctd b57 h
 conv=>whnf
 refine Both.no (tf_beq b57) ?_
 conv=>whnf
 refine Both.yes b57 ?_
 conv=>whnf
 cases h
 exact Join.mk (eA [(99,some 4)])
 replace h:=hk54
 conv=>whnf
 refine Both.mk ?_ ?_<;>intro b58
 replace h:=cond_t b58 h
 conv=>whnf
 refine Side.mk rfl ?_
 conv=>whnf
 cases h
 conv=>whnf
 refine Side.mk ⟨rfl,trivial⟩ ?_
 conv=>whnf
 exact ⟨rfl,rfl⟩
 replace h:=cond_f b58 h
 conv=>whnf
 refine Nf.mk (List.length p_.Next) len_map ?_
 conv=>whnf
 refine Both.mk ?_ ?_<;>intro b59
 obtain ⟨h,b59d⟩:=ctd b59 h
 conv=>whnf
 refine Side.mk rfl ?_
 conv=>whnf
 cases h
 conv=>whnf
 refine Side.mk ⟨rfl,trivial⟩ ?_
 conv=>whnf
 exact ⟨rfl,rfl⟩
 obtain ⟨h,b59d⟩:=cfd b59 h
 conv=>whnf
 refine Side.mk rfl ?_
 conv=>whnf
 refine Nf.mk (List.length p_.Next) len_map ?_
 conv=>whnf
 obtain ⟨⟨y314,y315⟩,hc,hk60⟩:=bind_some h
 clear h
 have h:=hc
 clear hc
 refine Cut.mk (mkSt [(4,.own 99 1 0),(7,.own 100 1 0)] [(99,.box 37 4),(100,.box 37 4),(101,.row 25 1 (List.map (cL cI) y314)),(102,.row 25 1 (List.map (cL cI) y315))] [(99,0,.im (nI 0)),(99,1,.im (nI 0)),(99,2,.im (.val (.slice none 0 0))),(99,3,.im (.val (.slice none 0 0))),(100,0,.im (nI p_.Inputs)),(100,1,.im (nI p_.Start)),(100,2,.osl 101 1),(100,3,.osl 102 1)]) (lZ y314∧lZ y315∧True) ((Holds.kdl 101 rfl).and ((Holds.kdl 102 rfl).and (hT))) ?_ (fun hp=>?_)
 conv=>whnf
 refine Loops.iter (fun (s:List (List Int)×List (List Int)×Nat)=>za1.s20 p_ out_ s.1 s.2.1 s.2.2) (fun (y393,y394,y395)=>mkSt [(1,.im (nI out_)),(2,.im (.ref (zak p_))),(4,.own 99 1 0),(7,.own 100 1 0),(38,.im (nI (↑(List.length p_.Next):Int))),(39,.im (nI (↑y395:Int)))] [(99,.box 37 4),(100,.box 37 4),(101,.row 25 1 (List.map (cL cI) y393)),(102,.row 25 1 (List.map (cL cI) y394))] [(99,0,.im (nI 0)),(99,1,.im (nI 0)),(99,2,.im (.val (.slice none 0 0))),(99,3,.im (.val (.slice none 0 0))),(100,0,.im (nI p_.Inputs)),(100,1,.im (nI p_.Start)),(100,2,.osl 101 1),(100,3,.osl 102 1)]) (fun (y393,y394,y395)=>lZ y393∧lZ y394∧True) h (Ent.mk [(99,some 99),(100,some 7),(101,none),(102,none)] rfl ⟨eI rfl rfl,eI rfl rfl,⟨.own 99 _ 0,rfl,.own rfl rfl rfl⟩,⟨.own 7 _ 0,rfl,.own rfl rfl rfl⟩,eI rfl rfl,eI rfl rfl,trivial⟩ ⟨.inl ⟨99,rfl,rfl,trivial⟩,.inl ⟨7,rfl,rfl,trivial⟩,.inr ⟨rfl,rfl,.inl ⟨_,_,rfl,by decide⟩⟩,.inr ⟨rfl,rfl,.inl ⟨_,_,rfl,by decide⟩⟩,trivial⟩ ⟨⟨99,.im _,rfl,rfl,.im (Sub.rfl' rfl)⟩,⟨99,.im _,rfl,rfl,.im (Sub.rfl' rfl)⟩,⟨99,.im (.val (.slice none 0 0)),rfl,rfl,.im (Sub.rfl' rfl)⟩,⟨99,.im (.val (.slice none 0 0)),rfl,rfl,.im (Sub.rfl' rfl)⟩,⟨7,.im _,rfl,rfl,.im (Sub.rfl' rfl)⟩,⟨7,.im _,rfl,rfl,.im (Sub.rfl' rfl)⟩,⟨7,.im (.val (.slice none 0 0)),rfl,rfl,.made rfl rfl⟩,⟨7,.im (.val (.slice none 0 0)),rfl,rfl,.made rfl rfl⟩,trivial⟩) (by rintro ⟨y393,y394,y395⟩;exact ((Holds.kdl 101 rfl).and ((Holds.kdl 102 rfl).and (hT)))) ?_
 clear h
 rintro k ⟨y393,y394,y395⟩ o hp h ho481
 replace h:za1.s20 p_ out_ y393 y394 y395=some o:=h
 unfold za1.s20 at h
 obtain ⟨z567,z568,_⟩:=hp
 conv=>whnf
 refine Both.mk ?_ ?_<;>intro b482
 obtain ⟨h,b482d⟩:=ctd b482 h
 conv=>whnf
 obtain ⟨c483,h⟩:=chk_some h
 refine Side.mk c483 ?_
 conv=>whnf
 refine Nf.mk (List.map cI (List.replicate (Int.toNat p_.Inputs) (0:Int))) (rep_map (c:=cI) (z:=0) (n:=(Int.toNat p_.Inputs)) rfl rfl) ?_
 conv=>whnf
 obtain ⟨c484,h⟩:=chk_some h
 refine Side.mk c484 ?_
 conv=>whnf
 refine Nf.mk (List.map cI (List.replicate (Int.toNat p_.Inputs) (0:Int))) (rep_map (c:=cI) (z:=0) (n:=(Int.toNat p_.Inputs)) rfl rfl) ?_
 conv=>whnf
 obtain ⟨e485,he485,h⟩:=zab h
 refine ⟨_,⟨(by omega),map_at he485,rfl⟩,?_⟩
 conv=>whnf
 refine Nf.mk (List.length e485) len_map ?_
 conv=>whnf
 obtain ⟨⟨y523,y524⟩,hc,hk486⟩:=bind_some h
 clear h
 have h:=hc
 clear hc
 refine Cut.mk (mkSt [(1,.im (nI out_)),(2,.im (.ref (zak p_))),(4,.own 99 1 0),(7,.own 100 1 0),(9,.osl 103 1),(10,.osl 104 1),(38,.im (nI (↑(List.length p_.Next):Int))),(39,.im (nI (↑y395:Int)))] [(99,.box 37 4),(100,.box 37 4),(101,.row 25 1 (List.map (cL cI) y393)),(102,.row 25 1 (List.map (cL cI) y394)),(103,.row 3 1 (List.map cI y523)),(104,.row 3 1 (List.map cI y524))] [(99,0,.im (nI 0)),(99,1,.im (nI 0)),(99,2,.im (.val (.slice none 0 0))),(99,3,.im (.val (.slice none 0 0))),(100,0,.im (nI p_.Inputs)),(100,1,.im (nI p_.Start)),(100,2,.osl 101 1),(100,3,.osl 102 1)]) (lZ y393∧lZ y394∧lZ y523∧lZ y524∧True) ((Holds.kdl 101 rfl).and ((Holds.kdl 102 rfl).and ((Holds.kdl 103 rfl).and ((Holds.kdl 104 rfl).and (hT))))) ?_ (fun hp=>?_)
 conv=>whnf
 refine Loops.iter (fun (s:List Int×List Int×Nat)=>za1.s18 p_ out_ y395 e485 s.1 s.2.1 s.2.2) (fun (y534,y535,y536)=>mkSt [(1,.im (nI out_)),(2,.im (.ref (zak p_))),(4,.own 99 1 0),(7,.own 100 1 0),(8,.im (nI (↑y395:Int))),(9,.osl 103 1),(10,.osl 104 1),(38,.im (nI (↑(List.length p_.Next):Int))),(39,.im (nI (↑y395:Int))),(52,.im (nL cI e485)),(53,.im (nI (↑(List.length e485):Int))),(54,.im (nI (↑y536:Int)))] [(99,.box 37 4),(100,.box 37 4),(101,.row 25 1 (List.map (cL cI) y393)),(102,.row 25 1 (List.map (cL cI) y394)),(103,.row 3 1 (List.map cI y534)),(104,.row 3 1 (List.map cI y535))] [(99,0,.im (nI 0)),(99,1,.im (nI 0)),(99,2,.im (.val (.slice none 0 0))),(99,3,.im (.val (.slice none 0 0))),(100,0,.im (nI p_.Inputs)),(100,1,.im (nI p_.Start)),(100,2,.osl 101 1),(100,3,.osl 102 1)]) (fun (y534,y535,y536)=>lZ e485∧lZ y393∧lZ y394∧lZ y534∧lZ y535∧True) h (eA [(99,some 99),(100,some 100),(101,some 101),(102,some 102),(103,some 44),(104,some 47)]) (by rintro ⟨y534,y535,y536⟩;exact ((Holds.avl 52 rfl).and ((Holds.kdl 101 rfl).and ((Holds.kdl 102 rfl).and ((Holds.kdl 103 rfl).and ((Holds.kdl 104 rfl).and (hT))))))) ?_
 clear h
 rintro k ⟨y534,y535,y536⟩ o hp h ho546
 replace h:za1.s18 p_ out_ y395 e485 y534 y535 y536=some o:=h
 unfold za1.s18 at h
 obtain ⟨z556,z557,z558,z559,z560,_⟩:=hp
 conv=>whnf
 refine Both.mk ?_ ?_<;>intro b547
 obtain ⟨h,b547d⟩:=ctd b547 h
 conv=>whnf
 obtain ⟨e548,he548,h⟩:=zab h
 refine ⟨_,⟨(by omega),map_at he548,rfl⟩,?_⟩
 conv=>whnf
 obtain ⟨e549,he549,h⟩:=zab h
 refine ⟨_,⟨(by omega),map_at he549,rfl⟩,?_⟩
 conv=>whnf
 obtain ⟨e550,he550,h⟩:=zab h
 refine ⟨_,⟨(by omega),map_at he550,rfl⟩,?_⟩
 conv=>whnf
 obtain ⟨e551,he551,h⟩:=zab h
 refine Side.mk ⟨(by omega),rfl,map_lt he551⟩ ?_
 conv=>whnf
 refine Side.mk ⟨rfl,trivial⟩ ?_
 conv=>whnf
 refine ⟨_,map_at he551,?_⟩
 conv=>whnf
 refine Nf.mk (List.map cI (List.set y534 y536 e548)) (set_map rfl) ?_
 conv=>whnf
 obtain ⟨e552,he552,h⟩:=zab h
 refine Side.mk ⟨(by omega),rfl,map_lt he552⟩ ?_
 conv=>whnf
 refine Side.mk ⟨rfl,trivial⟩ ?_
 conv=>whnf
 refine ⟨_,map_at he552,?_⟩
 conv=>whnf
 refine Nf.mk (List.map cI (List.set y535 y536 e550)) (set_map rfl) ?_
 conv=>whnf
 refine Both.mk ?_ ?_<;>intro b553
 obtain ⟨h,b553d⟩:=ctd b553 h
 conv=>whnf
 obtain ⟨e554,he554,h⟩:=zab h
 refine Side.mk ⟨(by omega),rfl,map_lt he554⟩ ?_
 conv=>whnf
 refine Side.mk ⟨rfl,trivial⟩ ?_
 conv=>whnf
 refine ⟨_,map_at he554,?_⟩
 conv=>whnf
 refine Nf.mk (List.map cI (List.set (List.set y534 y536 e548) y536 (↑y395:Int))) (set_map rfl) ?_
 conv=>whnf
 obtain ⟨e555,he555,h⟩:=zab h
 refine Side.mk ⟨(by omega),rfl,map_lt he555⟩ ?_
 conv=>whnf
 refine Side.mk ⟨rfl,trivial⟩ ?_
 conv=>whnf
 refine ⟨_,map_at he555,?_⟩
 conv=>whnf
 refine Nf.mk (List.map cI (List.set (List.set y535 y536 e550) y536 out_)) (set_map rfl) ?_
 conv=>whnf
 refine Arith.mk (by show inR _;unfold inR;omega) ?_
 conv=>whnf
 cases h
 exact Nxt.mk _ ho546 (eA [(99,some 99),(100,some 100),(101,some 101),(102,some 102),(103,some 103),(104,some 104)])
 obtain ⟨h,b553d⟩:=cfd b553 h
 conv=>whnf
 refine Arith.mk (by show inR _;unfold inR;omega) ?_
 conv=>whnf
 cases h
 exact Nxt.mk _ ho546 (eA [(99,some 99),(100,some 100),(101,some 101),(102,some 102),(103,some 103),(104,some 104)])
 obtain ⟨h,b547d⟩:=cfd b547 h
 conv=>whnf
 cases h
 have ho546:_=_:=ho546
 cases ho546
 exact Join.mk (eA [(99,some 99),(100,some 100),(101,some 101),(102,some 102),(103,some 103),(104,some 104)])
 replace h:za1.k19 y393 y394 y395 y523 y524=some _:=hk486
 unfold za1.k19 at h
 obtain ⟨z561,z562,z563,z564,_⟩:=hp
 conv=>whnf
 refine Side.mk rfl ?_
 conv=>whnf
 refine Side.mk rfl ?_
 conv=>whnf
 refine Side.mk ⟨rfl,trivial⟩ ?_
 conv=>whnf
 obtain ⟨c565,h⟩:=chk_some h
 refine Side.mk ⟨rfl,map_len (l:=[y523]) (c:=cL cI) fun _=>rfl,show capOk _ 24 by simpa only [List.length_map,List.length_cons,List.length_nil,Nat.zero_add] using c565⟩ ?_
 conv=>whnf
 refine Nf.mk (List.map (cL cI) (y393++[y523])) (app_map (l:=y393) (m:=[y523]) (c:=cL cI)) ?_
 conv=>whnf
 refine Side.mk rfl ?_
 conv=>whnf
 refine Side.mk rfl ?_
 conv=>whnf
 refine Side.mk ⟨rfl,trivial⟩ ?_
 conv=>whnf
 obtain ⟨c566,h⟩:=chk_some h
 refine Side.mk ⟨rfl,map_len (l:=[y524]) (c:=cL cI) fun _=>rfl,show capOk _ 24 by simpa only [List.length_map,List.length_cons,List.length_nil,Nat.zero_add] using c566⟩ ?_
 conv=>whnf
 refine Nf.mk (List.map (cL cI) (y394++[y524])) (app_map (l:=y394) (m:=[y524]) (c:=cL cI)) ?_
 conv=>whnf
 refine Side.mk rfl ?_
 conv=>whnf
 refine Side.mk rfl ?_
 conv=>whnf
 refine Side.mk rfl ?_
 conv=>whnf
 refine Side.mk rfl ?_
 conv=>whnf
 refine Arith.mk (by show inR _;unfold inR;omega) ?_
 conv=>whnf
 cases h
 exact Nxt.mk _ ho481 (eA [(99,some 99),(100,some 100),(101,some 101),(102,some 102)])
 obtain ⟨h,b482d⟩:=cfd b482 h
 conv=>whnf
 cases h
 have ho481:_=_:=ho481
 cases ho481
 exact Join.mk (eA [(99,some 99),(100,some 100),(101,some 101),(102,some 102)])
 replace h:za1.k21 p_ y314 y315=some _:=hk60
 unfold za1.k21 at h
 obtain ⟨z569,z570,_⟩:=hp
 conv=>whnf
 refine Side.mk rfl ?_
 conv=>whnf
 refine Side.mk rfl ?_
 conv=>whnf
 cases h
 conv=>whnf
 refine Side.mk ⟨rfl,trivial⟩ ?_
 conv=>whnf
 exact Side.mk ⟨rfl,rfl,trivial⟩ ⟨rfl,rfl⟩
theorem zht (a_:zaa) (b_:zaa) (r:Bool) (h:Ok (.agg (zak a_))→Ok (.agg (zak b_))→R35_Same a_ b_=some r):Sp Tryz.prog 18 [.im (.agg (zak a_)),.im (.agg (zak b_))] (.im (nB r)):=by
 refine sp_of rfl [700002,700003] rfl rfl rfl (Nat.le_of_ble_eq_true rfl) rfl fun hk=>?_
 replace h:=h hk.1 hk.2.1
 have z1:lZ a_.Next:=ok_len (Ok.agg_at hk.1 2 rfl)
 have z2:lZ a_.Out:=ok_len (Ok.agg_at hk.1 3 rfl)
 have z3:lZ b_.Next:=ok_len (Ok.agg_at hk.2.1 2 rfl)
 have z4:lZ b_.Out:=ok_len (Ok.agg_at hk.2.1 3 rfl)
 unfold R35_Same at h
 conv=>whnf
 obtain ⟨y58,hc,hk52⟩:=bind_some h
 clear h
 have h:=hc
 clear hc
 refine Cut.mk (mkSt [(4,.im (nB y58))] [] []) (True) (hT) ?_ (fun hp=>?_)
 conv=>whnf
 refine Both.mk ?_ ?_<;>intro b59
 replace b59:=beq_tt b59
 obtain ⟨h,b59d⟩:=ctd b59 h
 conv=>whnf
 iterate 4 (refine Both.yes (tt_beq b59) ?_;(conv=>whnf))
 refine Both.yes b59 ?_
 conv=>whnf
 refine Both.mk ?_ ?_<;>intro b60
 replace b60:=beq_tt b60
 obtain ⟨h,b60d⟩:=ctd b60 h
 conv=>whnf
 iterate 4 (refine Both.yes (tt_beq b60) ?_;(conv=>whnf))
 obtain ⟨c61,hc61,h⟩:=bind_some h
 refine ⟨_,(zcw a_.Next b_.Next c61 (fun _ _=>hc61)),?_⟩
 conv=>whnf
 refine Both.yes b60 ?_
 conv=>whnf
 refine Both.mk ?_ ?_<;>intro b62
 replace b62:=beq_tt b62
 replace h:=cond_t b62 h
 conv=>whnf
 iterate 4 (refine Both.yes (tt_beq b62) ?_;(conv=>whnf))
 obtain ⟨c63,hc63,h⟩:=bind_some h
 refine ⟨_,(zcw a_.Out b_.Out c63 (fun _ _=>hc63)),?_⟩
 conv=>whnf
 refine Both.yes b62 ?_
 conv=>whnf
 cases h
 exact Join.mk (eA [])
 replace b62:=beq_tf b62
 replace h:=cond_f b62 h
 conv=>whnf
 iterate 4 (refine Both.no (ft_beq b62) ?_;(conv=>whnf))
 refine Both.no b62 ?_
 conv=>whnf
 cases h
 exact Join.mk (eA [])
 replace b60:=beq_tf b60
 obtain ⟨h,b60d⟩:=cfd b60 h
 conv=>whnf
 iterate 4 (refine Both.no (ft_beq b60) ?_;(conv=>whnf))
 refine Both.no b60 ?_
 conv=>whnf
 iterate 6 (refine Both.no rfl ?_;(conv=>whnf))
 cases h
 exact Join.mk (eA [])
 replace b59:=beq_tf b59
 obtain ⟨h,b59d⟩:=cfd b59 h
 conv=>whnf
 iterate 4 (refine Both.no (ft_beq b59) ?_;(conv=>whnf))
 refine Both.no b59 ?_
 conv=>whnf
 iterate 12 (refine Both.no rfl ?_;(conv=>whnf))
 cases h
 exact Join.mk (eA [])
 replace h:=hk52
 conv=>whnf
 cases h
 conv=>whnf
 exact ⟨rfl,rfl⟩
theorem zi6 (r:Bool) (h:ze9=some r):Sp Tryz.prog 8 [] (.im (nB r)):=by
 refine sp_of rfl [] rfl rfl rfl (Nat.le_of_ble_eq_true rfl) rfl fun hk=>?_
 unfold ze9 at h
 conv=>whnf
 refine Side.mk rfl ?_
 conv=>whnf
 refine Side.mk rfl ?_
 conv=>whnf
 obtain ⟨c51,hc51,h⟩:=bind_some h
 refine ⟨_,(zfy (⟨1,[(⟨[0,0],[1,2]⟩:zae)]⟩:zal) c51 (fun _=>hc51)),?_⟩
 conv=>whnf
 refine Side.mk rfl ?_
 conv=>whnf
 refine Side.mk rfl ?_
 conv=>whnf
 obtain ⟨c52,hc52,h⟩:=bind_some h
 refine ⟨_,(zfu c51.1 0 1 c52 (fun _ _ _=>hc52)),?_⟩
 conv=>whnf
 refine Side.mk rfl ?_
 conv=>whnf
 refine Side.mk rfl ?_
 conv=>whnf
 obtain ⟨c53,hc53,h⟩:=bind_some h
 refine ⟨_,(zfu c51.1 0 2 c53 (fun _ _ _=>hc53)),?_⟩
 conv=>whnf
 refine Side.mk rfl ?_
 conv=>whnf
 obtain ⟨c54,hc54,h⟩:=bind_some h
 refine ⟨_,(zg8 (⟨1,[(⟨[0,0,0,0],[1,2,1,2]⟩:zae)]⟩:zal) c54 (fun _=>hc54)),?_⟩
 conv=>whnf
 refine Side.mk rfl ?_
 conv=>whnf
 refine Side.mk rfl ?_
 conv=>whnf
 obtain ⟨c55,hc55,h⟩:=bind_some h
 refine ⟨_,(zeq c54.1 [0,0,0,0,0] c55 (fun _ _=>hc55)),?_⟩
 conv=>whnf
 obtain ⟨c56,hc56,h⟩:=bind_some h
 refine ⟨_,(sp_L35_gate  c56 (hc56)),?_⟩
 conv=>whnf
 obtain ⟨c57,hc57,h⟩:=bind_some h
 refine ⟨_,(zj3 c56 c57 (fun _=>hc57)),?_⟩
 conv=>whnf
 refine Side.mk rfl ?_
 conv=>whnf
 obtain ⟨c58,hc58,h⟩:=bind_some h
 refine ⟨_,(zii c51.1 7 c58 (fun _ _=>hc58)),?_⟩
 conv=>whnf
 refine Side.mk rfl ?_
 conv=>whnf
 refine Side.mk rfl ?_
 conv=>whnf
 obtain ⟨y83,hc,hk60⟩:=bind_some h
 clear h
 have h:=hc
 clear hc
 refine Cut.mk (mkSt [(0,.im (nB y83))] [] []) (True) (hT) ?_ (fun hp=>?_)
 conv=>whnf
 refine Side.mk rfl ?_
 conv=>whnf
 obtain ⟨c84,hc84,h⟩:=bind_some h
 refine ⟨_,(zht c51.1 (⟨1,0,[[1],[2],[(-1:Int)]],[[1],[2],[(-1:Int)]]⟩:zaa) c84 (fun _ _=>hc84)),?_⟩
 conv=>whnf
 refine Both.mk ?_ ?_<;>intro b85
 replace b85:=beq_tt b85
 replace h:=cond_t b85 h
 conv=>whnf
 refine Both.yes (tt_beq b85) ?_
 conv=>whnf
 refine Both.yes b85 ?_
 conv=>whnf
 refine Both.mk ?_ ?_<;>intro b86
 replace b86:=beq_tt b86
 obtain ⟨h,b86d⟩:=ctd b86 h
 conv=>whnf
 refine Both.yes (tt_beq b86) ?_
 conv=>whnf
 refine Both.yes b86 ?_
 conv=>whnf
 refine Both.mk ?_ ?_<;>intro b87
 replace b87:=beq_tt b87
 replace h:=cond_t b87 h
 conv=>whnf
 refine Both.yes (tt_beq b87) ?_
 conv=>whnf
 refine Both.yes b87 ?_
 conv=>whnf
 refine Both.mk ?_ ?_<;>intro b88
 replace b88:=beq_tt b88
 obtain ⟨h,b88d⟩:=ctd b88 h
 conv=>whnf
 refine Side.mk rfl ?_
 conv=>whnf
 refine Both.yes (tt_beq b88) ?_
 conv=>whnf
 refine Side.mk rfl ?_
 conv=>whnf
 refine Both.yes (tt_beq b88) ?_
 conv=>whnf
 obtain ⟨c89,hc89,h⟩:=bind_some h
 refine ⟨_,(zht c53.1 (⟨1,0,[[1],[0]],[[1],[2]]⟩:zaa) c89 (fun _ _=>hc89)),?_⟩
 conv=>whnf
 refine Both.yes b88 ?_
 conv=>whnf
 refine Both.mk ?_ ?_<;>intro b90
 replace b90:=beq_tt b90
 replace h:=cond_t b90 h
 conv=>whnf
 refine Both.yes b90 ?_
 conv=>whnf
 refine Both.mk ?_ ?_<;>intro b91
 replace b91:=beq_tt b91
 replace h:=cond_t b91 h
 conv=>whnf
 refine Both.yes (tt_beq b91) ?_
 conv=>whnf
 refine Both.yes b91 ?_
 conv=>whnf
 refine Both.mk ?_ ?_<;>intro b92
 replace b92:=beq_tt b92
 obtain ⟨h,b92d⟩:=ctd b92 h
 conv=>whnf
 refine Side.mk rfl ?_
 conv=>whnf
 refine Both.yes (tt_beq b92) ?_
 conv=>whnf
 refine Side.mk rfl ?_
 conv=>whnf
 refine Both.yes (tt_beq b92) ?_
 conv=>whnf
 obtain ⟨c93,hc93,h⟩:=bind_some h
 refine ⟨_,(zht c54.1 (⟨1,0,[[1],[0]],[[1],[2]]⟩:zaa) c93 (fun _ _=>hc93)),?_⟩
 conv=>whnf
 refine Both.yes b92 ?_
 conv=>whnf
 refine Both.mk ?_ ?_<;>intro b94
 replace b94:=beq_tt b94
 replace h:=cond_t b94 h
 conv=>whnf
 refine Both.yes (tt_beq b94) ?_
 conv=>whnf
 refine Both.yes b94 ?_
 conv=>whnf
 refine Both.mk ?_ ?_<;>intro b95
 replace b95:=beq_tt b95
 obtain ⟨h,b95d⟩:=ctd b95 h
 conv=>whnf
 iterate 2 (refine Both.yes (tt_beq b95) ?_;(conv=>whnf))
 obtain ⟨c96,hc96,h⟩:=bind_some h
 refine ⟨_,(zef c55.1 [1,2,1,2,1] c96 (fun _ _=>hc96)),?_⟩
 conv=>whnf
 refine Both.yes b95 ?_
 conv=>whnf
 refine Both.mk ?_ ?_<;>intro b97
 replace b97:=beq_tt b97
 replace h:=cond_t b97 h
 conv=>whnf
 refine Both.yes b97 ?_
 conv=>whnf
 refine Both.mk ?_ ?_<;>intro b98
 replace b98:=beq_tt b98
 replace h:=cond_t b98 h
 conv=>whnf
 iterate 5 (refine Both.yes (tt_beq b98) ?_;(conv=>whnf))
 obtain ⟨c99,hc99,h⟩:=bind_some h
 refine ⟨_,(zcw c57.1 [[1,1],[0,0,1],[0,1,1]] c99 (fun _ _=>hc99)),?_⟩
 conv=>whnf
 refine Both.yes b98 ?_
 conv=>whnf
 refine Both.mk ?_ ?_<;>intro b100
 replace b100:=beq_tt b100
 replace h:=cond_t b100 h
 conv=>whnf
 refine Both.yes (tt_beq b100) ?_
 conv=>whnf
 refine Both.yes b100 ?_
 conv=>whnf
 refine Both.mk ?_ ?_<;>intro b101
 replace b101:=beq_tt b101
 obtain ⟨h,b101d⟩:=ctd b101 h
 conv=>whnf
 refine Side.mk rfl ?_
 conv=>whnf
 refine Both.yes (tt_beq b101) ?_
 conv=>whnf
 refine Side.mk rfl ?_
 conv=>whnf
 iterate 5 (refine Both.yes (tt_beq b101) ?_;(conv=>whnf))
 obtain ⟨c102,hc102,h⟩:=bind_some h
 refine ⟨_,(zcw c58.1.Next [[1],[2],[2]] c102 (fun _ _=>hc102)),?_⟩
 conv=>whnf
 refine Both.yes b101 ?_
 conv=>whnf
 refine Both.mk ?_ ?_<;>intro b103
 replace b103:=beq_tt b103
 replace h:=cond_t b103 h
 conv=>whnf
 refine Side.mk rfl ?_
 conv=>whnf
 refine Both.yes (tt_beq b103) ?_
 conv=>whnf
 refine Side.mk rfl ?_
 conv=>whnf
 iterate 5 (refine Both.yes (tt_beq b103) ?_;(conv=>whnf))
 obtain ⟨c104,hc104,h⟩:=bind_some h
 refine ⟨_,(zcw c58.1.Out [[1],[2],[7]] c104 (fun _ _=>hc104)),?_⟩
 conv=>whnf
 refine Both.yes b103 ?_
 conv=>whnf
 refine Both.mk ?_ ?_<;>intro b105
 replace b105:=beq_tt b105
 replace h:=cond_t b105 h
 conv=>whnf
 refine Both.yes (tt_beq b105) ?_
 conv=>whnf
 refine Both.yes b105 ?_
 conv=>whnf
 cases h
 exact Join.mk (eA [])
 replace b105:=beq_tf b105
 replace h:=cond_f b105 h
 conv=>whnf
 refine Both.no (ft_beq b105) ?_
 conv=>whnf
 refine Both.no b105 ?_
 conv=>whnf
 cases h
 exact Join.mk (eA [])
 replace b103:=beq_tf b103
 replace h:=cond_f b103 h
 conv=>whnf
 iterate 6 (refine Both.no (ft_beq b103) ?_;(conv=>whnf))
 refine Both.no b103 ?_
 conv=>whnf
 iterate 3 (refine Both.no rfl ?_;(conv=>whnf))
 cases h
 exact Join.mk (eA [])
 replace b101:=beq_tf b101
 obtain ⟨h,b101d⟩:=cfd b101 h
 conv=>whnf
 iterate 6 (refine Both.no (ft_beq b101) ?_;(conv=>whnf))
 refine Both.no b101 ?_
 conv=>whnf
 iterate 11 (refine Both.no rfl ?_;(conv=>whnf))
 cases h
 exact Join.mk (eA [])
 replace b100:=beq_tf b100
 replace h:=cond_f b100 h
 conv=>whnf
 refine Both.no (ft_beq b100) ?_
 conv=>whnf
 refine Both.no b100 ?_
 conv=>whnf
 iterate 19 (refine Both.no rfl ?_;(conv=>whnf))
 cases h
 exact Join.mk (eA [])
 replace b98:=beq_tf b98
 replace h:=cond_f b98 h
 conv=>whnf
 iterate 5 (refine Both.no (ft_beq b98) ?_;(conv=>whnf))
 refine Both.no b98 ?_
 conv=>whnf
 iterate 22 (refine Both.no rfl ?_;(conv=>whnf))
 cases h
 exact Join.mk (eA [])
 replace b97:=beq_tf b97
 replace h:=cond_f b97 h
 conv=>whnf
 refine Both.no b97 ?_
 conv=>whnf
 iterate 29 (refine Both.no rfl ?_;(conv=>whnf))
 cases h
 exact Join.mk (eA [])
 replace b95:=beq_tf b95
 obtain ⟨h,b95d⟩:=cfd b95 h
 conv=>whnf
 iterate 2 (refine Both.no (ft_beq b95) ?_;(conv=>whnf))
 refine Both.no b95 ?_
 conv=>whnf
 iterate 31 (refine Both.no rfl ?_;(conv=>whnf))
 cases h
 exact Join.mk (eA [])
 replace b94:=beq_tf b94
 replace h:=cond_f b94 h
 conv=>whnf
 refine Both.no (ft_beq b94) ?_
 conv=>whnf
 refine Both.no b94 ?_
 conv=>whnf
 iterate 35 (refine Both.no rfl ?_;(conv=>whnf))
 cases h
 exact Join.mk (eA [])
 replace b92:=beq_tf b92
 obtain ⟨h,b92d⟩:=cfd b92 h
 conv=>whnf
 iterate 2 (refine Both.no (ft_beq b92) ?_;(conv=>whnf))
 refine Both.no b92 ?_
 conv=>whnf
 iterate 38 (refine Both.no rfl ?_;(conv=>whnf))
 cases h
 exact Join.mk (eA [])
 replace b91:=beq_tf b91
 replace h:=cond_f b91 h
 conv=>whnf
 refine Both.no (ft_beq b91) ?_
 conv=>whnf
 refine Both.no b91 ?_
 conv=>whnf
 iterate 42 (refine Both.no rfl ?_;(conv=>whnf))
 cases h
 exact Join.mk (eA [])
 replace b90:=beq_tf b90
 replace h:=cond_f b90 h
 conv=>whnf
 refine Both.no b90 ?_
 conv=>whnf
 iterate 45 (refine Both.no rfl ?_;(conv=>whnf))
 cases h
 exact Join.mk (eA [])
 replace b88:=beq_tf b88
 obtain ⟨h,b88d⟩:=cfd b88 h
 conv=>whnf
 iterate 2 (refine Both.no (ft_beq b88) ?_;(conv=>whnf))
 refine Both.no b88 ?_
 conv=>whnf
 iterate 47 (refine Both.no rfl ?_;(conv=>whnf))
 cases h
 exact Join.mk (eA [])
 replace b87:=beq_tf b87
 replace h:=cond_f b87 h
 conv=>whnf
 refine Both.no (ft_beq b87) ?_
 conv=>whnf
 refine Both.no b87 ?_
 conv=>whnf
 iterate 51 (refine Both.no rfl ?_;(conv=>whnf))
 cases h
 exact Join.mk (eA [])
 replace b86:=beq_tf b86
 obtain ⟨h,b86d⟩:=cfd b86 h
 conv=>whnf
 refine Both.no (ft_beq b86) ?_
 conv=>whnf
 refine Both.no b86 ?_
 conv=>whnf
 iterate 54 (refine Both.no rfl ?_;(conv=>whnf))
 cases h
 exact Join.mk (eA [])
 replace b85:=beq_tf b85
 replace h:=cond_f b85 h
 conv=>whnf
 refine Both.no (ft_beq b85) ?_
 conv=>whnf
 refine Both.no b85 ?_
 conv=>whnf
 iterate 57 (refine Both.no rfl ?_;(conv=>whnf))
 cases h
 exact Join.mk (eA [])
 replace h:=hk60
 conv=>whnf
 cases h
 conv=>whnf
 exact ⟨rfl,rfl⟩
theorem zg5 (o_:zal) (s_:Int) (t_:Int) (r:Bool) (h:Ok (.agg (zaz o_))→Ok (nY s_)→Ok (nY t_)→zba o_ s_ t_=some r):Sp Tryz.prog 5 [.im (.agg (zaz o_)),.im (nY s_),.im (nY t_)] (.im (nB r)):=by
 refine sp_of rfl [700003] rfl rfl rfl (Nat.le_of_ble_eq_true rfl) rfl fun hk=>?_
 replace h:=h hk.1 hk.2.1 hk.2.2.1
 have z1:lZ o_.Traces:=ok_len (Ok.agg_at hk.1 1 rfl)
 unfold zba at h
 conv=>whnf
 obtain ⟨y56,hc,hk52⟩:=bind_some h
 clear h
 have h:=hc
 clear hc
 refine Cut.mk (mkSt [(1,.im (nY s_)),(2,.im (nY t_)),(3,.im (.ref (zaz o_))),(29,.im (nB y56))] [] []) (True) (hT) ?_ (fun hp=>?_)
 conv=>whnf
 obtain ⟨c57,hc57,h⟩:=bind_some h
 refine ⟨_,(sp_R35_Large o_ c57 (fun _=>hc57)),?_⟩
 conv=>whnf
 refine Both.mk ?_ ?_<;>intro b58
 replace b58:=beq_ff b58
 replace h:=cond_f b58 h
 conv=>whnf
 refine Both.yes (ff_beq b58) ?_
 conv=>whnf
 obtain ⟨c59,hc59,h⟩:=bind_some h
 refine ⟨_,(sp_R16_Valid o_ c59 (fun _=>hc59)),?_⟩
 conv=>whnf
 refine Both.yes (ff_beq b58) ?_
 conv=>whnf
 refine Both.no b58 ?_
 conv=>whnf
 cases h
 exact Join.mk (eA [])
 replace b58:=beq_ft b58
 replace h:=cond_t b58 h
 conv=>whnf
 iterate 2 (refine Both.no (tf_beq b58) ?_;(conv=>whnf))
 refine Both.yes b58 ?_
 conv=>whnf
 cases h
 exact Join.mk (eA [])
 replace h:=hk52
 conv=>whnf
 refine Both.mk ?_ ?_<;>intro b60
 replace h:=cond_t b60 h
 conv=>whnf
 obtain ⟨c61,hc61,h⟩:=bind_some h
 refine ⟨_,(zi6  c61 (hc61)),?_⟩
 conv=>whnf
 cases h
 conv=>whnf
 exact ⟨rfl,rfl⟩
 replace h:=cond_f b60 h
 conv=>whnf
 obtain ⟨c62,hc62,h⟩:=bind_some h
 refine ⟨_,(zfy o_ c62 (fun _=>hc62)),?_⟩
 conv=>whnf
 refine Side.mk rfl ?_
 conv=>whnf
 obtain ⟨c63,hc63,h⟩:=bind_some h
 refine ⟨_,(zg8 o_ c63 (fun _=>hc63)),?_⟩
 conv=>whnf
 refine Side.mk rfl ?_
 conv=>whnf
 obtain ⟨y73,hc,hk65⟩:=bind_some h
 clear h
 have h:=hc
 clear hc
 refine Cut.mk (mkSt [(1,.im (nY s_)),(2,.im (nY t_)),(3,.im (.ref (zaz o_))),(7,.own 198 1 0),(9,.own 199 1 0),(71,.im (nB y73))] [(198,.box 24 4),(199,.box 24 4)] [(198,0,.im (nI c62.1.Inputs)),(198,1,.im (nI c62.1.Start)),(198,2,.im (nL (cL cI) c62.1.Next)),(198,3,.im (nL (cL cI) c62.1.Out)),(199,0,.im (nI c63.1.Inputs)),(199,1,.im (nI c63.1.Start)),(199,2,.im (nL (cL cI) c63.1.Next)),(199,3,.im (nL (cL cI) c63.1.Out))]) (lZ c62.1.Next∧lZ c62.1.Out∧lZ c63.1.Next∧lZ c63.1.Out∧True) ((Holds.cel 198 2 rfl (by decide) rfl).and ((Holds.cel 198 3 rfl (by decide) rfl).and ((Holds.cel 199 2 rfl (by decide) rfl).and ((Holds.cel 199 3 rfl (by decide) rfl).and (hT))))) ?_ (fun hp=>?_)
 conv=>whnf
 refine Both.mk ?_ ?_<;>intro b74
 replace b74:=beq_ff b74
 obtain ⟨h,b74d⟩:=cfd b74 h
 conv=>whnf
 refine Both.yes (ff_beq b74) ?_
 conv=>whnf
 refine Both.no b74 ?_
 conv=>whnf
 refine Both.mk ?_ ?_<;>intro b75
 replace b75:=beq_ff b75
 obtain ⟨h,b75d⟩:=cfd b75 h
 conv=>whnf
 refine Side.mk rfl ?_
 conv=>whnf
 refine Both.yes (ff_beq b75) ?_
 conv=>whnf
 obtain ⟨c76,hc76,h⟩:=bind_some h
 refine ⟨_,(zc7 c62.1 c76 (fun _=>hc76)),?_⟩
 conv=>whnf
 refine Both.yes (ff_beq b75) ?_
 conv=>whnf
 refine Both.no b75 ?_
 conv=>whnf
 refine Both.mk ?_ ?_<;>intro b77
 replace b77:=beq_ff b77
 obtain ⟨h,b77d⟩:=cfd b77 h
 conv=>whnf
 refine Side.mk rfl ?_
 conv=>whnf
 refine Both.yes (ff_beq b77) ?_
 conv=>whnf
 obtain ⟨c78,hc78,h⟩:=bind_some h
 refine ⟨_,(zc7 c63.1 c78 (fun _=>hc78)),?_⟩
 conv=>whnf
 refine Both.yes (ff_beq b77) ?_
 conv=>whnf
 refine Both.no b77 ?_
 conv=>whnf
 refine Both.mk ?_ ?_<;>intro b79
 replace b79:=beq_ff b79
 obtain ⟨h,b79d⟩:=cfd b79 h
 conv=>whnf
 refine Side.mk rfl ?_
 conv=>whnf
 refine Both.yes (ff_beq b79) ?_
 conv=>whnf
 refine Side.mk rfl ?_
 conv=>whnf
 refine Both.yes (ff_beq b79) ?_
 conv=>whnf
 refine Nf.mk (List.length c63.1.Next) len_map ?_
 conv=>whnf
 refine Both.yes (ff_beq b79) ?_
 conv=>whnf
 refine Side.mk rfl ?_
 conv=>whnf
 refine Both.yes (ff_beq b79) ?_
 conv=>whnf
 refine Side.mk rfl ?_
 conv=>whnf
 refine Both.yes (ff_beq b79) ?_
 conv=>whnf
 refine Nf.mk (List.length c62.1.Next) len_map ?_
 conv=>whnf
 refine Both.yes (ff_beq b79) ?_
 conv=>whnf
 refine Both.no b79 ?_
 conv=>whnf
 refine Both.mk ?_ ?_<;>intro b80
 replace b80:=beq_ff b80
 obtain ⟨h,b80d⟩:=cfd b80 h
 conv=>whnf
 refine Side.mk rfl ?_
 conv=>whnf
 refine Both.yes (ff_beq b80) ?_
 conv=>whnf
 refine Side.mk rfl ?_
 conv=>whnf
 refine Both.yes (ff_beq b80) ?_
 conv=>whnf
 refine Nf.mk (List.length c62.1.Next) len_map ?_
 conv=>whnf
 refine Both.yes (ff_beq b80) ?_
 conv=>whnf
 refine Both.no b80 ?_
 conv=>whnf
 cases h
 exact Join.mk (eA [(198,some 7),(199,some 9)])
 replace b80:=beq_ft b80
 obtain ⟨h,b80d⟩:=ctd b80 h
 conv=>whnf
 iterate 3 (refine Both.no (tf_beq b80) ?_;(conv=>whnf))
 refine Both.yes b80 ?_
 conv=>whnf
 cases h
 exact Join.mk (eA [(198,some 7),(199,some 9)])
 replace b79:=beq_ft b79
 obtain ⟨h,b79d⟩:=ctd b79 h
 conv=>whnf
 iterate 6 (refine Both.no (tf_beq b79) ?_;(conv=>whnf))
 refine Both.yes b79 ?_
 conv=>whnf
 iterate 4 (refine Both.no rfl ?_;(conv=>whnf))
 refine Both.yes rfl ?_
 conv=>whnf
 cases h
 exact Join.mk (eA [(198,some 7),(199,some 9)])
 replace b77:=beq_ft b77
 obtain ⟨h,b77d⟩:=ctd b77 h
 conv=>whnf
 iterate 2 (refine Both.no (tf_beq b77) ?_;(conv=>whnf))
 refine Both.yes b77 ?_
 conv=>whnf
 iterate 7 (refine Both.no rfl ?_;(conv=>whnf))
 refine Both.yes rfl ?_
 conv=>whnf
 iterate 4 (refine Both.no rfl ?_;(conv=>whnf))
 refine Both.yes rfl ?_
 conv=>whnf
 cases h
 exact Join.mk (eA [(198,some 7),(199,some 9)])
 replace b75:=beq_ft b75
 obtain ⟨h,b75d⟩:=ctd b75 h
 conv=>whnf
 iterate 2 (refine Both.no (tf_beq b75) ?_;(conv=>whnf))
 refine Both.yes b75 ?_
 conv=>whnf
 iterate 3 (refine Both.no rfl ?_;(conv=>whnf))
 refine Both.yes rfl ?_
 conv=>whnf
 iterate 7 (refine Both.no rfl ?_;(conv=>whnf))
 refine Both.yes rfl ?_
 conv=>whnf
 iterate 4 (refine Both.no rfl ?_;(conv=>whnf))
 refine Both.yes rfl ?_
 conv=>whnf
 cases h
 exact Join.mk (eA [(198,some 7),(199,some 9)])
 replace b74:=beq_ft b74
 obtain ⟨h,b74d⟩:=ctd b74 h
 conv=>whnf
 refine Both.no (tf_beq b74) ?_
 conv=>whnf
 refine Both.yes b74 ?_
 conv=>whnf
 iterate 3 (refine Both.no rfl ?_;(conv=>whnf))
 refine Both.yes rfl ?_
 conv=>whnf
 iterate 3 (refine Both.no rfl ?_;(conv=>whnf))
 refine Both.yes rfl ?_
 conv=>whnf
 iterate 7 (refine Both.no rfl ?_;(conv=>whnf))
 refine Both.yes rfl ?_
 conv=>whnf
 iterate 4 (refine Both.no rfl ?_;(conv=>whnf))
 refine Both.yes rfl ?_
 conv=>whnf
 cases h
 exact Join.mk (eA [(198,some 7),(199,some 9)])
 replace h:=hk65
 obtain ⟨z81,z82,z83,z84,_⟩:=hp
 conv=>whnf
 refine Both.mk ?_ ?_<;>intro b85
 replace h:=cond_t b85 h
 conv=>whnf
 cases h
 conv=>whnf
 exact ⟨rfl,rfl⟩
 replace h:=cond_f b85 h
 conv=>whnf
 obtain ⟨c86,h⟩:=chk_some h
 refine Side.mk c86 ?_
 conv=>whnf
 refine Side.mk rfl ?_
 conv=>whnf
 refine Side.mk rfl ?_
 conv=>whnf
 refine Nf.mk (List.length c62.1.Next) len_map ?_
 conv=>whnf
 obtain ⟨c87,h⟩:=chk_some h
 refine Side.mk c87 ?_
 conv=>whnf
 obtain ⟨c88,h⟩:=chk_some h
 refine Side.mk c88 ?_
 conv=>whnf
 refine Side.mk rfl ?_
 conv=>whnf
 refine Side.mk rfl ?_
 conv=>whnf
 refine Nf.mk (List.length c62.1.Next) len_map ?_
 conv=>whnf
 obtain ⟨c89,h⟩:=chk_some h
 refine Side.mk c89 ?_
 conv=>whnf
 refine Side.mk rfl ?_
 conv=>whnf
 obtain ⟨c90,hc90,h⟩:=bind_some h
 refine ⟨_,(zfu c62.1 (s_%(↑(List.length c62.1.Next):Int)) (t_%(↑(List.length c62.1.Next):Int)) c90 (fun _ _ _=>hc90)),?_⟩
 conv=>whnf
 refine Side.mk rfl ?_
 conv=>whnf
 obtain ⟨y96,hc,hk92⟩:=bind_some h
 clear h
 have h:=hc
 clear hc
 refine Cut.mk (mkSt [(3,.im (.ref (zaz o_))),(7,.own 198 1 0),(9,.own 199 1 0),(13,.own 200 1 0),(14,.im (nB c90.2.1)),(110,.im (nB y96))] [(198,.box 24 4),(199,.box 24 4),(200,.box 24 4)] [(198,0,.im (nI c62.1.Inputs)),(198,1,.im (nI c62.1.Start)),(198,2,.im (nL (cL cI) c62.1.Next)),(198,3,.im (nL (cL cI) c62.1.Out)),(199,0,.im (nI c63.1.Inputs)),(199,1,.im (nI c63.1.Start)),(199,2,.im (nL (cL cI) c63.1.Next)),(199,3,.im (nL (cL cI) c63.1.Out)),(200,0,.im (nI c90.1.Inputs)),(200,1,.im (nI c90.1.Start)),(200,2,.im (nL (cL cI) c90.1.Next)),(200,3,.im (nL (cL cI) c90.1.Out))]) (lZ c62.1.Next∧lZ c62.1.Out∧lZ c63.1.Next∧lZ c63.1.Out∧lZ c90.1.Next∧lZ c90.1.Out∧True) ((Holds.cel 198 2 rfl (by decide) rfl).and ((Holds.cel 198 3 rfl (by decide) rfl).and ((Holds.cel 199 2 rfl (by decide) rfl).and ((Holds.cel 199 3 rfl (by decide) rfl).and ((Holds.cel 200 2 rfl (by decide) rfl).and ((Holds.cel 200 3 rfl (by decide) rfl).and (hT))))))) ?_ (fun hp=>?_)
 conv=>whnf
 refine Both.mk ?_ ?_<;>intro b97
 replace b97:=beq_ff b97
 obtain ⟨h,b97d⟩:=cfd b97 h
 conv=>whnf
 refine Both.yes (ff_beq b97) ?_
 conv=>whnf
 refine Both.mk ?_ ?_<;>intro b98
 replace b98:=beq_tt b98
 replace h:=cond_t b98 h
 conv=>whnf
 iterate 2 (refine Both.yes (tt_beq b98) ?_;(conv=>whnf))
 refine Both.yes (ff_beq b97) ?_
 conv=>whnf
 refine Both.yes b98 ?_
 conv=>whnf
 refine Both.yes (ff_beq b97) ?_
 conv=>whnf
 refine Both.mk ?_ ?_<;>intro b99
 replace b99:=beq_tt b99
 obtain ⟨h,b99d⟩:=ctd b99 h
 conv=>whnf
 refine Side.mk rfl ?_
 conv=>whnf
 refine Both.yes (tt_beq b99) ?_
 conv=>whnf
 refine Side.mk rfl ?_
 conv=>whnf
 refine Both.yes (tt_beq b99) ?_
 conv=>whnf
 refine Nf.mk (List.length c90.1.Next) len_map ?_
 conv=>whnf
 refine Both.yes (tt_beq b99) ?_
 conv=>whnf
 refine Side.mk rfl ?_
 conv=>whnf
 refine Both.yes (tt_beq b99) ?_
 conv=>whnf
 refine Side.mk rfl ?_
 conv=>whnf
 refine Both.yes (tt_beq b99) ?_
 conv=>whnf
 refine Nf.mk (List.length c62.1.Next) len_map ?_
 conv=>whnf
 refine Both.yes (tt_beq b99) ?_
 conv=>whnf
 refine Both.yes (ff_beq b97) ?_
 conv=>whnf
 refine Both.yes b99 ?_
 conv=>whnf
 refine Both.no b97 ?_
 conv=>whnf
 cases h
 exact Join.mk (eA [(198,some 198),(199,some 199),(200,some 13)])
 replace b99:=beq_tf b99
 obtain ⟨h,b99d⟩:=cfd b99 h
 conv=>whnf
 iterate 6 (refine Both.no (ft_beq b99) ?_;(conv=>whnf))
 refine Both.yes (ff_beq b97) ?_
 conv=>whnf
 refine Both.no b99 ?_
 conv=>whnf
 refine Both.no b97 ?_
 conv=>whnf
 cases h
 exact Join.mk (eA [(198,some 198),(199,some 199),(200,some 13)])
 replace b98:=beq_tf b98
 replace h:=cond_f b98 h
 conv=>whnf
 iterate 2 (refine Both.no (ft_beq b98) ?_;(conv=>whnf))
 refine Both.yes (ff_beq b97) ?_
 conv=>whnf
 refine Both.no b98 ?_
 conv=>whnf
 refine Both.yes (ff_beq b97) ?_
 conv=>whnf
 iterate 7 (refine Both.no rfl ?_;(conv=>whnf))
 refine Both.yes (ff_beq b97) ?_
 conv=>whnf
 refine Both.no rfl ?_
 conv=>whnf
 refine Both.no b97 ?_
 conv=>whnf
 cases h
 exact Join.mk (eA [(198,some 198),(199,some 199),(200,some 13)])
 replace b97:=beq_ft b97
 obtain ⟨h,b97d⟩:=ctd b97 h
 conv=>whnf
 iterate 4 (refine Both.no (tf_beq b97) ?_;(conv=>whnf))
 refine Both.yes b97 ?_
 conv=>whnf
 cases h
 exact Join.mk (eA [(198,some 198),(199,some 199),(200,some 13)])
 replace h:=hk92
 obtain ⟨z100,z101,z102,z103,z104,z105,_⟩:=hp
 conv=>whnf
 refine Both.mk ?_ ?_<;>intro b106
 replace h:=cond_t b106 h
 conv=>whnf
 cases h
 conv=>whnf
 exact ⟨rfl,rfl⟩
 replace h:=cond_f b106 h
 conv=>whnf
 obtain ⟨oc,hc,hk107⟩:=bind_some h
 clear h
 have h:=hc
 clear hc
 refine Cut.mkS oc (Y:=Unit) (fun (_:Unit)=>mkSt [] [] []) (fun (_:Unit)=>True) (by rintro ⟨⟩;exact (hT)) ?_ ?_
 conv=>whnf
 refine Loops.iter (fun (s:Nat)=>zba.s2 o_ c62 c63 c90 s) (fun j280=>mkSt [(3,.im (.ref (zaz o_))),(7,.own 198 1 0),(9,.own 199 1 0),(13,.own 200 1 0),(14,.im (nB c90.2.1)),(16,.im (nI (↑j280:Int)))] [(198,.box 24 4),(199,.box 24 4),(200,.box 24 4)] [(198,0,.im (nI c62.1.Inputs)),(198,1,.im (nI c62.1.Start)),(198,2,.im (nL (cL cI) c62.1.Next)),(198,3,.im (nL (cL cI) c62.1.Out)),(199,0,.im (nI c63.1.Inputs)),(199,1,.im (nI c63.1.Start)),(199,2,.im (nL (cL cI) c63.1.Next)),(199,3,.im (nL (cL cI) c63.1.Out)),(200,0,.im (nI c90.1.Inputs)),(200,1,.im (nI c90.1.Start)),(200,2,.im (nL (cL cI) c90.1.Next)),(200,3,.im (nL (cL cI) c90.1.Out))]) (fun j280=>lZ c62.1.Next∧lZ c62.1.Out∧lZ c63.1.Next∧lZ c63.1.Out∧lZ c90.1.Next∧lZ c90.1.Out∧True) h (eA [(198,some 198),(199,some 199),(200,some 200)]) (by rintro j280;exact ((Holds.cel 198 2 rfl (by decide) rfl).and ((Holds.cel 198 3 rfl (by decide) rfl).and ((Holds.cel 199 2 rfl (by decide) rfl).and ((Holds.cel 199 3 rfl (by decide) rfl).and ((Holds.cel 200 2 rfl (by decide) rfl).and ((Holds.cel 200 3 rfl (by decide) rfl).and (hT)))))))) ?_
 clear h
 rintro k j280 o hp h ho322
 replace h:zba.s2 o_ c62 c63 c90 j280=some o:=h
 unfold zba.s2 at h
 obtain ⟨z364,z365,z366,z367,z368,z369,_⟩:=hp
 conv=>whnf
 refine Nf.mk (List.length o_.Traces) len_map ?_
 conv=>whnf
 refine Both.mk ?_ ?_<;>intro b323
 obtain ⟨h,b323d⟩:=ctd b323 h
 conv=>whnf
 refine Side.mk rfl ?_
 conv=>whnf
 obtain ⟨e324,he324,h⟩:=zab h
 refine ⟨_,⟨(by omega),map_at he324,rfl⟩,?_⟩
 conv=>whnf
 obtain ⟨c325,hc325,h⟩:=bind_some h
 refine ⟨_,(zeq c62.1 e324.In c325 (fun _ _=>hc325)),?_⟩
 conv=>whnf
 refine Side.mk rfl ?_
 conv=>whnf
 obtain ⟨e326,he326,h⟩:=zab h
 refine ⟨_,⟨(by omega),map_at he326,rfl⟩,?_⟩
 conv=>whnf
 obtain ⟨c327,hc327,h⟩:=bind_some h
 refine ⟨_,(zeq c63.1 e326.In c327 (fun _ _=>hc327)),?_⟩
 conv=>whnf
 refine Side.mk rfl ?_
 conv=>whnf
 obtain ⟨e328,he328,h⟩:=zab h
 refine ⟨_,⟨(by omega),map_at he328,rfl⟩,?_⟩
 conv=>whnf
 obtain ⟨c329,hc329,h⟩:=bind_some h
 refine ⟨_,(zeq c90.1 e328.In c329 (fun _ _=>hc329)),?_⟩
 conv=>whnf
 obtain ⟨y344,hc,hk331⟩:=bind_some h
 clear h
 have h:=hc
 clear hc
 refine Cut.mk (mkSt [(3,.im (.ref (zaz o_))),(7,.own 198 1 0),(9,.own 199 1 0),(13,.own 200 1 0),(14,.im (nB c90.2.1)),(16,.im (nI (↑j280:Int))),(196,.im (nB y344))] [(198,.box 24 4),(199,.box 24 4),(200,.box 24 4)] [(198,0,.im (nI c62.1.Inputs)),(198,1,.im (nI c62.1.Start)),(198,2,.im (nL (cL cI) c62.1.Next)),(198,3,.im (nL (cL cI) c62.1.Out)),(199,0,.im (nI c63.1.Inputs)),(199,1,.im (nI c63.1.Start)),(199,2,.im (nL (cL cI) c63.1.Next)),(199,3,.im (nL (cL cI) c63.1.Out)),(200,0,.im (nI c90.1.Inputs)),(200,1,.im (nI c90.1.Start)),(200,2,.im (nL (cL cI) c90.1.Next)),(200,3,.im (nL (cL cI) c90.1.Out))]) (lZ c62.1.Next∧lZ c62.1.Out∧lZ c63.1.Next∧lZ c63.1.Out∧lZ c90.1.Next∧lZ c90.1.Out∧True) ((Holds.cel 198 2 rfl (by decide) rfl).and ((Holds.cel 198 3 rfl (by decide) rfl).and ((Holds.cel 199 2 rfl (by decide) rfl).and ((Holds.cel 199 3 rfl (by decide) rfl).and ((Holds.cel 200 2 rfl (by decide) rfl).and ((Holds.cel 200 3 rfl (by decide) rfl).and (hT))))))) ?_ (fun hp=>?_)
 conv=>whnf
 refine Both.mk ?_ ?_<;>intro b345
 replace b345:=beq_ff b345
 replace h:=cond_f b345 h
 conv=>whnf
 iterate 4 (refine Both.yes (ff_beq b345) ?_;(conv=>whnf))
 obtain ⟨e346,he346,h⟩:=zab h
 refine ⟨_,⟨(by omega),map_at he346,rfl⟩,?_⟩
 conv=>whnf
 iterate 3 (refine Both.yes (ff_beq b345) ?_;(conv=>whnf))
 obtain ⟨c347,hc347,h⟩:=bind_some h
 refine ⟨_,(zef c325.1 e346.Out c347 (fun _ _=>hc347)),?_⟩
 conv=>whnf
 refine Both.yes (ff_beq b345) ?_
 conv=>whnf
 refine Both.no b345 ?_
 conv=>whnf
 refine Both.mk ?_ ?_<;>intro b348
 replace b348:=beq_ff b348
 replace h:=cond_f b348 h
 conv=>whnf
 refine Both.yes (ff_beq b348) ?_
 conv=>whnf
 refine Both.no b348 ?_
 conv=>whnf
 refine Both.mk ?_ ?_<;>intro b349
 replace b349:=beq_ff b349
 replace h:=cond_f b349 h
 conv=>whnf
 iterate 4 (refine Both.yes (ff_beq b349) ?_;(conv=>whnf))
 obtain ⟨e350,he350,h⟩:=zab h
 refine ⟨_,⟨(by omega),map_at he350,rfl⟩,?_⟩
 conv=>whnf
 iterate 3 (refine Both.yes (ff_beq b349) ?_;(conv=>whnf))
 obtain ⟨c351,hc351,h⟩:=bind_some h
 refine ⟨_,(zef c327.1 e350.Out c351 (fun _ _=>hc351)),?_⟩
 conv=>whnf
 refine Both.yes (ff_beq b349) ?_
 conv=>whnf
 refine Both.no b349 ?_
 conv=>whnf
 refine Both.mk ?_ ?_<;>intro b352
 replace b352:=beq_ff b352
 replace h:=cond_f b352 h
 conv=>whnf
 refine Both.yes (ff_beq b352) ?_
 conv=>whnf
 refine Both.mk ?_ ?_<;>intro b353
 replace b353:=beq_tt b353
 replace h:=cond_t b353 h
 conv=>whnf
 iterate 2 (refine Both.yes (tt_beq b353) ?_;(conv=>whnf))
 refine Both.mk ?_ ?_<;>intro b354
 replace b354:=beq_ff b354
 replace h:=cond_f b354 h
 conv=>whnf
 iterate 4 (refine Both.yes (ff_beq b354) ?_;(conv=>whnf))
 obtain ⟨e355,he355,h⟩:=zab h
 refine ⟨_,⟨(by omega),map_at he355,rfl⟩,?_⟩
 conv=>whnf
 iterate 3 (refine Both.yes (ff_beq b354) ?_;(conv=>whnf))
 obtain ⟨c356,hc356,h⟩:=bind_some h
 refine ⟨_,(zef c329.1 e355.Out c356 (fun _ _=>hc356)),?_⟩
 conv=>whnf
 refine Both.yes (ff_beq b354) ?_
 conv=>whnf
 refine Both.yes (tt_beq b353) ?_
 conv=>whnf
 refine Both.no b354 ?_
 conv=>whnf
 refine Both.yes (ff_beq b352) ?_
 conv=>whnf
 refine Both.yes b353 ?_
 conv=>whnf
 refine Both.no b352 ?_
 conv=>whnf
 cases h
 exact Join.mk (eA [(198,some 198),(199,some 199),(200,some 200)])
 replace b354:=beq_ft b354
 replace h:=cond_t b354 h
 conv=>whnf
 iterate 8 (refine Both.no (tf_beq b354) ?_;(conv=>whnf))
 refine Both.yes (tt_beq b353) ?_
 conv=>whnf
 refine Both.yes b354 ?_
 conv=>whnf
 refine Both.yes (ff_beq b352) ?_
 conv=>whnf
 refine Both.yes b353 ?_
 conv=>whnf
 refine Both.no b352 ?_
 conv=>whnf
 cases h
 exact Join.mk (eA [(198,some 198),(199,some 199),(200,some 200)])
 replace b353:=beq_tf b353
 replace h:=cond_f b353 h
 conv=>whnf
 iterate 3 (refine Both.no (ft_beq b353) ?_;(conv=>whnf))
 refine Both.yes (ff_beq b352) ?_
 conv=>whnf
 refine Both.no b353 ?_
 conv=>whnf
 refine Both.no b352 ?_
 conv=>whnf
 cases h
 exact Join.mk (eA [(198,some 198),(199,some 199),(200,some 200)])
 replace b352:=beq_ft b352
 replace h:=cond_t b352 h
 conv=>whnf
 iterate 2 (refine Both.no (tf_beq b352) ?_;(conv=>whnf))
 refine Both.yes b352 ?_
 conv=>whnf
 cases h
 exact Join.mk (eA [(198,some 198),(199,some 199),(200,some 200)])
 replace b349:=beq_ft b349
 replace h:=cond_t b349 h
 conv=>whnf
 iterate 8 (refine Both.no (tf_beq b349) ?_;(conv=>whnf))
 refine Both.yes b349 ?_
 conv=>whnf
 iterate 3 (refine Both.no rfl ?_;(conv=>whnf))
 refine Both.yes rfl ?_
 conv=>whnf
 cases h
 exact Join.mk (eA [(198,some 198),(199,some 199),(200,some 200)])
 replace b348:=beq_ft b348
 replace h:=cond_t b348 h
 conv=>whnf
 refine Both.no (tf_beq b348) ?_
 conv=>whnf
 refine Both.yes b348 ?_
 conv=>whnf
 iterate 9 (refine Both.no rfl ?_;(conv=>whnf))
 refine Both.yes rfl ?_
 conv=>whnf
 iterate 3 (refine Both.no rfl ?_;(conv=>whnf))
 refine Both.yes rfl ?_
 conv=>whnf
 cases h
 exact Join.mk (eA [(198,some 198),(199,some 199),(200,some 200)])
 replace b345:=beq_ft b345
 replace h:=cond_t b345 h
 conv=>whnf
 iterate 8 (refine Both.no (tf_beq b345) ?_;(conv=>whnf))
 refine Both.yes b345 ?_
 conv=>whnf
 iterate 2 (refine Both.no rfl ?_;(conv=>whnf))
 refine Both.yes rfl ?_
 conv=>whnf
 iterate 9 (refine Both.no rfl ?_;(conv=>whnf))
 refine Both.yes rfl ?_
 conv=>whnf
 iterate 3 (refine Both.no rfl ?_;(conv=>whnf))
 refine Both.yes rfl ?_
 conv=>whnf
 cases h
 exact Join.mk (eA [(198,some 198),(199,some 199),(200,some 200)])
 replace h:=hk331
 obtain ⟨z357,z358,z359,z360,z361,z362,_⟩:=hp
 conv=>whnf
 refine Both.mk ?_ ?_<;>intro b363
 replace h:=cond_t b363 h
 conv=>whnf
 cases h
 have ho322:_=_:=ho322
 cases ho322
 replace h:some _=some _:=hk107
 cases h
 conv=>whnf
 exact ⟨rfl,rfl⟩
 replace h:=cond_f b363 h
 conv=>whnf
 refine Arith.mk (by show inR _;unfold inR;omega) ?_
 conv=>whnf
 cases h
 exact Nxt.mk _ ho322 (eA [(198,some 198),(199,some 199),(200,some 200)])
 obtain ⟨h,b323d⟩:=cfd b323 h
 conv=>whnf
 cases h
 have ho322:_=_:=ho322
 cases ho322
 exact JoinS.mk' _ rfl (eA [])
 rintro ⟨⟩ rfl hp
 replace h:=sum_inl hk107
 conv=>whnf
 obtain ⟨c370,hc370,h⟩:=bind_some h
 refine ⟨_,(zi6  c370 (hc370)),?_⟩
 conv=>whnf
 cases h
 conv=>whnf
 exact ⟨rfl,rfl⟩
end Go.Proofs.YteigfkncoiiaiaaGreatDoor.Sym

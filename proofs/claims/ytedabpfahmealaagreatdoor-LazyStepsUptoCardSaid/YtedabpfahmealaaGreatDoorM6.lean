/-
  The contracts of the functions, read from the code by a program (ext.py): each function has its plain twin as its contract.
-/
import Derived.Test.YtedabpfahmealaaGreatDoorM5
set_option linter.all false
namespace Go.Proofs.YtedabpfahmealaaGreatDoor.Sym
open Go.RowKit
set_option maxRecDepth 100000
set_option linter.unusedVariables false
set_option maxHeartbeats 4000000
theorem zq89 (t_:T_api_Table) (o_:T_api_Obs) (r:T_table_view×Int) (h:Ok (.agg (c_api_Table t_))→Ok (.agg (c_api_Obs o_))→zq106 t_ o_=some r):Sp Tryz.prog 98 [.im (.agg (c_api_Table t_)),.im (.agg (c_api_Obs o_))] (.tup [.agg (c_table_view r.1),nI r.2]):=by
 refine sp_of rfl [51000,82000,700002,700003,900050,900081,1000000000000051201,1000000000000051202,1000000000000082945,1000000000000082946,51201*1000000000+22*100+1] rfl rfl rfl (Nat.le_of_ble_eq_true rfl) rfl fun hk=>?_
 replace h:=h hk.1 hk.2.1
 have z1:lZ t_.Prefixes:=ok_len (Ok.agg_at hk.1 1 rfl)
 have z2:lZ t_.Suffixes:=ok_len (Ok.agg_at hk.1 2 rfl)
 have z3:lZ o_.Traces:=ok_len (Ok.agg_at hk.2.1 1 rfl)
 unfold zq106 at h
 conv=>whnf
 obtain ⟨c51,hc51,h⟩:=bind_some h
 refine ⟨_,(zq80 t_ o_ c51 (fun _ _=>hc51)),?_⟩
 conv=>whnf
 refine Both.mk ?_ ?_<;>intro b52
 obtain ⟨h,b52d⟩:=ctd b52 h
 conv=>whnf
 refine Side.mk rfl ?_
 conv=>whnf
 cases h
 conv=>whnf
 refine Side.mk ⟨rfl,trivial⟩ ?_
 conv=>whnf
 exact ⟨rfl,rfl⟩
 obtain ⟨h,b52d⟩:=cfd b52 h
 conv=>whnf
 obtain ⟨c53,hc53,h⟩:=bind_some h
 refine ⟨_,(zq88 o_ c53 (fun _=>hc53)).im,?_⟩
 conv=>whnf
 refine Side.mk rfl ?_
 conv=>whnf
 refine Nf.mk (List.length t_.Prefixes) len_map ?_
 conv=>whnf
 obtain ⟨oc,hc,hk54⟩:=bind_some h
 clear h
 have h:=hc
 clear hc
 refine Cut.mkS oc (Y:=List (List (List Int))×List Int×(List (ByteArray×Int))) (fun (y81,y82,y83)=>mkSt [(2,.im (.ref (c_api_Table t_))),(4,.own 93 1 0),(7,.im (nL c_api_Trace c53)),(8,.own 94 1 0)] [(93,.box 154 4),(94,.box 154 4),(95,.row 22 1 (List.map (cL (cL cI)) y81)),(96,.row 3 1 (List.map cI y82)),(97,.map (mapV wS wI y83))] [(93,0,.im (.val (.slice none 0 0))),(93,1,.im (.val (.slice none 0 0))),(93,2,.im (.val (.slice none 0 0))),(93,3,.im (.val (.map none))),(94,0,.osl 95 1),(94,1,.osl 96 1),(94,2,.im (.val (.slice none 0 0))),(94,3,.osl 97 1)]) (fun (y81,y82,y83)=>lZ c53∧lZ y81∧lZ y82∧True) (by rintro ⟨y81,y82,y83⟩;exact ((Holds.avl 7 rfl).and ((Holds.kdl 95 rfl).and ((Holds.kdl 96 rfl).and (hT))))) ?_ ?_
 conv=>whnf
 refine Loops.iter (fun (s:List (List (List Int))×List Int×(List (ByteArray×Int))×Nat)=>zq106.s2 t_ c53 s.1 s.2.1 s.2.2.1 s.2.2.2) (fun (y89,y90,y91,y92)=>mkSt [(2,.im (.ref (c_api_Table t_))),(4,.own 93 1 0),(7,.im (nL c_api_Trace c53)),(8,.own 94 1 0),(31,.im (nL (cL cI) t_.Prefixes)),(32,.im (nI (↑(List.length t_.Prefixes):Int))),(33,.im (nI (↑y92:Int)))] [(93,.box 154 4),(94,.box 154 4),(95,.row 22 1 (List.map (cL (cL cI)) y89)),(96,.row 3 1 (List.map cI y90)),(97,.map (mapV wS wI y91))] [(93,0,.im (.val (.slice none 0 0))),(93,1,.im (.val (.slice none 0 0))),(93,2,.im (.val (.slice none 0 0))),(93,3,.im (.val (.map none))),(94,0,.osl 95 1),(94,1,.osl 96 1),(94,2,.im (.val (.slice none 0 0))),(94,3,.osl 97 1)]) (fun (y89,y90,y91,y92)=>lZ c53∧lZ t_.Prefixes∧lZ y89∧lZ y90∧True) h (Ent.mk [(93,some 4),(94,some 8),(95,none),(96,none),(97,some 28)] rfl ⟨eI rfl rfl,⟨.own 4 _ 0,rfl,.own rfl rfl rfl⟩,eI rfl rfl,⟨.own 8 _ 0,rfl,.own rfl rfl rfl⟩,eI rfl rfl,eI rfl rfl,eI rfl rfl,trivial⟩ ⟨.inl ⟨4,rfl,rfl,trivial⟩,.inl ⟨8,rfl,rfl,trivial⟩,.inr ⟨rfl,rfl,.inl ⟨_,_,rfl,by decide⟩⟩,.inr ⟨rfl,rfl,.inl ⟨_,_,rfl,by decide⟩⟩,.inl ⟨28,rfl,rfl,trivial⟩,trivial⟩ ⟨⟨4,.im (.val (.slice none 0 0)),rfl,rfl,.im (Sub.rfl' rfl)⟩,⟨4,.im (.val (.slice none 0 0)),rfl,rfl,.im (Sub.rfl' rfl)⟩,⟨4,.im (.val (.slice none 0 0)),rfl,rfl,.im (Sub.rfl' rfl)⟩,⟨4,.im (.val (.map none)),rfl,rfl,.im (Sub.rfl' rfl)⟩,⟨8,.im (.val (.slice none 0 0)),rfl,rfl,.made rfl rfl⟩,⟨8,.im (.val (.slice none 0 0)),rfl,rfl,.made rfl rfl⟩,⟨8,.im (.val (.slice none 0 0)),rfl,rfl,.im (Sub.rfl' rfl)⟩,⟨8,.osl 28 _,rfl,rfl,.osl rfl rfl rfl⟩,trivial⟩) (by rintro ⟨y89,y90,y91,y92⟩;exact ((Holds.avl 7 rfl).and ((Holds.avl 31 rfl).and ((Holds.kdl 95 rfl).and ((Holds.kdl 96 rfl).and (hT)))))) ?_
 clear h
 rintro k ⟨y89,y90,y91,y92⟩ o hp h ho99
 replace h:zq106.s2 t_ c53 y89 y90 y91 y92=some o:=h
 unfold zq106.s2 at h
 obtain ⟨z106,z107,z108,z109,_⟩:=hp
 conv=>whnf
 refine Both.mk ?_ ?_<;>intro b100
 obtain ⟨h,b100d⟩:=ctd b100 h
 conv=>whnf
 obtain ⟨e101,he101,h⟩:=idxn_some h
 refine ⟨_,⟨(by omega),map_at he101,rfl⟩,?_⟩
 conv=>whnf
 obtain ⟨c102,hc102,h⟩:=bind_some h
 refine ⟨_,(zq43 c53 t_ e101 c102 (fun _ _ _=>hc102)),?_⟩
 conv=>whnf
 refine Both.mk ?_ ?_<;>intro b103
 replace h:=cond_t b103 h
 conv=>whnf
 refine Side.mk rfl ?_
 conv=>whnf
 cases h
 have ho99:_=_:=ho99
 cases ho99
 replace h:some _=some _:=hk54
 cases h
 conv=>whnf
 refine Side.mk ⟨rfl,trivial⟩ ?_
 conv=>whnf
 exact ⟨rfl,rfl⟩
 replace h:=cond_f b103 h
 conv=>whnf
 refine Side.mk rfl ?_
 conv=>whnf
 refine Side.mk rfl ?_
 conv=>whnf
 refine Side.mk ⟨rfl,rfl,rfl,trivial⟩ ?_
 conv=>whnf
 obtain ⟨c104,hc104,h⟩:=bind_some h
 refine ⟨false,[.im (nI c104.1)],[.box 154 [.ow (.row 22 1 (List.map (cL (cL cI)) c104.2.rows)),.im .any,.im .any,.ow (.map (mapV wS wI c104.2.number))]],fun V=>(zq54 (⟨y89,y90,[],y91⟩:T_table_view) c102.1 (V 0 1) (V 0 2) c104 (fun _ _=>hc104)),?_⟩
 conv=>whnf
 obtain ⟨c105,h⟩:=chk_some h
 refine Side.mk ⟨rfl,map_len (l:=[c104.1]) (c:=cI) fun _=>rfl,show capOk _ 8 by simpa only [List.length_map,List.length_cons,List.length_nil,Nat.zero_add] using c105⟩ ?_
 conv=>whnf
 refine Nf.mk (List.map cI (y90++[c104.1])) (app_map (l:=y90) (m:=[c104.1]) (c:=cI)) ?_
 conv=>whnf
 refine Side.mk rfl ?_
 conv=>whnf
 refine Side.mk rfl ?_
 conv=>whnf
 refine Arith.mk (by show inR _;unfold inR;omega) ?_
 conv=>whnf
 cases h
 exact Nxt.mk _ ho99 (eA [(93,some 93),(94,some 94),(95,some 95),(96,some 96),(97,some 97)])
 obtain ⟨h,b100d⟩:=cfd b100 h
 conv=>whnf
 cases h
 have ho99:_=_:=ho99
 cases ho99
 exact JoinS.mk' _ rfl (eA [(93,some 93),(94,some 94),(95,some 95),(96,some 96),(97,some 97)])
 rintro ⟨y81,y82,y83⟩ rfl hp
 have hx_:=sum_inl hk54
 replace h:zq106.k24 t_ c53 y81 y82 y83=some _:=hx_
 clear hx_
 unfold zq106.k24 at h
 obtain ⟨z110,z111,z112,_⟩:=hp
 conv=>whnf
 refine Nf.mk (List.length t_.Prefixes) len_map ?_
 conv=>whnf
 obtain ⟨oc,hc,hk113⟩:=bind_some h
 clear h
 have h:=hc
 clear hc
 refine Cut.mkS oc (Y:=List (List (List Int))×List (List Int)×(List (ByteArray×Int))) (fun (y345,y346,y347)=>mkSt [(4,.own 93 1 0),(8,.own 94 1 0)] [(93,.box 154 4),(94,.box 154 4),(95,.row 22 1 (List.map (cL (cL cI)) y345)),(96,.row 3 1 (List.map cI y82)),(97,.row 51 1 (List.map (cL cI) y346)),(98,.map (mapV wS wI y347))] [(93,0,.im (.val (.slice none 0 0))),(93,1,.im (.val (.slice none 0 0))),(93,2,.im (.val (.slice none 0 0))),(93,3,.im (.val (.map none))),(94,0,.osl 95 1),(94,1,.osl 96 1),(94,2,.osl 97 1),(94,3,.osl 98 1)]) (fun (y345,y346,y347)=>lZ y345∧lZ y82∧lZ y346∧True) (by rintro ⟨y345,y346,y347⟩;exact ((Holds.kdl 95 rfl).and ((Holds.kdl 96 rfl).and ((Holds.kdl 97 rfl).and (hT))))) ?_ ?_
 conv=>whnf
 refine Loops.iter (fun (s:List (List (List Int))×List (List Int)×(List (ByteArray×Int))×Nat)=>zq106.s22 t_ c53 y82 s.1 s.2.1 s.2.2.1 s.2.2.2) (fun (y419,y420,y421,y422)=>mkSt [(2,.im (.ref (c_api_Table t_))),(4,.own 93 1 0),(7,.im (nL c_api_Trace c53)),(8,.own 94 1 0),(56,.im (nL (cL cI) t_.Prefixes)),(57,.im (nI (↑(List.length t_.Prefixes):Int))),(58,.im (nI (↑y422:Int)))] [(93,.box 154 4),(94,.box 154 4),(95,.row 22 1 (List.map (cL (cL cI)) y419)),(96,.row 3 1 (List.map cI y82)),(97,.row 51 1 (List.map (cL cI) y420)),(98,.map (mapV wS wI y421))] [(93,0,.im (.val (.slice none 0 0))),(93,1,.im (.val (.slice none 0 0))),(93,2,.im (.val (.slice none 0 0))),(93,3,.im (.val (.map none))),(94,0,.osl 95 1),(94,1,.osl 96 1),(94,2,.osl 97 1),(94,3,.osl 98 1)]) (fun (y419,y420,y421,y422)=>lZ c53∧lZ t_.Prefixes∧lZ y419∧lZ y82∧lZ y420∧True) h (Ent.mk [(93,some 93),(94,some 94),(95,some 95),(96,some 96),(97,none),(98,some 97)] rfl ⟨eI rfl rfl,⟨.own 93 _ 0,rfl,.own rfl rfl rfl⟩,eI rfl rfl,⟨.own 94 _ 0,rfl,.own rfl rfl rfl⟩,eI rfl rfl,eI rfl rfl,eI rfl rfl,trivial⟩ ⟨.inl ⟨93,rfl,rfl,trivial⟩,.inl ⟨94,rfl,rfl,trivial⟩,.inl ⟨95,rfl,rfl,trivial⟩,.inl ⟨96,rfl,rfl,trivial⟩,.inr ⟨rfl,rfl,.inl ⟨_,_,rfl,by decide⟩⟩,.inl ⟨97,rfl,rfl,trivial⟩,trivial⟩ ⟨⟨93,.im (.val (.slice none 0 0)),rfl,rfl,.im (Sub.rfl' rfl)⟩,⟨93,.im (.val (.slice none 0 0)),rfl,rfl,.im (Sub.rfl' rfl)⟩,⟨93,.im (.val (.slice none 0 0)),rfl,rfl,.im (Sub.rfl' rfl)⟩,⟨93,.im (.val (.map none)),rfl,rfl,.im (Sub.rfl' rfl)⟩,⟨94,.osl 95 _,rfl,rfl,.osl rfl rfl rfl⟩,⟨94,.osl 96 _,rfl,rfl,.osl rfl rfl rfl⟩,⟨94,.im (.val (.slice none 0 0)),rfl,rfl,.made rfl rfl⟩,⟨94,.osl 97 _,rfl,rfl,.osl rfl rfl rfl⟩,trivial⟩) (by rintro ⟨y419,y420,y421,y422⟩;exact ((Holds.avl 7 rfl).and ((Holds.avl 56 rfl).and ((Holds.kdl 95 rfl).and ((Holds.kdl 96 rfl).and ((Holds.kdl 97 rfl).and (hT))))))) ?_
 clear h
 rintro k ⟨y419,y420,y421,y422⟩ o hp h ho498
 replace h:zq106.s22 t_ c53 y82 y419 y420 y421 y422=some o:=h
 unfold zq106.s22 at h
 obtain ⟨z574,z575,z576,z577,z578,_⟩:=hp
 conv=>whnf
 refine Both.mk ?_ ?_<;>intro b499
 obtain ⟨h,b499d⟩:=ctd b499 h
 conv=>whnf
 obtain ⟨e500,he500,h⟩:=idxn_some h
 refine ⟨_,⟨(by omega),map_at he500,rfl⟩,?_⟩
 conv=>whnf
 obtain ⟨oc,hc,hk501⟩:=bind_some h
 clear h
 have h:=hc
 clear hc
 refine Cut.mkS oc (Y:=List (List (List Int))×(List (ByteArray×Int))×List Int) (fun (y533,y534,y535)=>mkSt [(2,.im (.ref (c_api_Table t_))),(4,.own 93 1 0),(7,.im (nL c_api_Trace c53)),(8,.own 94 1 0),(15,.osl 99 1),(56,.im (nL (cL cI) t_.Prefixes)),(57,.im (nI (↑(List.length t_.Prefixes):Int))),(58,.im (nI (↑y422:Int)))] [(93,.box 154 4),(94,.box 154 4),(95,.row 22 1 (List.map (cL (cL cI)) y533)),(96,.row 3 1 (List.map cI y82)),(97,.row 51 1 (List.map (cL cI) y420)),(98,.map (mapV wS wI y534)),(99,.row 3 1 (List.map cI y535))] [(93,0,.im (.val (.slice none 0 0))),(93,1,.im (.val (.slice none 0 0))),(93,2,.im (.val (.slice none 0 0))),(93,3,.im (.val (.map none))),(94,0,.osl 95 1),(94,1,.osl 96 1),(94,2,.osl 97 1),(94,3,.osl 98 1)]) (fun (y533,y534,y535)=>lZ c53∧lZ t_.Prefixes∧lZ y533∧lZ y82∧lZ y420∧lZ y535∧True) (by rintro ⟨y533,y534,y535⟩;exact ((Holds.avl 7 rfl).and ((Holds.avl 56 rfl).and ((Holds.kdl 95 rfl).and ((Holds.kdl 96 rfl).and ((Holds.kdl 97 rfl).and ((Holds.kdl 99 rfl).and (hT)))))))) ?_ ?_
 conv=>whnf
 refine Loops.iter (fun (s:List (List (List Int))×(List (ByteArray×Int))×List Int×Nat)=>zq106.s20 t_ c53 y82 y420 e500 s.1 s.2.1 s.2.2.1 s.2.2.2) (fun (y541,y542,y543,y544)=>mkSt [(2,.im (.ref (c_api_Table t_))),(4,.own 93 1 0),(7,.im (nL c_api_Trace c53)),(8,.own 94 1 0),(14,.im (nL cI e500)),(15,.osl 99 1),(56,.im (nL (cL cI) t_.Prefixes)),(57,.im (nI (↑(List.length t_.Prefixes):Int))),(58,.im (nI (↑y422:Int))),(63,.im (nI t_.Inputs)),(64,.im (nI (↑y544:Int)))] [(93,.box 154 4),(94,.box 154 4),(95,.row 22 1 (List.map (cL (cL cI)) y541)),(96,.row 3 1 (List.map cI y82)),(97,.row 51 1 (List.map (cL cI) y420)),(98,.map (mapV wS wI y542)),(99,.row 3 1 (List.map cI y543))] [(93,0,.im (.val (.slice none 0 0))),(93,1,.im (.val (.slice none 0 0))),(93,2,.im (.val (.slice none 0 0))),(93,3,.im (.val (.map none))),(94,0,.osl 95 1),(94,1,.osl 96 1),(94,2,.osl 97 1),(94,3,.osl 98 1)]) (fun (y541,y542,y543,y544)=>lZ c53∧lZ e500∧lZ t_.Prefixes∧lZ y541∧lZ y82∧lZ y420∧lZ y543∧True) h (eA [(93,some 93),(94,some 94),(95,some 95),(96,some 96),(97,some 97),(98,some 98),(99,none)]) (by rintro ⟨y541,y542,y543,y544⟩;exact ((Holds.avl 7 rfl).and ((Holds.avl 14 rfl).and ((Holds.avl 56 rfl).and ((Holds.kdl 95 rfl).and ((Holds.kdl 96 rfl).and ((Holds.kdl 97 rfl).and ((Holds.kdl 99 rfl).and (hT))))))))) ?_
 clear h
 rintro k ⟨y541,y542,y543,y544⟩ o hp h ho552
 replace h:zq106.s20 t_ c53 y82 y420 e500 y541 y542 y543 y544=some o:=h
 unfold zq106.s20 at h
 obtain ⟨z560,z561,z562,z563,z564,z565,z566,_⟩:=hp
 conv=>whnf
 refine Both.mk ?_ ?_<;>intro b553
 obtain ⟨h,b553d⟩:=ctd b553 h
 conv=>whnf
 obtain ⟨c554,hc554,h⟩:=bind_some h
 refine ⟨_,(zq58 e500 (↑y544:Int) c554 (fun _ _=>hc554)),?_⟩
 conv=>whnf
 obtain ⟨c555,hc555,h⟩:=bind_some h
 refine ⟨_,(zq43 c53 t_ c554 c555 (fun _ _ _=>hc555)),?_⟩
 conv=>whnf
 refine Both.mk ?_ ?_<;>intro b556
 replace h:=cond_t b556 h
 conv=>whnf
 refine Side.mk rfl ?_
 conv=>whnf
 cases h
 have ho552:_=_:=ho552
 cases ho552
 replace h:some _=some _:=hk501
 cases h
 have ho498:_=_:=ho498
 cases ho498
 replace h:some _=some _:=hk113
 cases h
 conv=>whnf
 refine Side.mk ⟨rfl,trivial⟩ ?_
 conv=>whnf
 exact ⟨rfl,rfl⟩
 replace h:=cond_f b556 h
 conv=>whnf
 refine Side.mk ⟨rfl,rfl,rfl,trivial⟩ ?_
 conv=>whnf
 obtain ⟨c557,hc557,h⟩:=bind_some h
 refine ⟨false,[.im (nI c557.1)],[.box 154 [.ow (.row 22 1 (List.map (cL (cL cI)) c557.2.rows)),.im .any,.im .any,.ow (.map (mapV wS wI c557.2.number))]],fun V=>(zq54 (⟨y541,y82,y420,y542⟩:T_table_view) c555.1 (V 0 1) (V 0 2) c557 (fun _ _=>hc557)),?_⟩
 conv=>whnf
 obtain ⟨c558,h⟩:=chk_some h
 refine Side.mk ⟨rfl,map_len (l:=[c557.1]) (c:=cI) fun _=>rfl,show capOk _ 8 by simpa only [List.length_map,List.length_cons,List.length_nil,Nat.zero_add] using c558⟩ ?_
 conv=>whnf
 refine Nf.mk (List.map cI (y543++[c557.1])) (app_map (l:=y543) (m:=[c557.1]) (c:=cI)) ?_
 conv=>whnf
 obtain ⟨c559,h⟩:=chk_some h
 refine Arith.mk c559 ?_
 conv=>whnf
 cases h
 exact Nxt.mk _ ho552 (eA [(93,some 93),(94,some 94),(95,some 95),(96,some 96),(97,some 97),(98,some 98),(99,some 99)])
 obtain ⟨h,b553d⟩:=cfd b553 h
 conv=>whnf
 cases h
 have ho552:_=_:=ho552
 cases ho552
 exact JoinS.mk' _ rfl (eA [(93,some 93),(94,some 94),(95,some 95),(96,some 96),(97,some 97),(98,some 98),(99,some 99)])
 rintro ⟨y533,y534,y535⟩ rfl hp
 have hx_:=sum_inl hk501
 replace h:zq106.k21 y420 y422 y533 y534 y535=some _:=hx_
 clear hx_
 unfold zq106.k21 at h
 obtain ⟨z567,z568,z569,z570,z571,z572,_⟩:=hp
 conv=>whnf
 refine Side.mk rfl ?_
 conv=>whnf
 refine Side.mk rfl ?_
 conv=>whnf
 refine Side.mk ⟨rfl,trivial⟩ ?_
 conv=>whnf
 obtain ⟨c573,h⟩:=chk_some h
 refine Side.mk ⟨rfl,map_len (l:=[y535]) (c:=cL cI) fun _=>rfl,show capOk _ 24 by simpa only [List.length_map,List.length_cons,List.length_nil,Nat.zero_add] using c573⟩ ?_
 conv=>whnf
 refine Nf.mk (List.map (cL cI) (y420++[y535])) (app_map (l:=y420) (m:=[y535]) (c:=cL cI)) ?_
 conv=>whnf
 refine Side.mk rfl ?_
 conv=>whnf
 refine Side.mk rfl ?_
 conv=>whnf
 refine Arith.mk (by show inR _;unfold inR;omega) ?_
 conv=>whnf
 cases h
 exact Nxt.mk _ ho498 (eA [(93,some 93),(94,some 94),(95,some 95),(96,some 96),(97,some 97),(98,some 98)])
 obtain ⟨h,b499d⟩:=cfd b499 h
 conv=>whnf
 cases h
 have ho498:_=_:=ho498
 cases ho498
 exact JoinS.mk' _ rfl (eA [(93,some 93),(94,some 94),(95,some 95),(96,some 96),(97,some 97),(98,some 98)])
 rintro ⟨y345,y346,y347⟩ rfl hp
 have hx_:=sum_inl hk113
 replace h:zq106.k23 y82 y345 y346 y347=some _:=hx_
 clear hx_
 unfold zq106.k23 at h
 obtain ⟨z579,z580,z581,_⟩:=hp
 conv=>whnf
 refine Side.mk rfl ?_
 conv=>whnf
 refine Side.mk rfl ?_
 conv=>whnf
 cases h
 conv=>whnf
 refine Side.mk ⟨rfl,trivial⟩ ?_
 conv=>whnf
 exact Side.mk ⟨rfl,rfl,rfl,rfl,trivial⟩ ⟨rfl,rfl⟩
theorem zq24 (s_:List Int) (v_:Int) (r:Int) (h:Ok (nL cI s_)→Ok (nI v_)→zq33 s_ v_=some r):Sp Tryz.prog 205 [.im (nL cI s_),.im (nI v_)] (.im (nI r)):=by
 refine sp_of rfl [] rfl rfl rfl (Nat.le_of_ble_eq_true rfl) rfl fun hk=>?_
 replace h:=h hk.1 hk.2.1
 have z1:lZ s_:=ok_len hk.1
 unfold zq33 at h
 conv=>whnf
 refine Nf.mk (List.length s_) len_map ?_
 conv=>whnf
 obtain ⟨oc,hc,hk51⟩:=bind_some h
 clear h
 have h:=hc
 clear hc
 refine Cut.mkS oc (Y:=Unit) (fun (_:Unit)=>mkSt [] [] []) (fun (_:Unit)=>True) (by rintro ⟨⟩;exact (hT)) ?_ ?_
 conv=>whnf
 refine Loops.iter (fun (s:Nat)=>zq33.s2 s_ v_ s) (fun y67=>mkSt [(0,.im (nL cI s_)),(1,.im (nI v_)),(7,.im (nI (↑(List.length s_):Int))),(8,.im (nI (↑y67:Int)))] [] []) (fun y67=>lZ s_∧True) h (eA []) (by rintro y67;exact ((Holds.avl 0 rfl).and (hT))) ?_
 clear h
 rintro k y67 o hp h ho71
 replace h:zq33.s2 s_ v_ y67=some o:=h
 unfold zq33.s2 at h
 obtain ⟨z75,_⟩:=hp
 conv=>whnf
 refine Both.mk ?_ ?_<;>intro b72
 obtain ⟨h,b72d⟩:=ctd b72 h
 conv=>whnf
 obtain ⟨e73,he73,h⟩:=idxn_some h
 refine ⟨_,⟨(by omega),map_at he73,rfl⟩,?_⟩
 conv=>whnf
 refine Both.mk ?_ ?_<;>intro b74
 obtain ⟨h,b74d⟩:=ctd b74 h
 conv=>whnf
 cases h
 have ho71:_=_:=ho71
 cases ho71
 replace h:some _=some _:=hk51
 cases h
 conv=>whnf
 exact ⟨rfl,rfl⟩
 obtain ⟨h,b74d⟩:=cfd b74 h
 conv=>whnf
 refine Arith.mk (by show inR _;unfold inR;omega) ?_
 conv=>whnf
 cases h
 exact Nxt.mk _ ho71 (eA [])
 obtain ⟨h,b72d⟩:=cfd b72 h
 conv=>whnf
 cases h
 have ho71:_=_:=ho71
 cases ho71
 exact JoinS.mk' _ rfl (eA [])
 rintro ⟨⟩ rfl hp
 replace h:=sum_inl hk51
 conv=>whnf
 cases h
 conv=>whnf
 exact ⟨rfl,rfl⟩
theorem zq18 (s_:List Int) (v_:Int) (r:Bool) (h:Ok (nL cI s_)→Ok (nI v_)→zq22 s_ v_=some r):Sp Tryz.prog 161 [.im (nL cI s_),.im (nI v_)] (.im (nB r)):=by
 refine sp_of rfl [] rfl rfl rfl (Nat.le_of_ble_eq_true rfl) rfl fun hk=>?_
 replace h:=h hk.1 hk.2.1
 have z1:lZ s_:=ok_len hk.1
 unfold zq22 at h
 conv=>whnf
 obtain ⟨c51,hc51,h⟩:=bind_some h
 refine ⟨_,(zq24 s_ v_ c51 (fun _ _=>hc51)),?_⟩
 conv=>whnf
 cases h
 conv=>whnf
 exact ⟨rfl,rfl⟩
theorem zq29 (v_:T_table_view) (r:Int×Int×Bool) (h:Ok (.agg (c_table_view v_))→zq44 v_=some r):Sp Tryz.prog 99 [.im (.agg (c_table_view v_))] (.tup [nI r.1,nI r.2.1,nB r.2.2]):=by
 refine sp_of rfl [700001] rfl rfl rfl (Nat.le_of_ble_eq_true rfl) rfl fun hk=>?_
 replace h:=h hk.1
 have z1:lZ v_.rows:=ok_len (Ok.agg_at hk.1 0 rfl)
 have z2:lZ v_.prefixes:=ok_len (Ok.agg_at hk.1 1 rfl)
 have z3:lZ v_.next:=ok_len (Ok.agg_at hk.1 2 rfl)
 unfold zq44 at h
 conv=>whnf
 refine Nf.mk (List.length v_.next) len_map ?_
 conv=>whnf
 obtain ⟨oc,hc,hk51⟩:=bind_some h
 clear h
 have h:=hc
 clear hc
 refine Cut.mkS oc (Y:=Unit) (fun (_:Unit)=>mkSt [] [] []) (fun (_:Unit)=>True) (by rintro ⟨⟩;exact (hT)) ?_ ?_
 conv=>whnf
 refine Loops.iter (fun (s:Nat)=>zq44.s14 v_ s) (fun y199=>mkSt [(1,.im (.ref (c_table_view v_))),(10,.im (nL (cL cI) v_.next)),(11,.im (nI (↑(List.length v_.next):Int))),(12,.im (nI (↑y199:Int)))] [] []) (fun y199=>lZ v_.next∧True) h (eA []) (by rintro y199;exact ((Holds.avl 10 rfl).and (hT))) ?_
 clear h
 rintro k y199 o hp h ho236
 replace h:zq44.s14 v_ y199=some o:=h
 unfold zq44.s14 at h
 obtain ⟨z273,_⟩:=hp
 conv=>whnf
 refine Both.mk ?_ ?_<;>intro b237
 obtain ⟨h,b237d⟩:=ctd b237 h
 conv=>whnf
 obtain ⟨e238,he238,h⟩:=idxn_some h
 refine ⟨_,⟨(by omega),map_at he238,rfl⟩,?_⟩
 conv=>whnf
 refine Nf.mk (List.length e238) len_map ?_
 conv=>whnf
 obtain ⟨oc,hc,hk239⟩:=bind_some h
 clear h
 have h:=hc
 clear hc
 refine Cut.mkS oc (Y:=Unit) (fun (_:Unit)=>mkSt [(1,.im (.ref (c_table_view v_))),(10,.im (nL (cL cI) v_.next)),(11,.im (nI (↑(List.length v_.next):Int))),(12,.im (nI (↑y199:Int)))] [] []) (fun (_:Unit)=>lZ v_.next∧True) (by rintro ⟨⟩;exact ((Holds.avl 10 rfl).and (hT))) ?_ ?_
 conv=>whnf
 refine Loops.iter (fun (s:Nat)=>zq44.s13 v_ y199 e238 s) (fun y260=>mkSt [(1,.im (.ref (c_table_view v_))),(5,.im (nI (↑y199:Int))),(10,.im (nL (cL cI) v_.next)),(11,.im (nI (↑(List.length v_.next):Int))),(12,.im (nI (↑y199:Int))),(17,.im (nL cI e238)),(18,.im (nI (↑(List.length e238):Int))),(19,.im (nI (↑y260:Int)))] [] []) (fun y260=>lZ v_.next∧lZ e238∧True) h (eA []) (by rintro y260;exact ((Holds.avl 10 rfl).and ((Holds.avl 17 rfl).and (hT)))) ?_
 clear h
 rintro k y260 o hp h ho265
 replace h:zq44.s13 v_ y199 e238 y260=some o:=h
 unfold zq44.s13 at h
 obtain ⟨z270,z271,_⟩:=hp
 conv=>whnf
 refine Both.mk ?_ ?_<;>intro b266
 obtain ⟨h,b266d⟩:=ctd b266 h
 conv=>whnf
 obtain ⟨e267,he267,h⟩:=idxn_some h
 refine ⟨_,⟨(by omega),map_at he267,rfl⟩,?_⟩
 conv=>whnf
 obtain ⟨c268,hc268,h⟩:=bind_some h
 refine ⟨_,(zq18 v_.prefixes e267 c268 (fun _ _=>hc268)),?_⟩
 conv=>whnf
 refine Both.mk ?_ ?_<;>intro b269
 replace h:=cond_t b269 h
 conv=>whnf
 cases h
 have ho265:_=_:=ho265
 cases ho265
 replace h:some _=some _:=hk239
 cases h
 have ho236:_=_:=ho236
 cases ho236
 replace h:some _=some _:=hk51
 cases h
 conv=>whnf
 exact ⟨rfl,rfl⟩
 replace h:=cond_f b269 h
 conv=>whnf
 refine Arith.mk (by show inR _;unfold inR;omega) ?_
 conv=>whnf
 cases h
 exact Nxt.mk _ ho265 (eA [])
 obtain ⟨h,b266d⟩:=cfd b266 h
 conv=>whnf
 cases h
 have ho265:_=_:=ho265
 cases ho265
 exact JoinS.mk' _ rfl (eA [])
 rintro ⟨⟩ rfl hp
 replace h:=sum_inl hk239
 obtain ⟨z272,_⟩:=hp
 conv=>whnf
 refine Arith.mk (by show inR _;unfold inR;omega) ?_
 conv=>whnf
 cases h
 exact Nxt.mk _ ho236 (eA [])
 obtain ⟨h,b237d⟩:=cfd b237 h
 conv=>whnf
 cases h
 have ho236:_=_:=ho236
 cases ho236
 exact JoinS.mk' _ rfl (eA [])
 rintro ⟨⟩ rfl hp
 replace h:=sum_inl hk51
 conv=>whnf
 cases h
 conv=>whnf
 exact ⟨rfl,rfl⟩
theorem sp_table_Unclosed (t_:T_api_Table) (o_:T_api_Obs) (r:List Int×Bool×Int) (h:Ok (.agg (c_api_Table t_))→Ok (.agg (c_api_Obs o_))→zq79 t_ o_=some r):Sp Tryz.prog 46 [.im (.agg (c_api_Table t_)),.im (.agg (c_api_Obs o_))] (.tup [nL cI r.1,nB r.2.1,nI r.2.2]):=by
 refine sp_of rfl [700002,700003] rfl rfl rfl (Nat.le_of_ble_eq_true rfl) rfl fun hk=>?_
 replace h:=h hk.1 hk.2.1
 have z1:lZ t_.Prefixes:=ok_len (Ok.agg_at hk.1 1 rfl)
 have z2:lZ t_.Suffixes:=ok_len (Ok.agg_at hk.1 2 rfl)
 have z3:lZ o_.Traces:=ok_len (Ok.agg_at hk.2.1 1 rfl)
 unfold zq79 at h
 conv=>whnf
 obtain ⟨c51,hc51,h⟩:=bind_some h
 refine ⟨_,(zq89 t_ o_ c51 (fun _ _=>hc51)),?_⟩
 conv=>whnf
 refine Side.mk rfl ?_
 conv=>whnf
 refine Both.mk ?_ ?_<;>intro b52
 obtain ⟨h,b52d⟩:=ctd b52 h
 conv=>whnf
 cases h
 conv=>whnf
 exact ⟨rfl,rfl⟩
 obtain ⟨h,b52d⟩:=cfd b52 h
 conv=>whnf
 refine Side.mk rfl ?_
 conv=>whnf
 obtain ⟨c53,hc53,h⟩:=bind_some h
 refine ⟨_,(zq29 c51.1 c53 (fun _=>hc53)),?_⟩
 conv=>whnf
 refine Both.mk ?_ ?_<;>intro b54
 replace h:=cond_t b54 h
 conv=>whnf
 cases h
 conv=>whnf
 exact ⟨rfl,rfl⟩
 replace h:=cond_f b54 h
 conv=>whnf
 obtain ⟨e55,he55z,he55,h⟩:=idx_some h
 refine ⟨_,⟨he55z,map_at he55,rfl⟩,?_⟩
 conv=>whnf
 obtain ⟨c56,hc56,h⟩:=bind_some h
 refine ⟨_,(zq58 e55 c53.2.1 c56 (fun _ _=>hc56)),?_⟩
 conv=>whnf
 cases h
 conv=>whnf
 exact ⟨rfl,rfl⟩
theorem zq19 (v_:T_table_view) (r:Int×Int×Bool) (h:Ok (.agg (c_table_view v_))→zq26 v_=some r):Sp Tryz.prog 103 [.im (.agg (c_table_view v_))] (.tup [nI r.1,nI r.2.1,nB r.2.2]):=by
 refine sp_of rfl [700001] rfl rfl rfl (Nat.le_of_ble_eq_true rfl) rfl fun hk=>?_
 replace h:=h hk.1
 have z1:lZ v_.rows:=ok_len (Ok.agg_at hk.1 0 rfl)
 have z2:lZ v_.prefixes:=ok_len (Ok.agg_at hk.1 1 rfl)
 have z3:lZ v_.next:=ok_len (Ok.agg_at hk.1 2 rfl)
 unfold zq26 at h
 conv=>whnf
 refine Nf.mk (List.length v_.prefixes) len_map ?_
 conv=>whnf
 obtain ⟨oc,hc,hk51⟩:=bind_some h
 clear h
 have h:=hc
 clear hc
 refine Cut.mkS oc (Y:=Unit) (fun (_:Unit)=>mkSt [] [] []) (fun (_:Unit)=>True) (by rintro ⟨⟩;exact (hT)) ?_ ?_
 conv=>whnf
 refine Loops.iter (fun (s:Nat)=>zq26.s1022 v_ s) (fun y14999=>mkSt [(1,.im (.ref (c_table_view v_))),(13,.im (nL cI v_.prefixes)),(14,.im (nI (↑(List.length v_.prefixes):Int))),(15,.im (nI (↑y14999:Int)))] [] []) (fun y14999=>lZ v_.prefixes∧True) h (eA []) (by rintro y14999;exact ((Holds.avl 13 rfl).and (hT))) ?_
 clear h
 rintro k y14999 o hp h ho18736
 replace h:zq26.s1022 v_ y14999=some o:=h
 unfold zq26.s1022 at h
 obtain ⟨z22473,_⟩:=hp
 conv=>whnf
 refine Both.mk ?_ ?_<;>intro b18737
 obtain ⟨h,b18737d⟩:=ctd b18737 h
 conv=>whnf
 obtain ⟨e18738,he18738,h⟩:=idxn_some h
 refine ⟨_,⟨(by omega),map_at he18738,rfl⟩,?_⟩
 conv=>whnf
 refine Arith.mk (by show inR _;unfold inR;omega) ?_
 conv=>whnf
 obtain ⟨oc,hc,hk18739⟩:=bind_some h
 clear h
 have h:=hc
 clear hc
 refine Cut.mkS oc (Y:=Unit) (fun (_:Unit)=>mkSt [(1,.im (.ref (c_table_view v_))),(13,.im (nL cI v_.prefixes)),(14,.im (nI (↑(List.length v_.prefixes):Int))),(15,.im (nI (↑y14999:Int)))] [] []) (fun (_:Unit)=>lZ v_.prefixes∧True) (by rintro ⟨⟩;exact ((Holds.avl 13 rfl).and (hT))) ?_ ?_
 conv=>whnf
 refine Loops.iter (fun (s:Nat)=>zq26.s1021 v_ y14999 e18738 s) (fun k21227=>mkSt [(1,.im (.ref (c_table_view v_))),(5,.im (nI (↑y14999:Int))),(6,.im (nI e18738)),(7,.im (nI (↑k21227:Int))),(13,.im (nL cI v_.prefixes)),(14,.im (nI (↑(List.length v_.prefixes):Int))),(15,.im (nI (↑y14999:Int)))] [] []) (fun k21227=>lZ v_.prefixes∧True) h (eA []) (by rintro k21227;exact ((Holds.avl 13 rfl).and (hT))) ?_
 clear h
 rintro k k21227 o hp h ho21849
 replace h:zq26.s1021 v_ y14999 e18738 k21227=some o:=h
 unfold zq26.s1021 at h
 obtain ⟨z22471,_⟩:=hp
 conv=>whnf
 refine Nf.mk (List.length v_.prefixes) len_map ?_
 conv=>whnf
 refine Both.mk ?_ ?_<;>intro b21850
 obtain ⟨h,b21850d⟩:=ctd b21850 h
 conv=>whnf
 obtain ⟨oc,hc,hk21851⟩:=bind_some h
 clear h
 have h:=hc
 clear hc
 refine Cut.mkS oc (Y:=Unit) (fun (_:Unit)=>mkSt [(1,.im (.ref (c_table_view v_))),(5,.im (nI (↑y14999:Int))),(6,.im (nI e18738)),(7,.im (nI (↑k21227:Int))),(13,.im (nL cI v_.prefixes)),(14,.im (nI (↑(List.length v_.prefixes):Int))),(15,.im (nI (↑y14999:Int)))] [] []) (fun (_:Unit)=>lZ v_.prefixes∧True) (by rintro ⟨⟩;exact ((Holds.avl 13 rfl).and (hT))) ?_ ?_
 conv=>whnf
 obtain ⟨e22161,he22161,h⟩:=idxn_some h
 refine ⟨_,⟨(by omega),map_at he22161,rfl⟩,?_⟩
 conv=>whnf
 refine Both.mk ?_ ?_<;>intro b22162
 obtain ⟨h,b22162d⟩:=ctd b22162 h
 conv=>whnf
 cases h
 exact JoinS.mk' _ rfl (eA [])
 obtain ⟨h,b22162d⟩:=cfd b22162 h
 conv=>whnf
 obtain ⟨e22163,he22163,h⟩:=idxn_some h
 refine ⟨_,⟨(by omega),map_at he22163,rfl⟩,?_⟩
 conv=>whnf
 refine Nf.mk (List.length e22163) len_map ?_
 conv=>whnf
 obtain ⟨oc,hc,hk22164⟩:=bind_some h
 clear h
 have h:=hc
 clear hc
 refine Cut.mkS oc (Y:=Unit) (fun (_:Unit)=>mkSt [(1,.im (.ref (c_table_view v_))),(5,.im (nI (↑y14999:Int))),(6,.im (nI e18738)),(7,.im (nI (↑k21227:Int))),(13,.im (nL cI v_.prefixes)),(14,.im (nI (↑(List.length v_.prefixes):Int))),(15,.im (nI (↑y14999:Int)))] [] []) (fun (_:Unit)=>lZ v_.prefixes∧True) (by rintro ⟨⟩;exact ((Holds.avl 13 rfl).and (hT))) ?_ ?_
 conv=>whnf
 refine Loops.iter (fun (s:Nat)=>zq26.s1020 v_ y14999 k21227 e22163 s) (fun y22366=>mkSt [(1,.im (.ref (c_table_view v_))),(5,.im (nI (↑y14999:Int))),(6,.im (nI e18738)),(7,.im (nI (↑k21227:Int))),(13,.im (nL cI v_.prefixes)),(14,.im (nI (↑(List.length v_.prefixes):Int))),(15,.im (nI (↑y14999:Int))),(41,.im (nI (↑(List.length e22163):Int))),(42,.im (nI (↑y22366:Int)))] [] []) (fun y22366=>lZ v_.prefixes∧True) h (eA []) (by rintro y22366;exact ((Holds.avl 13 rfl).and (hT))) ?_
 clear h
 rintro k y22366 o hp h ho22417
 replace h:zq26.s1020 v_ y14999 k21227 e22163 y22366=some o:=h
 unfold zq26.s1020 at h
 obtain ⟨z22468,_⟩:=hp
 conv=>whnf
 refine Both.mk ?_ ?_<;>intro b22418
 obtain ⟨h,b22418d⟩:=ctd b22418 h
 conv=>whnf
 obtain ⟨e22419,he22419,h⟩:=idxn_some h
 refine ⟨_,⟨(by omega),map_at he22419,rfl⟩,?_⟩
 conv=>whnf
 obtain ⟨e22420,he22420,h⟩:=idxn_some h
 refine ⟨_,⟨(by omega),map_at he22420,rfl⟩,?_⟩
 conv=>whnf
 obtain ⟨e22421,he22421z,he22421,h⟩:=idx_some h
 refine ⟨_,⟨he22421z,map_at he22421,rfl⟩,?_⟩
 conv=>whnf
 obtain ⟨e22422,he22422,h⟩:=idxn_some h
 refine ⟨_,⟨(by omega),map_at he22422,rfl⟩,?_⟩
 conv=>whnf
 obtain ⟨e22423,he22423,h⟩:=idxn_some h
 refine ⟨_,⟨(by omega),map_at he22423,rfl⟩,?_⟩
 conv=>whnf
 obtain ⟨e22424,he22424z,he22424,h⟩:=idx_some h
 refine ⟨_,⟨he22424z,map_at he22424,rfl⟩,?_⟩
 conv=>whnf
 refine Nf.mk (List.length e22421) len_map ?_
 conv=>whnf
 obtain ⟨oc,hc,hk22425⟩:=bind_some h
 clear h
 have h:=hc
 clear hc
 refine Cut.mkS oc (Y:=Unit) (fun (_:Unit)=>mkSt [(1,.im (.ref (c_table_view v_))),(5,.im (nI (↑y14999:Int))),(6,.im (nI e18738)),(7,.im (nI (↑k21227:Int))),(13,.im (nL cI v_.prefixes)),(14,.im (nI (↑(List.length v_.prefixes):Int))),(15,.im (nI (↑y14999:Int))),(41,.im (nI (↑(List.length e22163):Int))),(42,.im (nI (↑y22366:Int)))] [] []) (fun (_:Unit)=>lZ v_.prefixes∧True) (by rintro ⟨⟩;exact ((Holds.avl 13 rfl).and (hT))) ?_ ?_
 conv=>whnf
 refine Loops.iter (fun (s:Nat)=>zq26.s1019 y22366 e22421 e22424 s) (fun y22451=>mkSt [(1,.im (.ref (c_table_view v_))),(5,.im (nI (↑y14999:Int))),(6,.im (nI e18738)),(7,.im (nI (↑k21227:Int))),(8,.im (nI (↑y22366:Int))),(9,.im (nL (cL cI) e22421)),(10,.im (nL (cL cI) e22424)),(13,.im (nL cI v_.prefixes)),(14,.im (nI (↑(List.length v_.prefixes):Int))),(15,.im (nI (↑y14999:Int))),(41,.im (nI (↑(List.length e22163):Int))),(42,.im (nI (↑y22366:Int))),(70,.im (nI (↑(List.length e22421):Int))),(71,.im (nI (↑y22451:Int)))] [] []) (fun y22451=>lZ e22421∧lZ e22424∧lZ v_.prefixes∧True) h (eA []) (by rintro y22451;exact ((Holds.avl 9 rfl).and ((Holds.avl 10 rfl).and ((Holds.avl 13 rfl).and (hT))))) ?_
 clear h
 rintro k y22451 o hp h ho22457
 replace h:zq26.s1019 y22366 e22421 e22424 y22451=some o:=h
 unfold zq26.s1019 at h
 obtain ⟨z22463,z22464,z22465,_⟩:=hp
 conv=>whnf
 refine Both.mk ?_ ?_<;>intro b22458
 obtain ⟨h,b22458d⟩:=ctd b22458 h
 conv=>whnf
 obtain ⟨e22459,he22459,h⟩:=idxn_some h
 refine ⟨_,⟨(by omega),map_at he22459,rfl⟩,?_⟩
 conv=>whnf
 obtain ⟨e22460,he22460,h⟩:=idxn_some h
 refine ⟨_,⟨(by omega),map_at he22460,rfl⟩,?_⟩
 conv=>whnf
 obtain ⟨c22461,hc22461,h⟩:=bind_some h
 refine ⟨_,(zq23 e22459 e22460 c22461 (fun _ _=>hc22461)),?_⟩
 conv=>whnf
 refine Both.mk ?_ ?_<;>intro b22462
 replace h:=cond_t b22462 h
 conv=>whnf
 cases h
 have ho22457:_=_:=ho22457
 cases ho22457
 replace h:some _=some _:=hk22425
 cases h
 have ho22417:_=_:=ho22417
 cases ho22417
 replace h:some _=some _:=hk22164
 cases h
 replace h:some _=some _:=hk21851
 cases h
 have ho21849:_=_:=ho21849
 cases ho21849
 replace h:some _=some _:=hk18739
 cases h
 have ho18736:_=_:=ho18736
 cases ho18736
 replace h:some _=some _:=hk51
 cases h
 conv=>whnf
 exact ⟨rfl,rfl⟩
 replace h:=cond_f b22462 h
 conv=>whnf
 refine Arith.mk (by show inR _;unfold inR;omega) ?_
 conv=>whnf
 cases h
 exact Nxt.mk _ ho22457 (eA [])
 obtain ⟨h,b22458d⟩:=cfd b22458 h
 conv=>whnf
 cases h
 have ho22457:_=_:=ho22457
 cases ho22457
 exact JoinS.mk' _ rfl (eA [])
 rintro ⟨⟩ rfl hp
 replace h:=sum_inl hk22425
 obtain ⟨z22466,_⟩:=hp
 conv=>whnf
 obtain ⟨c22467,h⟩:=chk_some h
 refine Arith.mk c22467 ?_
 conv=>whnf
 cases h
 exact Nxt.mk _ ho22417 (eA [])
 obtain ⟨h,b22418d⟩:=cfd b22418 h
 conv=>whnf
 cases h
 have ho22417:_=_:=ho22417
 cases ho22417
 exact JoinS.mk' _ rfl (eA [])
 rintro ⟨⟩ rfl hp
 replace h:=sum_inl hk22164
 obtain ⟨z22469,_⟩:=hp
 conv=>whnf
 cases h
 exact JoinS.mk' _ rfl (eA [])
 rintro ⟨⟩ rfl hp
 replace h:=sum_inl hk21851
 obtain ⟨z22470,_⟩:=hp
 conv=>whnf
 refine Arith.mk (by show inR _;unfold inR;omega) ?_
 conv=>whnf
 cases h
 exact Nxt.mk _ ho21849 (eA [])
 obtain ⟨h,b21850d⟩:=cfd b21850 h
 conv=>whnf
 cases h
 have ho21849:_=_:=ho21849
 cases ho21849
 exact JoinS.mk' _ rfl (eA [])
 rintro ⟨⟩ rfl hp
 replace h:=sum_inl hk18739
 obtain ⟨z22472,_⟩:=hp
 conv=>whnf
 refine Arith.mk (by show inR _;unfold inR;omega) ?_
 conv=>whnf
 cases h
 exact Nxt.mk _ ho18736 (eA [])
 obtain ⟨h,b18737d⟩:=cfd b18737 h
 conv=>whnf
 cases h
 have ho18736:_=_:=ho18736
 cases ho18736
 exact JoinS.mk' _ rfl (eA [])
 rintro ⟨⟩ rfl hp
 replace h:=sum_inl hk51
 conv=>whnf
 cases h
 conv=>whnf
 exact ⟨rfl,rfl⟩
theorem zq34 (t_:T_api_Table) (o_:T_api_Obs) (r:List Int×Bool×Int) (h:Ok (.agg (c_api_Table t_))→Ok (.agg (c_api_Obs o_))→zq51 t_ o_=some r):Sp Tryz.prog 48 [.im (.agg (c_api_Table t_)),.im (.agg (c_api_Obs o_))] (.tup [nL cI r.1,nB r.2.1,nI r.2.2]):=by
 refine sp_of rfl [700002,700003] rfl rfl rfl (Nat.le_of_ble_eq_true rfl) rfl fun hk=>?_
 replace h:=h hk.1 hk.2.1
 have z1:lZ t_.Prefixes:=ok_len (Ok.agg_at hk.1 1 rfl)
 have z2:lZ t_.Suffixes:=ok_len (Ok.agg_at hk.1 2 rfl)
 have z3:lZ o_.Traces:=ok_len (Ok.agg_at hk.2.1 1 rfl)
 unfold zq51 at h
 conv=>whnf
 obtain ⟨c51,hc51,h⟩:=bind_some h
 refine ⟨_,(zq89 t_ o_ c51 (fun _ _=>hc51)),?_⟩
 conv=>whnf
 refine Side.mk rfl ?_
 conv=>whnf
 refine Both.mk ?_ ?_<;>intro b52
 obtain ⟨h,b52d⟩:=ctd b52 h
 conv=>whnf
 cases h
 conv=>whnf
 exact ⟨rfl,rfl⟩
 obtain ⟨h,b52d⟩:=cfd b52 h
 conv=>whnf
 refine Side.mk rfl ?_
 conv=>whnf
 obtain ⟨c53,hc53,h⟩:=bind_some h
 refine ⟨_,(zq19 c51.1 c53 (fun _=>hc53)),?_⟩
 conv=>whnf
 refine Both.mk ?_ ?_<;>intro b54
 replace h:=cond_t b54 h
 conv=>whnf
 cases h
 conv=>whnf
 exact ⟨rfl,rfl⟩
 replace h:=cond_f b54 h
 conv=>whnf
 obtain ⟨e55,he55z,he55,h⟩:=idx_some h
 refine ⟨_,⟨he55z,map_at he55,rfl⟩,?_⟩
 conv=>whnf
 obtain ⟨c56,hc56,h⟩:=bind_some h
 refine ⟨_,(sp_word_Join [[c53.1],e55] c56 (fun _=>hc56)),?_⟩
 conv=>whnf
 cases h
 conv=>whnf
 exact ⟨rfl,rfl⟩
theorem sp_lazy_copied (l_:List (List Int)) (r:List (List Int)) (h:Ok (nL (cL cI) l_)→zq103 l_=some r):Sp Tryz.prog 106 [.im (nL (cL cI) l_)] (.row 51 1 (List.map (cL cI) r)):=by
 refine sp_of rfl [] rfl rfl rfl (Nat.le_of_ble_eq_true rfl) rfl fun hk=>?_
 replace h:=h hk.1
 have z1:lZ l_:=ok_len hk.1
 unfold zq103 at h
 conv=>whnf
 refine Nf.mk (List.length l_) len_map ?_
 conv=>whnf
 obtain ⟨y68,hc,hk51⟩:=bind_some h
 clear h
 have h:=hc
 clear hc
 refine Cut.mk (mkSt [(3,.osl 64 1)] [(64,.row 51 1 (List.map (cL cI) y68))] []) (lZ y68∧True) ((Holds.kdl 64 rfl).and (hT)) ?_ (fun hp=>?_)
 conv=>whnf
 refine Loops.iter (fun (s:List (List Int)×Nat)=>zq103.s2 l_ s.1 s.2) (fun (y72,y73)=>mkSt [(3,.osl 64 1),(6,.im (nL (cL cI) l_)),(7,.im (nI (↑(List.length l_):Int))),(8,.im (nI (↑y73:Int)))] [(64,.row 51 1 (List.map (cL cI) y72))] []) (fun (y72,y73)=>lZ l_∧lZ y72∧True) h (eA [(64,none)]) (by rintro ⟨y72,y73⟩;exact ((Holds.avl 6 rfl).and ((Holds.kdl 64 rfl).and (hT)))) ?_
 clear h
 rintro k ⟨y72,y73⟩ o hp h ho78
 replace h:zq103.s2 l_ y72 y73=some o:=h
 unfold zq103.s2 at h
 obtain ⟨z83,z84,_⟩:=hp
 conv=>whnf
 refine Both.mk ?_ ?_<;>intro b79
 obtain ⟨h,b79d⟩:=ctd b79 h
 conv=>whnf
 obtain ⟨e80,he80,h⟩:=idxn_some h
 refine ⟨_,⟨(by omega),map_at he80,rfl⟩,?_⟩
 conv=>whnf
 obtain ⟨c81,hc81,h⟩:=bind_some h
 refine ⟨_,(sp_lib_Clone_int e80 c81 (hc81)).im,?_⟩
 conv=>whnf
 obtain ⟨c82,h⟩:=chk_some h
 refine Side.mk ⟨rfl,map_len (l:=[c81]) (c:=cL cI) fun _=>rfl,show capOk _ 24 by simpa only [List.length_map,List.length_cons,List.length_nil,Nat.zero_add] using c82⟩ ?_
 conv=>whnf
 refine Nf.mk (List.map (cL cI) (y72++[c81])) (app_map (l:=y72) (m:=[c81]) (c:=cL cI)) ?_
 conv=>whnf
 refine Arith.mk (by show inR _;unfold inR;omega) ?_
 conv=>whnf
 cases h
 exact Nxt.mk _ ho78 (eA [(64,some 64)])
 obtain ⟨h,b79d⟩:=cfd b79 h
 conv=>whnf
 cases h
 have ho78:_=_:=ho78
 cases ho78
 exact Join.mk (eA [(64,some 64)])
 replace h:=hk51
 obtain ⟨z85,_⟩:=hp
 conv=>whnf
 cases h
 conv=>whnf
 exact Side.mk ⟨rfl,trivial⟩ ⟨rfl,rfl⟩
theorem sp_lazy_fresh (l_:T_api_Lazy) (r:T_api_Lazy) (h:Ok (.agg (c_api_Lazy l_))→zq109 l_=some r):Sp Tryz.prog 50 [.im (.agg (c_api_Lazy l_))] (.im (.agg (c_api_Lazy r))):=by
 refine sp_of rfl [700001] rfl rfl rfl (Nat.le_of_ble_eq_true rfl) rfl fun hk=>?_
 replace h:=h hk.1
 have z1:lZ l_.Short:=ok_len (Ok.agg_at hk.1 1 rfl)
 have z2:lZ l_.Suffixes:=ok_len (Ok.agg_at hk.1 2 rfl)
 unfold zq109 at h
 conv=>whnf
 obtain ⟨c51,hc51,h⟩:=bind_some h
 refine ⟨_,(sp_lazy_copied l_.Short c51 (fun _=>hc51)).im,?_⟩
 conv=>whnf
 obtain ⟨c52,hc52,h⟩:=bind_some h
 refine ⟨_,(sp_lazy_copied l_.Suffixes c52 (fun _=>hc52)).im,?_⟩
 conv=>whnf
 refine Side.mk rfl ?_
 conv=>whnf
 cases h
 conv=>whnf
 refine Side.mk ⟨rfl,trivial⟩ ?_
 conv=>whnf
 exact ⟨rfl,rfl⟩
theorem sp_lazy_Step (l_:T_api_Lazy) (o_:T_api_Obs) (r:T_api_Lazy×List (List Int)×Bool×Int) (h:Ok (.agg (c_api_Lazy l_))→Ok (.agg (c_api_Obs o_))→zq113 l_ o_=some r):Sp Tryz.prog 14 [.im (.agg (c_api_Lazy l_)),.im (.agg (c_api_Obs o_))] (.tup [.agg (c_api_Lazy r.1),nL (cL cI) r.2.1,nB r.2.2.1,nI r.2.2.2]):=by
 refine sp_of rfl [700002,700003] rfl rfl rfl (Nat.le_of_ble_eq_true rfl) rfl fun hk=>?_
 replace h:=h hk.1 hk.2.1
 have z1:lZ l_.Short:=ok_len (Ok.agg_at hk.1 1 rfl)
 have z2:lZ l_.Suffixes:=ok_len (Ok.agg_at hk.1 2 rfl)
 have z3:lZ o_.Traces:=ok_len (Ok.agg_at hk.2.1 1 rfl)
 unfold zq113 at h
 conv=>whnf
 obtain ⟨c51,hc51,h⟩:=bind_some h
 refine ⟨_,(zq90 l_ o_ c51 (fun _ _=>hc51)),?_⟩
 conv=>whnf
 refine Both.mk ?_ ?_<;>intro b52
 obtain ⟨h,b52d⟩:=ctd b52 h
 conv=>whnf
 refine Side.mk rfl ?_
 conv=>whnf
 cases h
 conv=>whnf
 refine Side.mk ⟨rfl,trivial⟩ ?_
 conv=>whnf
 exact ⟨rfl,rfl⟩
 obtain ⟨h,b52d⟩:=cfd b52 h
 conv=>whnf
 obtain ⟨c53,hc53,h⟩:=bind_some h
 refine ⟨_,(zq84 l_ c53 (fun _=>hc53)),?_⟩
 conv=>whnf
 refine Side.mk rfl ?_
 conv=>whnf
 refine Side.mk rfl ?_
 conv=>whnf
 obtain ⟨c54,hc54,h⟩:=bind_some h
 refine ⟨_,(sp_table_Needed c53 o_ c54 (fun _ _=>hc54)),?_⟩
 conv=>whnf
 obtain ⟨y58,hc,hk56⟩:=bind_some h
 clear h
 have h:=hc
 clear hc
 refine Cut.mk (mkSt [(2,.im (.ref (c_api_Lazy l_))),(3,.im (.ref (c_api_Obs o_))),(4,.own 90 1 0),(9,.own 91 1 0),(10,.im (nL (cL cI) c54.1)),(11,.im (nI c54.2)),(41,.im (nB y58))] [(90,.box 24 3),(91,.box 78 3)] [(90,0,.im (nI 0)),(90,1,.im (.val (.slice none 0 0))),(90,2,.im (.val (.slice none 0 0))),(91,0,.im (nI c53.Inputs)),(91,1,.im (nL (cL cI) c53.Prefixes)),(91,2,.im (nL (cL cI) c53.Suffixes))]) (lZ c54.1∧lZ c53.Prefixes∧lZ c53.Suffixes∧True) ((Holds.avl 10 rfl).and ((Holds.cel 91 1 rfl (by decide) rfl).and ((Holds.cel 91 2 rfl (by decide) rfl).and (hT)))) ?_ (fun hp=>?_)
 conv=>whnf
 refine Both.mk ?_ ?_<;>intro b59
 replace b59:=beq_ff b59
 obtain ⟨h,b59d⟩:=cfd b59 h
 conv=>whnf
 refine Both.yes (ff_beq b59) ?_
 conv=>whnf
 refine Nf.mk (List.length c54.1) len_map ?_
 conv=>whnf
 refine Both.yes (ff_beq b59) ?_
 conv=>whnf
 refine Both.no b59 ?_
 conv=>whnf
 cases h
 exact Join.mk (eA [(90,some 4),(91,some 9)])
 replace b59:=beq_ft b59
 obtain ⟨h,b59d⟩:=ctd b59 h
 conv=>whnf
 iterate 2 (refine Both.no (tf_beq b59) ?_;(conv=>whnf))
 refine Both.yes b59 ?_
 conv=>whnf
 cases h
 exact Join.mk (eA [(90,some 4),(91,some 9)])
 replace h:=hk56
 obtain ⟨z60,z61,z62,_⟩:=hp
 conv=>whnf
 refine Both.mk ?_ ?_<;>intro b63
 replace h:=cond_t b63 h
 conv=>whnf
 refine Side.mk rfl ?_
 conv=>whnf
 cases h
 conv=>whnf
 refine Side.mk ⟨rfl,trivial⟩ ?_
 conv=>whnf
 exact ⟨rfl,rfl⟩
 replace h:=cond_f b63 h
 conv=>whnf
 refine Side.mk rfl ?_
 conv=>whnf
 obtain ⟨oc,hc,hk65⟩:=bind_some h
 clear h
 have h:=hc
 clear hc
 refine Cut.mkS oc (Y:=List (List Int)×List (List Int)) (fun (y74,y75)=>mkSt [(2,.im (.ref (c_api_Lazy l_))),(4,.own 90 1 0),(12,.own 91 1 0)] [(90,.box 24 3),(91,.box 24 3)] [(90,0,.im (nI 0)),(90,1,.im (.val (.slice none 0 0))),(90,2,.im (.val (.slice none 0 0))),(91,0,.im (nI l_.Inputs)),(91,1,.im (nL (cL cI) y74)),(91,2,.im (nL (cL cI) y75))]) (fun (y74,y75)=>lZ y74∧lZ y75∧True) (by rintro ⟨y74,y75⟩;exact ((Holds.cel 91 1 rfl (by decide) rfl).and ((Holds.cel 91 2 rfl (by decide) rfl).and (hT)))) ?_ ?_
 conv=>whnf
 refine Side.mk rfl ?_
 conv=>whnf
 obtain ⟨c76,hc76,h⟩:=bind_some h
 refine ⟨_,(sp_table_Unclosed c53 o_ c76 (fun _ _=>hc76)),?_⟩
 conv=>whnf
 refine Both.mk ?_ ?_<;>intro b77
 obtain ⟨h,b77d⟩:=ctd b77 h
 conv=>whnf
 refine Side.mk rfl ?_
 conv=>whnf
 cases h
 replace h:some _=some _:=hk65
 cases h
 conv=>whnf
 refine Side.mk ⟨rfl,trivial⟩ ?_
 conv=>whnf
 exact ⟨rfl,rfl⟩
 obtain ⟨h,b77d⟩:=cfd b77 h
 conv=>whnf
 refine Both.mk ?_ ?_<;>intro b78
 replace h:=cond_t b78 h
 conv=>whnf
 obtain ⟨c79,hc79,h⟩:=bind_some h
 refine ⟨_,(zq97 l_.Short c76.1 c79 (fun _ _=>hc79)),?_⟩
 conv=>whnf
 refine Side.mk rfl ?_
 conv=>whnf
 refine Side.mk rfl ?_
 conv=>whnf
 cases h
 exact JoinS.mk' _ rfl (eA [(90,some 90),(91,some 12)])
 replace h:=cond_f b78 h
 conv=>whnf
 refine Side.mk rfl ?_
 conv=>whnf
 obtain ⟨c80,hc80,h⟩:=bind_some h
 refine ⟨_,(zq34 c53 o_ c80 (fun _ _=>hc80)),?_⟩
 conv=>whnf
 refine Both.mk ?_ ?_<;>intro b81
 obtain ⟨h,b81d⟩:=ctd b81 h
 conv=>whnf
 refine Side.mk rfl ?_
 conv=>whnf
 cases h
 replace h:some _=some _:=hk65
 cases h
 conv=>whnf
 refine Side.mk ⟨rfl,trivial⟩ ?_
 conv=>whnf
 exact ⟨rfl,rfl⟩
 obtain ⟨h,b81d⟩:=cfd b81 h
 conv=>whnf
 refine Both.mk ?_ ?_<;>intro b82
 replace h:=cond_t b82 h
 conv=>whnf
 refine Side.mk rfl ?_
 conv=>whnf
 cases h
 replace h:some _=some _:=hk65
 cases h
 conv=>whnf
 refine Side.mk ⟨rfl,trivial⟩ ?_
 conv=>whnf
 exact ⟨rfl,rfl⟩
 replace h:=cond_f b82 h
 conv=>whnf
 obtain ⟨c83,hc83,h⟩:=bind_some h
 refine ⟨_,(zq97 l_.Suffixes c80.1 c83 (fun _ _=>hc83)),?_⟩
 conv=>whnf
 refine Side.mk rfl ?_
 conv=>whnf
 refine Side.mk rfl ?_
 conv=>whnf
 cases h
 exact JoinS.mk' _ rfl (eA [(90,some 90),(91,some 12)])
 rintro ⟨y74,y75⟩ rfl hp
 have hx_:=sum_inl hk65
 replace h:zq113.k1 l_ y74 y75=some _:=hx_
 clear hx_
 unfold zq113.k1 at h
 obtain ⟨z84,z85,_⟩:=hp
 conv=>whnf
 refine Side.mk rfl ?_
 conv=>whnf
 obtain ⟨c86,hc86,h⟩:=bind_some h
 refine ⟨_,(zq87 (⟨l_.Inputs,y74,y75⟩:T_api_Lazy) c86 (fun _=>hc86)),?_⟩
 conv=>whnf
 refine Both.mk ?_ ?_<;>intro b87
 obtain ⟨h,b87d⟩:=ctd b87 h
 conv=>whnf
 refine Side.mk rfl ?_
 conv=>whnf
 cases h
 conv=>whnf
 refine Side.mk ⟨rfl,trivial⟩ ?_
 conv=>whnf
 exact ⟨rfl,rfl⟩
 obtain ⟨h,b87d⟩:=cfd b87 h
 conv=>whnf
 refine Side.mk rfl ?_
 conv=>whnf
 obtain ⟨c88,hc88,h⟩:=bind_some h
 refine ⟨_,(sp_lazy_fresh (⟨l_.Inputs,y74,y75⟩:T_api_Lazy) c88 (fun _=>hc88)),?_⟩
 conv=>whnf
 refine Side.mk rfl ?_
 conv=>whnf
 cases h
 conv=>whnf
 refine Side.mk ⟨rfl,trivial⟩ ?_
 conv=>whnf
 exact ⟨rfl,rfl⟩
theorem sp_observe_Answer_1 (t_:T_api_Trace) (p1_:List Int) (r:Bool) (h:Ok (.agg (c_api_Trace t_))→Ok (.ref (cL cI p1_))→zq68 t_ p1_=some r):Sp Tryz.prog 210 [.im (.agg (c_api_Trace t_)),.im (.ref (cL cI p1_))] (.im (nB r)):=by
 refine sp_of rfl [700002] rfl rfl rfl (Nat.le_of_ble_eq_true rfl) rfl fun hk=>?_
 replace h:=h hk.1 hk.2.1
 have z1:lZ t_.In:=ok_len (Ok.agg_at hk.1 0 rfl)
 have z2:lZ t_.Out:=ok_len (Ok.agg_at hk.1 1 rfl)
 have z3:lZ p1_:=ok_len (Ok.ref_at hk.2.1 0 rfl)
 unfold zq68 at h
 conv=>whnf
 obtain ⟨c51,hc51,h⟩:=bind_some h
 refine ⟨_,(sp_word_HasPrefix t_.In p1_ c51 (fun _ _=>hc51)),?_⟩
 conv=>whnf
 cases h
 conv=>whnf
 exact ⟨rfl,rfl⟩
theorem zq2 (s_:List T_api_Trace) (f_:T_api_Trace→Option Bool) (f1_:FuncId) (k1_0:IV) (hk1_0:nz k1_0=k1_0) (hf1:∀ x0 r,f_ x0=some r→Sp Tryz.prog f1_ [.im (.agg (c_api_Trace x0)),.im k1_0] (.im (nB r))) (r:Int) (h:Ok (nL c_api_Trace s_)→Ok (.fn f1_ [k1_0])→zq5 s_ f_=some r):Sp Tryz.prog 209 [.im (nL c_api_Trace s_),.im (.fn f1_ [k1_0])] (.im (nI r)):=by
 refine sp_of rfl [] rfl rfl rfl (Nat.le_of_ble_eq_true rfl) rfl fun hk=>?_
 replace h:=h hk.1 hk.2.1
 have z1:lZ s_:=ok_len hk.1
 unfold zq5 at h
 conv=>whnf
 refine Nf.mk (List.length s_) len_map ?_
 conv=>whnf
 obtain ⟨oc,hc,hk51⟩:=bind_some h
 clear h
 have h:=hc
 clear hc
 refine Cut.mkS oc (Y:=Unit) (fun (_:Unit)=>mkSt [] [] []) (fun (_:Unit)=>True) (by rintro ⟨⟩;exact (hT)) ?_ ?_
 conv=>whnf
 refine Loops.iter (fun (s:Nat)=>zq5.s2 s_ f_ s) (fun y71=>mkSt [(0,.im (nL c_api_Trace s_)),(1,.im (.fn f1_ [k1_0])),(7,.im (nI (↑(List.length s_):Int))),(8,.im (nI (↑y71:Int)))] [] []) (fun y71=>lZ s_∧True) h (eA []) (by rintro y71;exact ((Holds.avl 0 rfl).and (hT))) ?_
 clear h
 rintro k y71 o hp h ho76
 replace h:zq5.s2 s_ f_ y71=some o:=h
 unfold zq5.s2 at h
 obtain ⟨z81,_⟩:=hp
 conv=>whnf
 refine Both.mk ?_ ?_<;>intro b77
 obtain ⟨h,b77d⟩:=ctd b77 h
 conv=>whnf
 obtain ⟨e78,he78,h⟩:=idxn_some h
 refine ⟨_,⟨(by omega),map_at he78,rfl⟩,?_⟩
 conv=>whnf
 obtain ⟨c79,hc79,h⟩:=bind_some h
 refine ⟨_,Sp.args (hf1 e78 c79 hc79) (by rw [hk1_0];try rfl),?_⟩
 conv=>whnf
 refine Both.mk ?_ ?_<;>intro b80
 replace h:=cond_t b80 h
 conv=>whnf
 cases h
 have ho76:_=_:=ho76
 cases ho76
 replace h:some _=some _:=hk51
 cases h
 conv=>whnf
 exact ⟨rfl,rfl⟩
 replace h:=cond_f b80 h
 conv=>whnf
 refine Arith.mk (by show inR _;unfold inR;omega) ?_
 conv=>whnf
 cases h
 exact Nxt.mk _ ho76 (eA [])
 obtain ⟨h,b77d⟩:=cfd b77 h
 conv=>whnf
 cases h
 have ho76:_=_:=ho76
 cases ho76
 exact JoinS.mk' _ rfl (eA [])
 rintro ⟨⟩ rfl hp
 replace h:=sum_inl hk51
 conv=>whnf
 cases h
 conv=>whnf
 exact ⟨rfl,rfl⟩
theorem sp_observe_Answer (o_:T_api_Obs) (w_:List Int) (r:List Int×Bool) (h:Ok (.agg (c_api_Obs o_))→Ok (nL cI w_)→zq82 o_ w_=some r):Sp Tryz.prog 181 [.im (.agg (c_api_Obs o_)),.im (nL cI w_)] (.tup [nL cI r.1,nB r.2]):=by
 refine sp_of rfl [700002,700003] rfl rfl rfl (Nat.le_of_ble_eq_true rfl) rfl fun hk=>?_
 replace h:=h hk.1 hk.2.1
 have z1:lZ o_.Traces:=ok_len (Ok.agg_at hk.1 1 rfl)
 have z2:lZ w_:=ok_len hk.2.1
 unfold zq82 at h
 conv=>whnf
 refine Nf.mk (List.length w_) len_map ?_
 conv=>whnf
 refine Both.mk ?_ ?_<;>intro b51
 obtain ⟨h,b51d⟩:=ctd b51 h
 conv=>whnf
 cases h
 conv=>whnf
 exact ⟨rfl,rfl⟩
 obtain ⟨h,b51d⟩:=cfd b51 h
 conv=>whnf
 obtain ⟨c52,hc52,h⟩:=bind_some h
 refine ⟨_,(zq2 o_.Traces (fun u0=>zq68 u0 w_) 210 (.ref (cL cI w_)) rfl (fun u0 r h=>(sp_observe_Answer_1 u0 w_ r (fun _ _=>h))) c52 (fun _ _=>hc52)),?_⟩
 conv=>whnf
 refine Both.mk ?_ ?_<;>intro b53
 obtain ⟨h,b53d⟩:=ctd b53 h
 conv=>whnf
 cases h
 conv=>whnf
 exact ⟨rfl,rfl⟩
 obtain ⟨h,b53d⟩:=cfd b53 h
 conv=>whnf
 obtain ⟨e54,he54z,he54,h⟩:=idx_some h
 refine ⟨_,⟨he54z,map_at he54,rfl⟩,?_⟩
 conv=>whnf
 refine Nf.mk (List.length w_) len_map ?_
 conv=>whnf
 refine Nf.mk (List.length e54.Out) len_map ?_
 conv=>whnf
 obtain ⟨c55,h⟩:=chk_some h
 refine Side.mk (show (0:Int)≤(0:Int)∧(0:Int)≤(min (↑(List.length w_):Int) (↑(List.length e54.Out):Int))∧(min (↑(List.length w_):Int) (↑(List.length e54.Out):Int))≤(↑(List.length (List.map cI e54.Out)):Int)∧(∀ e∈List.map cI e54.Out,List.length e=1) from ⟨by omega,by first | omega | (simp only [List.length_map];omega),by first | omega | (simp only [List.length_map];omega),map_len fun _=>rfl⟩) ?_
 conv=>whnf
 refine Nf.mk (List.map cI (List.take (Int.toNat (min (↑(List.length w_):Int) (↑(List.length e54.Out):Int))) e54.Out)) take_map ?_
 conv=>whnf
 obtain ⟨c56,hc56,h⟩:=bind_some h
 refine ⟨_,(sp_lib_Clone_int (List.take (Int.toNat (min (↑(List.length w_):Int) (↑(List.length e54.Out):Int))) e54.Out) c56 (hc56)).im,?_⟩
 conv=>whnf
 cases h
 conv=>whnf
 exact ⟨rfl,rfl⟩
theorem zq42 (r_:T_lazy_reader) (w_:List Int) (v_:List Int) (v0_0:Value) (v0_1:Value) (v0_2:Value) (r:List Int×T_lazy_reader) (h:OkOcs [.im (.ex v0_0),.im (.ex v0_1),.im (.ex v0_2),.im (nI r_.o.Inputs),.im (nL c_api_Trace r_.o.Traces),.ow (.row 51 1 (List.map (cL cI) r_.missing)),.im (nB r_.long)]→Ok (nL cI w_)→Ok (nL cI v_)→zq61 r_ w_ v_=some r):Sp Tryz.prog 121 [.box 106 [.im (.ex v0_0),.im (.ex v0_1),.im (.ex v0_2),.im (nI r_.o.Inputs),.im (nL c_api_Trace r_.o.Traces),.ow (.row 51 1 (List.map (cL cI) r_.missing)),.im (nB r_.long)],.im (nL cI w_),.im (nL cI v_)] (.mk false [.im (nL cI r.1)] [.box 106 [.im (.ex v0_0),.im (.ex v0_1),.im (.ex v0_2),.im (nI r.2.o.Inputs),.im (nL c_api_Trace r.2.o.Traces),.ow (.row 51 1 (List.map (cL cI) r.2.missing)),.im (nB r.2.long)]]):=by
 refine sp_of rfl [] rfl rfl rfl (Nat.le_of_ble_eq_true rfl) rfl fun hk=>?_
 replace h:=h hk.1 hk.2.1 hk.2.2.1
 have z1:lZ r_.o.Traces:=ok_len hk.1.2.2.2.2.1
 have z2:lZ r_.missing:=okl_len hk.1.2.2.2.2.2.1
 have z3:lZ w_:=ok_len hk.2.1
 have z4:lZ v_:=ok_len hk.2.2.1
 unfold zq61 at h
 conv=>whnf
 obtain ⟨c51,hc51,h⟩:=bind_some h
 refine ⟨_,(sp_word_Join [w_,v_] c51 (fun _=>hc51)),?_⟩
 conv=>whnf
 refine Nf.mk (List.length c51) len_map ?_
 conv=>whnf
 refine Both.mk ?_ ?_<;>intro b52
 obtain ⟨h,b52d⟩:=ctd b52 h
 conv=>whnf
 refine Side.mk rfl ?_
 conv=>whnf
 refine Side.mk rfl ?_
 conv=>whnf
 refine Side.mk rfl ?_
 conv=>whnf
 cases h
 conv=>whnf
 exact Side.mk ⟨rfl,rfl,trivial⟩ ⟨rfl,rfl⟩
 obtain ⟨h,b52d⟩:=cfd b52 h
 conv=>whnf
 refine Side.mk rfl ?_
 conv=>whnf
 refine Side.mk rfl ?_
 conv=>whnf
 refine Side.mk rfl ?_
 conv=>whnf
 obtain ⟨c53,hc53,h⟩:=bind_some h
 refine ⟨_,(sp_observe_Answer r_.o c51 c53 (fun _ _=>hc53)),?_⟩
 conv=>whnf
 refine Both.mk ?_ ?_<;>intro b54
 replace h:=cond_t b54 h
 conv=>whnf
 refine Side.mk rfl ?_
 conv=>whnf
 refine Side.mk rfl ?_
 conv=>whnf
 refine Side.mk rfl ?_
 conv=>whnf
 obtain ⟨c55,h⟩:=chk_some h
 refine Side.mk ⟨rfl,map_len (l:=[c51]) (c:=cL cI) fun _=>rfl,show capOk _ 24 by simpa only [List.length_map,List.length_cons,List.length_nil,Nat.zero_add] using c55⟩ ?_
 conv=>whnf
 refine Nf.mk (List.map (cL cI) (r_.missing++[c51])) (app_map (l:=r_.missing) (m:=[c51]) (c:=cL cI)) ?_
 conv=>whnf
 refine Side.mk rfl ?_
 conv=>whnf
 refine Side.mk rfl ?_
 conv=>whnf
 refine Side.mk rfl ?_
 conv=>whnf
 cases h
 conv=>whnf
 exact Side.mk ⟨rfl,rfl,trivial⟩ ⟨rfl,rfl⟩
 replace h:=cond_f b54 h
 conv=>whnf
 refine Nf.mk (List.length w_) len_map ?_
 conv=>whnf
 obtain ⟨c56,h⟩:=chk_some h
 refine Side.mk (show (0:Int)≤(↑(List.length w_):Int)∧(↑(List.length w_):Int)≤(↑(List.length (List.map cI c53.1)):Int)∧(↑(List.length (List.map cI c53.1)):Int)≤(↑(List.length (List.map cI c53.1)):Int)∧(∀ e∈List.map cI c53.1,List.length e=1) from ⟨by omega,by first | omega | (simp only [List.length_map];omega),by first | omega | (simp only [List.length_map];omega),map_len fun _=>rfl⟩) ?_
 conv=>whnf
 refine Nf.mk (List.map cI (List.drop (List.length w_) c53.1)) drop_map ?_
 conv=>whnf
 cases h
 conv=>whnf
 exact Side.mk ⟨rfl,rfl,trivial⟩ ⟨rfl,rfl⟩
theorem zq45 (r_:T_lazy_reader) (w_:List Int) (v0_0:Value) (v0_1:Value) (r:List (List Int)×T_lazy_reader) (h:OkOcs [.im (.ex v0_0),.im (.ex v0_1),.im (nL (cL cI) r_.l.Suffixes),.im (nI r_.o.Inputs),.im (nL c_api_Trace r_.o.Traces),.ow (.row 51 1 (List.map (cL cI) r_.missing)),.im (nB r_.long)]→Ok (nL cI w_)→zq74 r_ w_=some r):Sp Tryz.prog 118 [.box 106 [.im (.ex v0_0),.im (.ex v0_1),.im (nL (cL cI) r_.l.Suffixes),.im (nI r_.o.Inputs),.im (nL c_api_Trace r_.o.Traces),.ow (.row 51 1 (List.map (cL cI) r_.missing)),.im (nB r_.long)],.im (nL cI w_)] (.mk false [.im (nL (cL cI) r.1)] [.box 106 [.im (.ex v0_0),.im (.ex v0_1),.im (nL (cL cI) r.2.l.Suffixes),.im (nI r.2.o.Inputs),.im (nL c_api_Trace r.2.o.Traces),.ow (.row 51 1 (List.map (cL cI) r.2.missing)),.im (nB r.2.long)]]):=by
 refine sp_of rfl [23000,900022,1000000000000022528,1000000000000022529,1000000000000022530] rfl rfl rfl (Nat.le_of_ble_eq_true rfl) rfl fun hk=>?_
 replace h:=h hk.1 hk.2.1
 have z1:lZ r_.l.Suffixes:=ok_len hk.1.2.2.1
 have z2:lZ r_.o.Traces:=ok_len hk.1.2.2.2.2.1
 have z3:lZ r_.missing:=okl_len hk.1.2.2.2.2.2.1
 have z4:lZ w_:=ok_len hk.2.1
 unfold zq74 at h
 conv=>whnf
 refine Side.mk rfl ?_
 conv=>whnf
 refine Side.mk rfl ?_
 conv=>whnf
 refine Side.mk rfl ?_
 conv=>whnf
 refine Side.mk rfl ?_
 conv=>whnf
 refine Nf.mk (List.length r_.l.Suffixes) len_map ?_
 conv=>whnf
 obtain ⟨⟨y75,y76,y77,y78,y79⟩,hc,hk51⟩:=bind_some h
 clear h
 have h:=hc
 clear hc
 refine Cut.mk (mkSt [(0,.own 0 0 0),(5,.osl 66 1)] [(0,.box 106 7),(65,.row 51 1 (List.map (cL cI) y77)),(66,.row 51 1 (List.map (cL cI) y79))] [(0,0,.im (.ex v0_0)),(0,1,.im (.ex v0_1)),(0,2,.im (nL (cL cI) r_.l.Suffixes)),(0,3,.im (nI y75)),(0,4,.im (nL c_api_Trace y76)),(0,5,.osl 65 1),(0,6,.im (nB y78))]) (lZ r_.l.Suffixes∧lZ y76∧lZ y77∧lZ y79∧True) ((Holds.cel 0 2 rfl (by decide) rfl).and ((Holds.cel 0 4 rfl (by decide) rfl).and ((Holds.kdl 65 rfl).and ((Holds.kdl 66 rfl).and (hT))))) ?_ (fun hp=>?_)
 conv=>whnf
 refine Loops.iter (fun (s:Int×List T_api_Trace×List (List Int)×Bool×List (List Int)×Nat)=>zq74.s2 r_ w_ s.1 s.2.1 s.2.2.1 s.2.2.2.1 s.2.2.2.2.1 s.2.2.2.2.2) (fun (y83,y84,y85,y86,y87,y88)=>mkSt [(0,.own 0 0 0),(1,.im (nL cI w_)),(5,.osl 66 1),(12,.im (nL (cL cI) r_.l.Suffixes)),(13,.im (nI (↑(List.length r_.l.Suffixes):Int))),(14,.im (nI (↑y88:Int)))] [(0,.box 106 7),(65,.row 51 1 (List.map (cL cI) y85)),(66,.row 51 1 (List.map (cL cI) y87))] [(0,0,.im (.ex v0_0)),(0,1,.im (.ex v0_1)),(0,2,.im (nL (cL cI) r_.l.Suffixes)),(0,3,.im (nI y83)),(0,4,.im (nL c_api_Trace y84)),(0,5,.osl 65 1),(0,6,.im (nB y86))]) (fun (y83,y84,y85,y86,y87,y88)=>lZ w_∧lZ r_.l.Suffixes∧lZ y84∧lZ y85∧lZ y87∧True) h (eA [(0,some 0),(65,some 2005),(66,none)]) (by rintro ⟨y83,y84,y85,y86,y87,y88⟩;exact ((Holds.avl 1 rfl).and ((Holds.avl 12 rfl).and ((Holds.cel 0 4 rfl (by decide) rfl).and ((Holds.kdl 65 rfl).and ((Holds.kdl 66 rfl).and (hT))))))) ?_
 clear h
 rintro k ⟨y83,y84,y85,y86,y87,y88⟩ o hp h ho93
 replace h:zq74.s2 r_ w_ y83 y84 y85 y86 y87 y88=some o:=h
 unfold zq74.s2 at h
 obtain ⟨z98,z99,z100,z101,z102,_⟩:=hp
 conv=>whnf
 refine Both.mk ?_ ?_<;>intro b94
 obtain ⟨h,b94d⟩:=ctd b94 h
 conv=>whnf
 obtain ⟨e95,he95,h⟩:=idxn_some h
 refine ⟨_,⟨(by omega),map_at he95,rfl⟩,?_⟩
 conv=>whnf
 refine Side.mk ⟨rfl,rfl,trivial⟩ ?_
 conv=>whnf
 obtain ⟨c96,hc96,h⟩:=bind_some h
 refine ⟨false,[.im (nL cI c96.1)],[.box 106 [.im .any,.im .any,.im .any,.im (nI c96.2.o.Inputs),.im (nL c_api_Trace c96.2.o.Traces),.ow (.row 51 1 (List.map (cL cI) c96.2.missing)),.im (nB c96.2.long)]],fun V=>(zq42 (⟨r_.l,(⟨y83,y84⟩:T_api_Obs),y85,y86⟩:T_lazy_reader) w_ e95 (V 0 0) (V 0 1) (V 0 2) c96 (fun _ _ _=>hc96)),?_⟩
 conv=>whnf
 obtain ⟨c97,h⟩:=chk_some h
 refine Side.mk ⟨rfl,map_len (l:=[c96.1]) (c:=cL cI) fun _=>rfl,show capOk _ 24 by simpa only [List.length_map,List.length_cons,List.length_nil,Nat.zero_add] using c97⟩ ?_
 conv=>whnf
 refine Nf.mk (List.map (cL cI) (y87++[c96.1])) (app_map (l:=y87) (m:=[c96.1]) (c:=cL cI)) ?_
 conv=>whnf
 refine Arith.mk (by show inR _;unfold inR;omega) ?_
 conv=>whnf
 cases h
 exact Nxt.mk _ ho93 (eA [(0,some 0),(65,some 65),(66,some 66)])
 obtain ⟨h,b94d⟩:=cfd b94 h
 conv=>whnf
 cases h
 have ho93:_=_:=ho93
 cases ho93
 exact Join.mk (eA [(0,some 0),(65,some 65),(66,some 66)])
 replace h:zq74.k3 r_ y75 y76 y77 y78 y79=some _:=hk51
 unfold zq74.k3 at h
 obtain ⟨z103,z104,z105,z106,_⟩:=hp
 conv=>whnf
 cases h
 conv=>whnf
 exact Side.mk ⟨rfl,rfl,rfl,trivial⟩ ⟨rfl,rfl⟩
theorem sp_table_Row (t_:T_api_Table) (o_:T_api_Obs) (w_:List Int) (r:List (List Int)×Bool) (h:Ok (.agg (c_api_Table t_))→Ok (.agg (c_api_Obs o_))→Ok (nL cI w_)→table_Row t_ o_ w_=some r):Sp Tryz.prog 180 [.im (.agg (c_api_Table t_)),.im (.agg (c_api_Obs o_)),.im (nL cI w_)] (.tup [nL (cL cI) r.1,nB r.2]):=by
 refine sp_of rfl [700003,700004] rfl rfl rfl (Nat.le_of_ble_eq_true rfl) rfl fun hk=>?_
 replace h:=h hk.1 hk.2.1 hk.2.2.1
 have z1:lZ t_.Prefixes:=ok_len (Ok.agg_at hk.1 1 rfl)
 have z2:lZ t_.Suffixes:=ok_len (Ok.agg_at hk.1 2 rfl)
 have z3:lZ o_.Traces:=ok_len (Ok.agg_at hk.2.1 1 rfl)
 have z4:lZ w_:=ok_len hk.2.2.1
 unfold table_Row at h
 conv=>whnf
 obtain ⟨c51,hc51,h⟩:=bind_some h
 refine ⟨_,(zq80 t_ o_ c51 (fun _ _=>hc51)),?_⟩
 conv=>whnf
 refine Both.mk ?_ ?_<;>intro b52
 obtain ⟨h,b52d⟩:=ctd b52 h
 conv=>whnf
 cases h
 conv=>whnf
 exact ⟨rfl,rfl⟩
 obtain ⟨h,b52d⟩:=cfd b52 h
 conv=>whnf
 obtain ⟨c53,hc53,h⟩:=bind_some h
 refine ⟨_,(zq88 o_ c53 (fun _=>hc53)).im,?_⟩
 conv=>whnf
 obtain ⟨c54,hc54,h⟩:=bind_some h
 refine ⟨_,(zq43 c53 t_ w_ c54 (fun _ _ _=>hc54)),?_⟩
 conv=>whnf
 cases h
 conv=>whnf
 exact ⟨rfl,rfl⟩
theorem zq4 (s1_:List (List Int)) (s2_:List (List Int)) (eq_:(List Int)→(List Int)→Option Bool) (f2_:FuncId) (hf2:∀ x0 x1 r,eq_ x0 x1=some r→Sp Tryz.prog f2_ [.im (nL cI x0),.im (nL cI x1)] (.im (nB r))) (r:Bool) (h:Ok (nL (cL cI) s1_)→Ok (nL (cL cI) s2_)→Ok (.fn f2_ [])→zq7 s1_ s2_ eq_=some r):Sp Tryz.prog 182 [.im (nL (cL cI) s1_),.im (nL (cL cI) s2_),.im (.fn f2_ [])] (.im (nB r)):=by
 refine sp_of rfl [] rfl rfl rfl (Nat.le_of_ble_eq_true rfl) rfl fun hk=>?_
 replace h:=h hk.1 hk.2.1 hk.2.2.1
 have z1:lZ s1_:=ok_len hk.1
 have z2:lZ s2_:=ok_len hk.2.1
 unfold zq7 at h
 conv=>whnf
 refine Nf.mk (List.length s1_) len_map ?_
 conv=>whnf
 refine Nf.mk (List.length s2_) len_map ?_
 conv=>whnf
 refine Both.mk ?_ ?_<;>intro b51
 obtain ⟨h,b51d⟩:=ctd b51 h
 conv=>whnf
 cases h
 conv=>whnf
 exact ⟨rfl,rfl⟩
 obtain ⟨h,b51d⟩:=cfd b51 h
 conv=>whnf
 refine Nf.mk (List.length s1_) len_map ?_
 conv=>whnf
 obtain ⟨oc,hc,hk52⟩:=bind_some h
 clear h
 have h:=hc
 clear hc
 refine Cut.mkS oc (Y:=Unit) (fun (_:Unit)=>mkSt [] [] []) (fun (_:Unit)=>True) (by rintro ⟨⟩;exact (hT)) ?_ ?_
 conv=>whnf
 refine Loops.iter (fun (s:Nat)=>zq7.s2 s1_ s2_ eq_ s) (fun y77=>mkSt [(1,.im (nL (cL cI) s2_)),(2,.im (.fn f2_ [])),(15,.im (nL (cL cI) s1_)),(16,.im (nI (↑(List.length s1_):Int))),(17,.im (nI (↑y77:Int)))] [] []) (fun y77=>lZ s2_∧lZ s1_∧True) h (eA []) (by rintro y77;exact ((Holds.avl 1 rfl).and ((Holds.avl 15 rfl).and (hT)))) ?_
 clear h
 rintro k y77 o hp h ho83
 replace h:zq7.s2 s1_ s2_ eq_ y77=some o:=h
 unfold zq7.s2 at h
 obtain ⟨z89,z90,_⟩:=hp
 conv=>whnf
 refine Both.mk ?_ ?_<;>intro b84
 obtain ⟨h,b84d⟩:=ctd b84 h
 conv=>whnf
 obtain ⟨e85,he85,h⟩:=idxn_some h
 refine ⟨_,⟨(by omega),map_at he85,rfl⟩,?_⟩
 conv=>whnf
 obtain ⟨e86,he86,h⟩:=idxn_some h
 refine ⟨_,⟨(by omega),map_at he86,rfl⟩,?_⟩
 conv=>whnf
 obtain ⟨c87,hc87,h⟩:=bind_some h
 refine ⟨_,hf2 e85 e86 c87 hc87,?_⟩
 conv=>whnf
 refine Both.mk ?_ ?_<;>intro b88
 replace h:=cond_t b88 h
 conv=>whnf
 cases h
 have ho83:_=_:=ho83
 cases ho83
 replace h:some _=some _:=hk52
 cases h
 conv=>whnf
 exact ⟨rfl,rfl⟩
 replace h:=cond_f b88 h
 conv=>whnf
 refine Arith.mk (by show inR _;unfold inR;omega) ?_
 conv=>whnf
 cases h
 exact Nxt.mk _ ho83 (eA [])
 obtain ⟨h,b84d⟩:=cfd b84 h
 conv=>whnf
 cases h
 have ho83:_=_:=ho83
 cases ho83
 exact JoinS.mk' _ rfl (eA [])
 rintro ⟨⟩ rfl hp
 replace h:=sum_inl hk52
 conv=>whnf
 cases h
 conv=>whnf
 exact ⟨rfl,rfl⟩
theorem sp_lazy_same_1 (x_:List Int) (y_:List Int) (r:Bool) (h:Ok (nL cI x_)→Ok (nL cI y_)→zq99 x_ y_=some r):Sp Tryz.prog 183 [.im (nL cI x_),.im (nL cI y_)] (.im (nB r)):=by
 refine sp_of rfl [] rfl rfl rfl (Nat.le_of_ble_eq_true rfl) rfl fun hk=>?_
 replace h:=h hk.1 hk.2.1
 have z1:lZ x_:=ok_len hk.1
 have z2:lZ y_:=ok_len hk.2.1
 unfold zq99 at h
 conv=>whnf
 obtain ⟨c51,hc51,h⟩:=bind_some h
 refine ⟨_,(zq23 x_ y_ c51 (fun _ _=>hc51)),?_⟩
 conv=>whnf
 cases h
 conv=>whnf
 exact ⟨rfl,rfl⟩
theorem sp_lazy_same (a_:List (List Int)) (b_:List (List Int)) (r:Bool) (h:Ok (nL (cL cI) a_)→Ok (nL (cL cI) b_)→lazy_same a_ b_=some r):Sp Tryz.prog 123 [.im (nL (cL cI) a_),.im (nL (cL cI) b_)] (.im (nB r)):=by
 refine sp_of rfl [] rfl rfl rfl (Nat.le_of_ble_eq_true rfl) rfl fun hk=>?_
 replace h:=h hk.1 hk.2.1
 have z1:lZ a_:=ok_len hk.1
 have z2:lZ b_:=ok_len hk.2.1
 unfold lazy_same at h
 conv=>whnf
 obtain ⟨c51,hc51,h⟩:=bind_some h
 refine ⟨_,(zq4 a_ b_ (fun u0 u1=>zq99 u0 u1) 183 (fun u0 u1 r h=>(sp_lazy_same_1 u0 u1 r (fun _ _=>h))) c51 (fun _ _ _=>hc51)),?_⟩
 conv=>whnf
 cases h
 conv=>whnf
 exact ⟨rfl,rfl⟩
theorem zq38 (r_:T_lazy_reader) (row_:List (List Int)) (v0_5:Value) (v0_6:Value) (r:List Int×Bool×T_lazy_reader) (h:OkOcs [.im (nI r_.l.Inputs),.im (nL (cL cI) r_.l.Short),.im (nL (cL cI) r_.l.Suffixes),.im (nI r_.o.Inputs),.im (nL c_api_Trace r_.o.Traces),.im (.ex v0_5),.im (.ex v0_6)]→Ok (nL (cL cI) row_)→zq55 r_ row_=some r):Sp Tryz.prog 120 [.box 106 [.im (nI r_.l.Inputs),.im (nL (cL cI) r_.l.Short),.im (nL (cL cI) r_.l.Suffixes),.im (nI r_.o.Inputs),.im (nL c_api_Trace r_.o.Traces),.im (.ex v0_5),.im (.ex v0_6)],.im (nL (cL cI) row_)] (.mk true [.im (nL cI r.1),.im (nB r.2.1)] [.box 106 [.im (nI r.2.2.l.Inputs),.im (nL (cL cI) r.2.2.l.Short),.im (nL (cL cI) r.2.2.l.Suffixes),.im (nI r.2.2.o.Inputs),.im (nL c_api_Trace r.2.2.o.Traces),.im (.ex v0_5),.im (.ex v0_6)]]):=by
 refine sp_of rfl [] rfl rfl rfl (Nat.le_of_ble_eq_true rfl) rfl fun hk=>?_
 replace h:=h hk.1 hk.2.1
 have z1:lZ r_.l.Short:=ok_len hk.1.2.1
 have z2:lZ r_.l.Suffixes:=ok_len hk.1.2.2.1
 have z3:lZ r_.o.Traces:=ok_len hk.1.2.2.2.2.1
 have z4:lZ row_:=ok_len hk.2.1
 unfold zq55 at h
 conv=>whnf
 refine Side.mk rfl ?_
 conv=>whnf
 refine Side.mk rfl ?_
 conv=>whnf
 refine Side.mk rfl ?_
 conv=>whnf
 refine Side.mk rfl ?_
 conv=>whnf
 refine Nf.mk (List.length r_.l.Short) len_map ?_
 conv=>whnf
 obtain ⟨oc,hc,hk51⟩:=bind_some h
 clear h
 have h:=hc
 clear hc
 refine Cut.mkS oc (Y:=Unit) (fun (_:Unit)=>mkSt [(0,.own 0 0 0)] [(0,.box 106 7)] [(0,0,.im (nI r_.l.Inputs)),(0,1,.im (nL (cL cI) r_.l.Short)),(0,2,.im (nL (cL cI) r_.l.Suffixes)),(0,3,.im (nI r_.o.Inputs)),(0,4,.im (nL c_api_Trace r_.o.Traces)),(0,5,.im (.ex v0_5)),(0,6,.im (.ex v0_6))]) (fun (_:Unit)=>lZ r_.l.Short∧lZ r_.l.Suffixes∧lZ r_.o.Traces∧True) (by rintro ⟨⟩;exact ((Holds.cel 0 1 rfl (by decide) rfl).and ((Holds.cel 0 2 rfl (by decide) rfl).and ((Holds.cel 0 4 rfl (by decide) rfl).and (hT))))) ?_ ?_
 conv=>whnf
 refine Loops.iter (fun (s:Nat)=>zq55.s2 r_ row_ s) (fun y126=>mkSt [(0,.own 0 0 0),(1,.im (nL (cL cI) row_)),(14,.im (nL (cL cI) r_.l.Short)),(15,.im (nI (↑(List.length r_.l.Short):Int))),(16,.im (nI (↑y126:Int)))] [(0,.box 106 7)] [(0,0,.im (nI r_.l.Inputs)),(0,1,.im (nL (cL cI) r_.l.Short)),(0,2,.im (nL (cL cI) r_.l.Suffixes)),(0,3,.im (nI r_.o.Inputs)),(0,4,.im (nL c_api_Trace r_.o.Traces)),(0,5,.im (.ex v0_5)),(0,6,.im (.ex v0_6))]) (fun y126=>lZ row_∧lZ r_.l.Short∧lZ r_.l.Suffixes∧lZ r_.o.Traces∧True) h (eA [(0,some 0)]) (by rintro y126;exact ((Holds.avl 1 rfl).and ((Holds.avl 14 rfl).and ((Holds.cel 0 2 rfl (by decide) rfl).and ((Holds.cel 0 4 rfl (by decide) rfl).and (hT)))))) ?_
 clear h
 rintro k y126 o hp h ho144
 replace h:zq55.s2 r_ row_ y126=some o:=h
 unfold zq55.s2 at h
 obtain ⟨z162,z163,z164,z165,_⟩:=hp
 conv=>whnf
 refine Both.mk ?_ ?_<;>intro b145
 obtain ⟨h,b145d⟩:=ctd b145 h
 conv=>whnf
 obtain ⟨e146,he146,h⟩:=idxn_some h
 refine ⟨_,⟨(by omega),map_at he146,rfl⟩,?_⟩
 conv=>whnf
 refine Side.mk rfl ?_
 conv=>whnf
 refine Side.mk rfl ?_
 conv=>whnf
 refine Side.mk rfl ?_
 conv=>whnf
 obtain ⟨c147,hc147,h⟩:=bind_some h
 refine ⟨_,(zq84 r_.l c147 (fun _=>hc147)),?_⟩
 conv=>whnf
 refine Side.mk rfl ?_
 conv=>whnf
 refine Side.mk rfl ?_
 conv=>whnf
 refine Side.mk rfl ?_
 conv=>whnf
 obtain ⟨c148,hc148,h⟩:=bind_some h
 refine ⟨_,(sp_table_Row c147 r_.o e146 c148 (fun _ _ _=>hc148)),?_⟩
 conv=>whnf
 obtain ⟨y153,hc,hk150⟩:=bind_some h
 clear h
 have h:=hc
 clear hc
 refine Cut.mk (mkSt [(0,.own 0 0 0),(1,.im (nL (cL cI) row_)),(7,.im (nL cI e146)),(14,.im (nL (cL cI) r_.l.Short)),(15,.im (nI (↑(List.length r_.l.Short):Int))),(16,.im (nI (↑y126:Int))),(39,.im (nB y153))] [(0,.box 106 7)] [(0,0,.im (nI r_.l.Inputs)),(0,1,.im (nL (cL cI) r_.l.Short)),(0,2,.im (nL (cL cI) r_.l.Suffixes)),(0,3,.im (nI r_.o.Inputs)),(0,4,.im (nL c_api_Trace r_.o.Traces)),(0,5,.im (.ex v0_5)),(0,6,.im (.ex v0_6))]) (lZ row_∧lZ e146∧lZ r_.l.Short∧lZ r_.l.Suffixes∧lZ r_.o.Traces∧True) ((Holds.avl 1 rfl).and ((Holds.avl 7 rfl).and ((Holds.avl 14 rfl).and ((Holds.cel 0 2 rfl (by decide) rfl).and ((Holds.cel 0 4 rfl (by decide) rfl).and (hT)))))) ?_ (fun hp=>?_)
 conv=>whnf
 refine Both.mk ?_ ?_<;>intro b154
 replace b154:=beq_tt b154
 replace h:=cond_t b154 h
 conv=>whnf
 iterate 2 (refine Both.yes (tt_beq b154) ?_;(conv=>whnf))
 obtain ⟨c155,hc155,h⟩:=bind_some h
 refine ⟨_,(sp_lazy_same c148.1 row_ c155 (fun _ _=>hc155)),?_⟩
 conv=>whnf
 refine Both.yes b154 ?_
 conv=>whnf
 cases h
 exact Join.mk (eA [(0,some 0)])
 replace b154:=beq_tf b154
 replace h:=cond_f b154 h
 conv=>whnf
 iterate 2 (refine Both.no (ft_beq b154) ?_;(conv=>whnf))
 refine Both.no b154 ?_
 conv=>whnf
 cases h
 exact Join.mk (eA [(0,some 0)])
 replace h:=hk150
 obtain ⟨z156,z157,z158,z159,z160,_⟩:=hp
 conv=>whnf
 refine Both.mk ?_ ?_<;>intro b161
 replace h:=cond_t b161 h
 conv=>whnf
 cases h
 have ho144:_=_:=ho144
 cases ho144
 replace h:some _=some _:=hk51
 cases h
 conv=>whnf
 exact Side.mk ⟨rfl,trivial⟩ ⟨rfl,rfl⟩
 replace h:=cond_f b161 h
 conv=>whnf
 refine Arith.mk (by show inR _;unfold inR;omega) ?_
 conv=>whnf
 cases h
 exact Nxt.mk _ ho144 (eA [(0,some 0)])
 obtain ⟨h,b145d⟩:=cfd b145 h
 conv=>whnf
 cases h
 have ho144:_=_:=ho144
 cases ho144
 exact JoinS.mk' _ rfl (eA [(0,some 0)])
 rintro ⟨⟩ rfl hp
 replace h:=sum_inl hk51
 obtain ⟨z166,z167,z168,_⟩:=hp
 conv=>whnf
 cases h
 conv=>whnf
 exact Side.mk ⟨rfl,trivial⟩ ⟨rfl,rfl⟩
theorem zq39 (r_:T_lazy_reader) (v0_0:Value) (v0_1:Value) (v0_2:Value) (v0_3:Value) (v0_4:Value) (r:Bool×T_lazy_reader) (h:OkOcs [.im (.ex v0_0),.im (.ex v0_1),.im (.ex v0_2),.im (.ex v0_3),.im (.ex v0_4),.ow (.row 51 1 (List.map (cL cI) r_.missing)),.im (nB r_.long)]→zq53 r_=some r):Sp Tryz.prog 119 [.box 106 [.im (.ex v0_0),.im (.ex v0_1),.im (.ex v0_2),.im (.ex v0_3),.im (.ex v0_4),.ow (.row 51 1 (List.map (cL cI) r_.missing)),.im (nB r_.long)]] (.mk false [.im (nB r.1)] [.box 106 [.im (.ex v0_0),.im (.ex v0_1),.im (.ex v0_2),.im (.ex v0_3),.im (.ex v0_4),.ow (.row 51 1 (List.map (cL cI) r.2.missing)),.im (nB r.2.long)]]):=by
 refine sp_of rfl [] rfl rfl rfl (Nat.le_of_ble_eq_true rfl) rfl fun hk=>?_
 replace h:=h hk.1
 have z1:lZ r_.missing:=okl_len hk.1.2.2.2.2.2.1
 unfold zq53 at h
 conv=>whnf
 obtain ⟨y54,hc,hk52⟩:=bind_some h
 clear h
 have h:=hc
 clear hc
 refine Cut.mk (mkSt [(0,.own 0 0 0),(2,.im (nB y54))] [(0,.box 106 7),(65,.row 51 1 (List.map (cL cI) r_.missing))] [(0,0,.im (.ex v0_0)),(0,1,.im (.ex v0_1)),(0,2,.im (.ex v0_2)),(0,3,.im (.ex v0_3)),(0,4,.im (.ex v0_4)),(0,5,.osl 65 1),(0,6,.im (nB r_.long))]) (lZ r_.missing∧True) ((Holds.kdl 65 rfl).and (hT)) ?_ (fun hp=>?_)
 conv=>whnf
 refine Side.mk rfl ?_
 conv=>whnf
 refine Side.mk rfl ?_
 conv=>whnf
 refine Side.mk rfl ?_
 conv=>whnf
 refine Both.mk ?_ ?_<;>intro b55
 replace b55:=beq_ff b55
 replace h:=cond_f b55 h
 conv=>whnf
 refine Both.yes (ff_beq b55) ?_
 conv=>whnf
 refine Side.mk rfl ?_
 conv=>whnf
 refine Both.yes (ff_beq b55) ?_
 conv=>whnf
 refine Side.mk rfl ?_
 conv=>whnf
 refine Both.yes (ff_beq b55) ?_
 conv=>whnf
 refine Side.mk rfl ?_
 conv=>whnf
 refine Both.yes (ff_beq b55) ?_
 conv=>whnf
 refine Side.mk rfl ?_
 conv=>whnf
 refine Nf.mk (List.length r_.missing) len_map ?_
 conv=>whnf
 refine Both.yes (ff_beq b55) ?_
 conv=>whnf
 refine Both.no b55 ?_
 conv=>whnf
 cases h
 exact Join.mk (eA [(0,some 0),(65,some 2005)])
 replace b55:=beq_ft b55
 replace h:=cond_t b55 h
 conv=>whnf
 iterate 5 (refine Both.no (tf_beq b55) ?_;(conv=>whnf))
 refine Both.yes b55 ?_
 conv=>whnf
 cases h
 exact Join.mk (eA [(0,some 0),(65,some 2005)])
 replace h:=hk52
 obtain ⟨z56,_⟩:=hp
 conv=>whnf
 cases h
 conv=>whnf
 exact Side.mk ⟨rfl,rfl,trivial⟩ ⟨rfl,rfl⟩
theorem zq36 (r_:T_lazy_reader) (u_:List Int) (v_:List Int) (r:List (List Int)×Int×T_lazy_reader) (h:OkOcs [.im (nI r_.l.Inputs),.im (nL (cL cI) r_.l.Short),.im (nL (cL cI) r_.l.Suffixes),.im (nI r_.o.Inputs),.im (nL c_api_Trace r_.o.Traces),.ow (.row 51 1 (List.map (cL cI) r_.missing)),.im (nB r_.long)]→Ok (nL cI u_)→Ok (nL cI v_)→zq49 r_ u_ v_=some r):Sp Tryz.prog 60 [.box 106 [.im (nI r_.l.Inputs),.im (nL (cL cI) r_.l.Short),.im (nL (cL cI) r_.l.Suffixes),.im (nI r_.o.Inputs),.im (nL c_api_Trace r_.o.Traces),.ow (.row 51 1 (List.map (cL cI) r_.missing)),.im (nB r_.long)],.im (nL cI u_),.im (nL cI v_)] (.mk true [.im (nL (cL cI) r.1),.im (nI r.2.1)] [.box 106 [.im (nI r.2.2.l.Inputs),.im (nL (cL cI) r.2.2.l.Short),.im (nL (cL cI) r.2.2.l.Suffixes),.im (nI r.2.2.o.Inputs),.im (nL c_api_Trace r.2.2.o.Traces),.ow (.row 51 1 (List.map (cL cI) r.2.2.missing)),.im (nB r.2.2.long)]]):=by
 refine sp_of rfl [50,26000,28000,32000,40000,44000,46000,69000,72000,74000,83000,91000,95000,97000,900025,900027,900031,900039,900043,900045,900068,900071,900073,900082,900090,900094,900096,1000000000000025600,1000000000000025601,1000000000000027648,1000000000000027649,1000000000000027650,1000000000000027651,1000000000000027652,1000000000000031749,1000000000000031750,1000000000000039936,1000000000000039937,1000000000000039938,1000000000000044032,1000000000000044033,1000000000000044034,1000000000000046080,1000000000000046081,1000000000000046082,1000000000000046083,1000000000000046084,1000000000000069632,1000000000000069633,1000000000000072704,1000000000000072705,1000000000000074752,1000000000000074753,1000000000000074754,1000000000000074755,1000000000000074756,1000000000000083973,1000000000000083974,1000000000000092160,1000000000000092161,1000000000000092162,1000000000000096256,1000000000000096257,1000000000000096258,1000000000000098304,1000000000000098305,1000000000000098306,1000000000000098307,1000000000000098308] rfl rfl rfl (Nat.le_of_ble_eq_true rfl) rfl fun hk=>?_
 replace h:=h hk.1 hk.2.1 hk.2.2.1
 have z1:lZ r_.l.Short:=ok_len hk.1.2.1
 have z2:lZ r_.l.Suffixes:=ok_len hk.1.2.2.1
 have z3:lZ r_.o.Traces:=ok_len hk.1.2.2.2.2.1
 have z4:lZ r_.missing:=okl_len hk.1.2.2.2.2.2.1
 have z5:lZ u_:=ok_len hk.2.1
 have z6:lZ v_:=ok_len hk.2.2.1
 unfold zq49 at h
 conv=>whnf
 refine Side.mk ⟨rfl,rfl,trivial⟩ ?_
 conv=>whnf
 obtain ⟨c51,hc51,h⟩:=bind_some h
 refine ⟨false,[.im (nL (cL cI) c51.1)],[.box 106 [.im .any,.im .any,.im (nL (cL cI) c51.2.l.Suffixes),.im (nI c51.2.o.Inputs),.im (nL c_api_Trace c51.2.o.Traces),.ow (.row 51 1 (List.map (cL cI) c51.2.missing)),.im (nB c51.2.long)]],fun V=>(zq45 r_ u_ (V 0 0) (V 0 1) c51 (fun _ _=>hc51)),?_⟩
 conv=>whnf
 refine Side.mk ⟨rfl,rfl,trivial⟩ ?_
 conv=>whnf
 obtain ⟨c52,hc52,h⟩:=bind_some h
 refine ⟨false,[.im (nB c52.1)],[.box 106 [.im .any,.im .any,.im .any,.im .any,.im .any,.ow (.row 51 1 (List.map (cL cI) c52.2.missing)),.im (nB c52.2.long)]],fun V=>(zq39 (⟨(⟨r_.l.Inputs,r_.l.Short,c51.2.l.Suffixes⟩:T_api_Lazy),c51.2.o,c51.2.missing,c51.2.long⟩:T_lazy_reader) (V 0 0) (V 0 1) (V 0 2) (V 0 3) (V 0 4) c52 (fun _=>hc52)),?_⟩
 conv=>whnf
 refine Both.mk ?_ ?_<;>intro b53
 replace h:=cond_t b53 h
 conv=>whnf
 cases h
 conv=>whnf
 exact Side.mk ⟨rfl,rfl,trivial⟩ ⟨rfl,rfl⟩
 replace h:=cond_f b53 h
 conv=>whnf
 refine Side.mk ⟨rfl,trivial⟩ ?_
 conv=>whnf
 obtain ⟨c54,hc54,h⟩:=bind_some h
 refine ⟨true,[.im (nL cI c54.1),.im (nB c54.2.1)],[.box 106 [.im (nI c54.2.2.l.Inputs),.im (nL (cL cI) c54.2.2.l.Short),.im (nL (cL cI) c54.2.2.l.Suffixes),.im (nI c54.2.2.o.Inputs),.im (nL c_api_Trace c54.2.2.o.Traces),.im .any,.im .any]],fun V=>(zq38 (⟨(⟨r_.l.Inputs,r_.l.Short,c51.2.l.Suffixes⟩:T_api_Lazy),c51.2.o,c52.2.missing,c52.2.long⟩:T_lazy_reader) c51.1 (V 0 5) (V 0 6) c54 (fun _ _=>hc54)),?_⟩
 conv=>whnf
 refine Both.mk ?_ ?_<;>intro b55
 replace h:=cond_t b55 h
 conv=>whnf
 cases h
 conv=>whnf
 exact Side.mk ⟨rfl,rfl,trivial⟩ ⟨rfl,rfl⟩
 replace h:=cond_f b55 h
 conv=>whnf
 refine Side.mk ⟨rfl,rfl,trivial⟩ ?_
 conv=>whnf
 obtain ⟨c56,hc56,h⟩:=bind_some h
 refine ⟨false,[.im (nL cI c56.1)],[.box 106 [.im .any,.im .any,.im .any,.im (nI c56.2.o.Inputs),.im (nL c_api_Trace c56.2.o.Traces),.ow (.row 51 1 (List.map (cL cI) c56.2.missing)),.im (nB c56.2.long)]],fun V=>(zq42 (⟨c54.2.2.l,c54.2.2.o,c52.2.missing,c52.2.long⟩:T_lazy_reader) u_ v_ (V 0 0) (V 0 1) (V 0 2) c56 (fun _ _ _=>hc56)),?_⟩
 conv=>whnf
 refine Side.mk ⟨rfl,rfl,trivial⟩ ?_
 conv=>whnf
 obtain ⟨c57,hc57,h⟩:=bind_some h
 refine ⟨false,[.im (nL cI c57.1)],[.box 106 [.im .any,.im .any,.im .any,.im (nI c57.2.o.Inputs),.im (nL c_api_Trace c57.2.o.Traces),.ow (.row 51 1 (List.map (cL cI) c57.2.missing)),.im (nB c57.2.long)]],fun V=>(zq42 (⟨c54.2.2.l,c56.2.o,c56.2.missing,c56.2.long⟩:T_lazy_reader) c54.1 v_ (V 0 0) (V 0 1) (V 0 2) c57 (fun _ _ _=>hc57)),?_⟩
 conv=>whnf
 refine Side.mk ⟨rfl,rfl,trivial⟩ ?_
 conv=>whnf
 obtain ⟨c58,hc58,h⟩:=bind_some h
 refine ⟨false,[.im (nB c58.1)],[.box 106 [.im .any,.im .any,.im .any,.im .any,.im .any,.ow (.row 51 1 (List.map (cL cI) c58.2.missing)),.im (nB c58.2.long)]],fun V=>(zq39 (⟨c54.2.2.l,c57.2.o,c57.2.missing,c57.2.long⟩:T_lazy_reader) (V 0 0) (V 0 1) (V 0 2) (V 0 3) (V 0 4) c58 (fun _=>hc58)),?_⟩
 conv=>whnf
 refine Both.mk ?_ ?_<;>intro b59
 replace h:=cond_t b59 h
 conv=>whnf
 cases h
 conv=>whnf
 exact Side.mk ⟨rfl,rfl,trivial⟩ ⟨rfl,rfl⟩
 replace h:=cond_f b59 h
 conv=>whnf
 obtain ⟨c60,hc60,h⟩:=bind_some h
 refine ⟨_,(zq23 c56.1 c57.1 c60 (fun _ _=>hc60)),?_⟩
 conv=>whnf
 refine Both.mk ?_ ?_<;>intro b61
 replace h:=cond_t b61 h
 conv=>whnf
 cases h
 conv=>whnf
 exact Side.mk ⟨rfl,rfl,trivial⟩ ⟨rfl,rfl⟩
 replace h:=cond_f b61 h
 conv=>whnf
 obtain ⟨oc,hc,hk62⟩:=bind_some h
 clear h
 have h:=hc
 clear hc
 refine Cut.mkS oc (Y:=Int×List (List Int)×List (List Int)×Int×List T_api_Trace×List (List Int)×Bool×List (List Int)) (fun (y185,y186,y187,y188,y189,y190,y191,y192)=>mkSt [(0,.own 0 0 0),(13,.osl 112 1)] [(0,.box 106 7),(111,.row 51 1 (List.map (cL cI) y190)),(112,.row 51 1 (List.map (cL cI) y192))] [(0,0,.im (nI y185)),(0,1,.im (nL (cL cI) y186)),(0,2,.im (nL (cL cI) y187)),(0,3,.im (nI y188)),(0,4,.im (nL c_api_Trace y189)),(0,5,.osl 111 1),(0,6,.im (nB y191))]) (fun (y185,y186,y187,y188,y189,y190,y191,y192)=>lZ y186∧lZ y187∧lZ y189∧lZ y190∧lZ y192∧True) (by rintro ⟨y185,y186,y187,y188,y189,y190,y191,y192⟩;exact ((Holds.cel 0 1 rfl (by decide) rfl).and ((Holds.cel 0 2 rfl (by decide) rfl).and ((Holds.cel 0 4 rfl (by decide) rfl).and ((Holds.kdl 111 rfl).and ((Holds.kdl 112 rfl).and (hT))))))) ?_ ?_
 conv=>whnf
 refine Loops.iter (fun (s:Int×List (List Int)×List (List Int)×Int×List T_api_Trace×List (List Int)×Bool×List Int×List Int×List Int×List (List Int))=>zq49.s2 s.1 s.2.1 s.2.2.1 s.2.2.2.1 s.2.2.2.2.1 s.2.2.2.2.2.1 s.2.2.2.2.2.2.1 s.2.2.2.2.2.2.2.1 s.2.2.2.2.2.2.2.2.1 s.2.2.2.2.2.2.2.2.2.1 s.2.2.2.2.2.2.2.2.2.2) (fun (y227,y228,y229,y230,y231,y232,y233,u234,v235,w236,y237)=>mkSt [(0,.own 0 0 0),(1,.im (nL cI u234)),(2,.im (nL cI v235)),(9,.im (nL cI w236)),(13,.osl 112 1)] [(0,.box 106 7),(111,.row 51 1 (List.map (cL cI) y232)),(112,.row 51 1 (List.map (cL cI) y237))] [(0,0,.im (nI y227)),(0,1,.im (nL (cL cI) y228)),(0,2,.im (nL (cL cI) y229)),(0,3,.im (nI y230)),(0,4,.im (nL c_api_Trace y231)),(0,5,.osl 111 1),(0,6,.im (nB y233))]) (fun (y227,y228,y229,y230,y231,y232,y233,u234,v235,w236,y237)=>lZ u234∧lZ v235∧lZ w236∧lZ y228∧lZ y229∧lZ y231∧lZ y232∧lZ y237∧True) h (eA [(0,some 0),(111,some 2005),(112,some 50)]) (by rintro ⟨y227,y228,y229,y230,y231,y232,y233,u234,v235,w236,y237⟩;exact ((Holds.avl 1 rfl).and ((Holds.avl 2 rfl).and ((Holds.avl 9 rfl).and ((Holds.cel 0 1 rfl (by decide) rfl).and ((Holds.cel 0 2 rfl (by decide) rfl).and ((Holds.cel 0 4 rfl (by decide) rfl).and ((Holds.kdl 111 rfl).and ((Holds.kdl 112 rfl).and (hT)))))))))) ?_
 clear h
 rintro k ⟨y227,y228,y229,y230,y231,y232,y233,u234,v235,w236,y237⟩ o hp h ho272
 replace h:zq49.s2 y227 y228 y229 y230 y231 y232 y233 u234 v235 w236 y237=some o:=h
 unfold zq49.s2 at h
 obtain ⟨z307,z308,z309,z310,z311,z312,z313,z314,_⟩:=hp
 conv=>whnf
 refine Nf.mk (List.length v235) len_map ?_
 conv=>whnf
 refine Both.mk ?_ ?_<;>intro b273
 obtain ⟨h,b273d⟩:=ctd b273 h
 conv=>whnf
 obtain ⟨c274,h⟩:=chk_some h
 refine Side.mk (show (0:Int)≤(0:Int)∧(0:Int)≤1∧1≤(↑(List.length (List.map cI v235)):Int)∧(∀ e∈List.map cI v235,List.length e=1) from ⟨by omega,by first | omega | (simp only [List.length_map];omega),by first | omega | (simp only [List.length_map];omega),map_len fun _=>rfl⟩) ?_
 conv=>whnf
 refine Nf.mk (List.map cI (List.take 1 v235)) take_map ?_
 conv=>whnf
 obtain ⟨c275,hc275,h⟩:=bind_some h
 refine ⟨_,(sp_word_Join [u234,(List.take 1 v235)] c275 (fun _=>hc275)),?_⟩
 conv=>whnf
 obtain ⟨c276,h⟩:=chk_some h
 refine Side.mk (show (0:Int)≤(0:Int)∧(0:Int)≤1∧1≤(↑(List.length (List.map cI v235)):Int)∧(∀ e∈List.map cI v235,List.length e=1) from ⟨by omega,by first | omega | (simp only [List.length_map];omega),by first | omega | (simp only [List.length_map];omega),map_len fun _=>rfl⟩) ?_
 conv=>whnf
 refine Nf.mk (List.map cI (List.take 1 v235)) take_map ?_
 conv=>whnf
 obtain ⟨c277,hc277,h⟩:=bind_some h
 refine ⟨_,(sp_word_Join [w236,(List.take 1 v235)] c277 (fun _=>hc277)),?_⟩
 conv=>whnf
 obtain ⟨c278,h⟩:=chk_some h
 refine Side.mk (show (0:Int)≤1∧1≤(↑(List.length (List.map cI v235)):Int)∧(↑(List.length (List.map cI v235)):Int)≤(↑(List.length (List.map cI v235)):Int)∧(∀ e∈List.map cI v235,List.length e=1) from ⟨by omega,by first | omega | (simp only [List.length_map];omega),by first | omega | (simp only [List.length_map];omega),map_len fun _=>rfl⟩) ?_
 conv=>whnf
 refine Nf.mk (List.map cI (List.drop 1 v235)) drop_map ?_
 conv=>whnf
 refine Side.mk ⟨rfl,rfl,trivial⟩ ?_
 conv=>whnf
 obtain ⟨c279,hc279,h⟩:=bind_some h
 refine ⟨false,[.im (nL (cL cI) c279.1)],[.box 106 [.im .any,.im .any,.im (nL (cL cI) c279.2.l.Suffixes),.im (nI c279.2.o.Inputs),.im (nL c_api_Trace c279.2.o.Traces),.ow (.row 51 1 (List.map (cL cI) c279.2.missing)),.im (nB c279.2.long)]],fun V=>(zq45 (⟨(⟨y227,y228,y229⟩:T_api_Lazy),(⟨y230,y231⟩:T_api_Obs),y232,y233⟩:T_lazy_reader) c275 (V 0 0) (V 0 1) c279 (fun _ _=>hc279)),?_⟩
 conv=>whnf
 refine Side.mk ⟨rfl,rfl,trivial⟩ ?_
 conv=>whnf
 obtain ⟨c280,hc280,h⟩:=bind_some h
 refine ⟨false,[.im (nL (cL cI) c280.1)],[.box 106 [.im .any,.im .any,.im (nL (cL cI) c280.2.l.Suffixes),.im (nI c280.2.o.Inputs),.im (nL c_api_Trace c280.2.o.Traces),.ow (.row 51 1 (List.map (cL cI) c280.2.missing)),.im (nB c280.2.long)]],fun V=>(zq45 (⟨(⟨y227,y228,c279.2.l.Suffixes⟩:T_api_Lazy),c279.2.o,c279.2.missing,c279.2.long⟩:T_lazy_reader) c277 (V 0 0) (V 0 1) c280 (fun _ _=>hc280)),?_⟩
 conv=>whnf
 refine Side.mk ⟨rfl,rfl,trivial⟩ ?_
 conv=>whnf
 obtain ⟨c281,hc281,h⟩:=bind_some h
 refine ⟨false,[.im (nB c281.1)],[.box 106 [.im .any,.im .any,.im .any,.im .any,.im .any,.ow (.row 51 1 (List.map (cL cI) c281.2.missing)),.im (nB c281.2.long)]],fun V=>(zq39 (⟨(⟨y227,y228,c280.2.l.Suffixes⟩:T_api_Lazy),c280.2.o,c280.2.missing,c280.2.long⟩:T_lazy_reader) (V 0 0) (V 0 1) (V 0 2) (V 0 3) (V 0 4) c281 (fun _=>hc281)),?_⟩
 conv=>whnf
 refine Both.mk ?_ ?_<;>intro b282
 replace h:=cond_t b282 h
 conv=>whnf
 cases h
 have ho272:_=_:=ho272
 cases ho272
 replace h:some _=some _:=hk62
 cases h
 conv=>whnf
 exact Side.mk ⟨rfl,rfl,trivial⟩ ⟨rfl,rfl⟩
 replace h:=cond_f b282 h
 conv=>whnf
 obtain ⟨c283,hc283,h⟩:=bind_some h
 refine ⟨_,(sp_lazy_same c279.1 c280.1 c283 (fun _ _=>hc283)),?_⟩
 conv=>whnf
 refine Both.mk ?_ ?_<;>intro b284
 replace h:=cond_t b284 h
 conv=>whnf
 cases h
 have ho272:_=_:=ho272
 cases ho272
 replace h:some _=some _:=hk62
 cases h
 conv=>whnf
 exact Side.mk ⟨rfl,rfl,rfl,trivial⟩ ⟨rfl,rfl⟩
 replace h:=cond_f b284 h
 conv=>whnf
 refine Side.mk ⟨rfl,trivial⟩ ?_
 conv=>whnf
 obtain ⟨c285,hc285,h⟩:=bind_some h
 refine ⟨true,[.im (nL cI c285.1),.im (nB c285.2.1)],[.box 106 [.im (nI c285.2.2.l.Inputs),.im (nL (cL cI) c285.2.2.l.Short),.im (nL (cL cI) c285.2.2.l.Suffixes),.im (nI c285.2.2.o.Inputs),.im (nL c_api_Trace c285.2.2.o.Traces),.im .any,.im .any]],fun V=>(zq38 (⟨(⟨y227,y228,c280.2.l.Suffixes⟩:T_api_Lazy),c280.2.o,c281.2.missing,c281.2.long⟩:T_lazy_reader) c279.1 (V 0 5) (V 0 6) c285 (fun _ _=>hc285)),?_⟩
 conv=>whnf
 refine Both.mk ?_ ?_<;>intro b286
 replace h:=cond_t b286 h
 conv=>whnf
 cases h
 have ho272:_=_:=ho272
 cases ho272
 replace h:some _=some _:=hk62
 cases h
 conv=>whnf
 exact Side.mk ⟨rfl,rfl,trivial⟩ ⟨rfl,rfl⟩
 replace h:=cond_f b286 h
 conv=>whnf
 refine Side.mk ⟨rfl,rfl,trivial⟩ ?_
 conv=>whnf
 obtain ⟨c287,hc287,h⟩:=bind_some h
 refine ⟨false,[.im (nL cI c287.1)],[.box 106 [.im .any,.im .any,.im .any,.im (nI c287.2.o.Inputs),.im (nL c_api_Trace c287.2.o.Traces),.ow (.row 51 1 (List.map (cL cI) c287.2.missing)),.im (nB c287.2.long)]],fun V=>(zq42 (⟨c285.2.2.l,c285.2.2.o,c281.2.missing,c281.2.long⟩:T_lazy_reader) c275 (List.drop 1 v235) (V 0 0) (V 0 1) (V 0 2) c287 (fun _ _ _=>hc287)),?_⟩
 conv=>whnf
 refine Side.mk ⟨rfl,rfl,trivial⟩ ?_
 conv=>whnf
 obtain ⟨c288,hc288,h⟩:=bind_some h
 refine ⟨false,[.im (nL cI c288.1)],[.box 106 [.im .any,.im .any,.im .any,.im (nI c288.2.o.Inputs),.im (nL c_api_Trace c288.2.o.Traces),.ow (.row 51 1 (List.map (cL cI) c288.2.missing)),.im (nB c288.2.long)]],fun V=>(zq42 (⟨c285.2.2.l,c287.2.o,c287.2.missing,c287.2.long⟩:T_lazy_reader) c285.1 (List.drop 1 v235) (V 0 0) (V 0 1) (V 0 2) c288 (fun _ _ _=>hc288)),?_⟩
 conv=>whnf
 refine Side.mk ⟨rfl,rfl,trivial⟩ ?_
 conv=>whnf
 obtain ⟨c289,hc289,h⟩:=bind_some h
 refine ⟨false,[.im (nB c289.1)],[.box 106 [.im .any,.im .any,.im .any,.im .any,.im .any,.ow (.row 51 1 (List.map (cL cI) c289.2.missing)),.im (nB c289.2.long)]],fun V=>(zq39 (⟨c285.2.2.l,c288.2.o,c288.2.missing,c288.2.long⟩:T_lazy_reader) (V 0 0) (V 0 1) (V 0 2) (V 0 3) (V 0 4) c289 (fun _=>hc289)),?_⟩
 conv=>whnf
 refine Both.mk ?_ ?_<;>intro b290
 replace h:=cond_t b290 h
 conv=>whnf
 cases h
 have ho272:_=_:=ho272
 cases ho272
 replace h:some _=some _:=hk62
 cases h
 conv=>whnf
 exact Side.mk ⟨rfl,rfl,trivial⟩ ⟨rfl,rfl⟩
 replace h:=cond_f b290 h
 conv=>whnf
 obtain ⟨u295,hc,hk292⟩:=bind_some h
 clear h
 have h:=hc
 clear hc
 refine Cut.mk (mkSt [(0,.own 0 0 0),(1,.im (nL cI u295)),(13,.osl 112 1),(16,.im (nL cI (List.drop 1 v235))),(19,.im (nL cI c285.1))] [(0,.box 106 7),(111,.row 51 1 (List.map (cL cI) c289.2.missing)),(112,.row 51 1 (List.map (cL cI) y237))] [(0,0,.im (nI c285.2.2.l.Inputs)),(0,1,.im (nL (cL cI) c285.2.2.l.Short)),(0,2,.im (nL (cL cI) c285.2.2.l.Suffixes)),(0,3,.im (nI c288.2.o.Inputs)),(0,4,.im (nL c_api_Trace c288.2.o.Traces)),(0,5,.osl 111 1),(0,6,.im (nB c289.2.long))]) (lZ u295∧lZ (List.drop 1 v235)∧lZ c285.1∧lZ c285.2.2.l.Short∧lZ c285.2.2.l.Suffixes∧lZ c288.2.o.Traces∧lZ c289.2.missing∧lZ y237∧True) ((Holds.avl 1 rfl).and ((Holds.avl 16 rfl).and ((Holds.avl 19 rfl).and ((Holds.cel 0 1 rfl (by decide) rfl).and ((Holds.cel 0 2 rfl (by decide) rfl).and ((Holds.cel 0 4 rfl (by decide) rfl).and ((Holds.kdl 111 rfl).and ((Holds.kdl 112 rfl).and (hT))))))))) ?_ (fun hp=>?_)
 conv=>whnf
 obtain ⟨c296,hc296,h⟩:=bind_some h
 refine ⟨_,(zq23 c287.1 c288.1 c296 (fun _ _=>hc296)),?_⟩
 conv=>whnf
 refine Both.mk ?_ ?_<;>intro b297
 replace h:=cond_t b297 h
 conv=>whnf
 cases h
 exact Join.mk (eA [(0,some 0),(111,some 111),(112,some 112)])
 replace h:=cond_f b297 h
 conv=>whnf
 cases h
 exact Join.mk (eA [(0,some 0),(111,some 111),(112,some 112)])
 replace h:=hk292
 obtain ⟨z298,z299,z300,z301,z302,z303,z304,z305,_⟩:=hp
 conv=>whnf
 obtain ⟨c306,h⟩:=chk_some h
 refine Side.mk ⟨rfl,map_len (l:=[u295]) (c:=cL cI) fun _=>rfl,show capOk _ 24 by simpa only [List.length_map,List.length_cons,List.length_nil,Nat.zero_add] using c306⟩ ?_
 conv=>whnf
 refine Nf.mk (List.map (cL cI) (y237++[u295])) (app_map (l:=y237) (m:=[u295]) (c:=cL cI)) ?_
 conv=>whnf
 cases h
 exact Nxt.mk _ ho272 (eA [(0,some 0),(111,some 111),(112,some 112)])
 obtain ⟨h,b273d⟩:=cfd b273 h
 conv=>whnf
 cases h
 have ho272:_=_:=ho272
 cases ho272
 exact JoinS.mk' _ rfl (eA [(0,some 0),(111,some 111),(112,some 112)])
 rintro ⟨y185,y186,y187,y188,y189,y190,y191,y192⟩ rfl hp
 have hx_:=sum_inl hk62
 replace h:zq49.k3 y185 y186 y187 y188 y189 y190 y191 y192=some _:=hx_
 clear hx_
 unfold zq49.k3 at h
 obtain ⟨z315,z316,z317,z318,z319,_⟩:=hp
 conv=>whnf
 cases h
 conv=>whnf
 exact Side.mk ⟨rfl,rfl,rfl,trivial⟩ ⟨rfl,rfl⟩
theorem sp_lazy_Refine (l_:T_api_Lazy) (o_:T_api_Obs) (s_:T_api_Split) (r:T_api_Lazy×List (List Int)×Int) (h:Ok (.agg (c_api_Lazy l_))→Ok (.agg (c_api_Obs o_))→Ok (.agg (c_api_Split s_))→zq101 l_ o_ s_=some r):Sp Tryz.prog 21 [.im (.agg (c_api_Lazy l_)),.im (.agg (c_api_Obs o_)),.im (.agg (c_api_Split s_))] (.tup [.agg (c_api_Lazy r.1),nL (cL cI) r.2.1,nI r.2.2]):=by
 refine sp_of rfl [76000,700003,700004,700005,76806*1000000000+51*100+1] rfl rfl rfl (Nat.le_of_ble_eq_true rfl) rfl fun hk=>?_
 replace h:=h hk.1 hk.2.1 hk.2.2.1
 have z1:lZ l_.Short:=ok_len (Ok.agg_at hk.1 1 rfl)
 have z2:lZ l_.Suffixes:=ok_len (Ok.agg_at hk.1 2 rfl)
 have z3:lZ o_.Traces:=ok_len (Ok.agg_at hk.2.1 1 rfl)
 have z4:lZ s_.Prefix:=ok_len (Ok.agg_at hk.2.2.1 0 rfl)
 have z5:lZ s_.Suffix:=ok_len (Ok.agg_at hk.2.2.1 2 rfl)
 unfold zq101 at h
 conv=>whnf
 obtain ⟨c51,hc51,h⟩:=bind_some h
 refine ⟨_,(zq90 l_ o_ c51 (fun _ _=>hc51)),?_⟩
 conv=>whnf
 refine Both.mk ?_ ?_<;>intro b52
 obtain ⟨h,b52d⟩:=ctd b52 h
 conv=>whnf
 refine Side.mk rfl ?_
 conv=>whnf
 cases h
 conv=>whnf
 refine Side.mk ⟨rfl,trivial⟩ ?_
 conv=>whnf
 exact ⟨rfl,rfl⟩
 obtain ⟨h,b52d⟩:=cfd b52 h
 conv=>whnf
 obtain ⟨c53,hc53,h⟩:=bind_some h
 refine ⟨_,(sp_word_Check s_.Prefix l_.Inputs c53 (fun _ _=>hc53)),?_⟩
 conv=>whnf
 refine Both.mk ?_ ?_<;>intro b54
 obtain ⟨h,b54d⟩:=ctd b54 h
 conv=>whnf
 refine Side.mk rfl ?_
 conv=>whnf
 cases h
 conv=>whnf
 refine Side.mk ⟨rfl,trivial⟩ ?_
 conv=>whnf
 exact ⟨rfl,rfl⟩
 obtain ⟨h,b54d⟩:=cfd b54 h
 conv=>whnf
 obtain ⟨y58,hc,hk56⟩:=bind_some h
 clear h
 have h:=hc
 clear hc
 refine Cut.mk (mkSt [(3,.im (.ref (c_api_Lazy l_))),(4,.im (.ref (c_api_Obs o_))),(5,.im (.ref (c_api_Split s_))),(6,.own 123 1 0),(44,.im (nB y58))] [(123,.box 24 3)] [(123,0,.im (nI 0)),(123,1,.im (.val (.slice none 0 0))),(123,2,.im (.val (.slice none 0 0)))]) (True) (hT) ?_ (fun hp=>?_)
 conv=>whnf
 refine Both.mk ?_ ?_<;>intro b59
 replace b59:=beq_ff b59
 obtain ⟨h,b59d⟩:=cfd b59 h
 conv=>whnf
 iterate 4 (refine Both.yes (ff_beq b59) ?_;(conv=>whnf))
 refine Both.no b59 ?_
 conv=>whnf
 cases h
 exact Join.mk (eA [(123,some 6)])
 replace b59:=beq_ft b59
 obtain ⟨h,b59d⟩:=ctd b59 h
 conv=>whnf
 iterate 4 (refine Both.no (tf_beq b59) ?_;(conv=>whnf))
 refine Both.yes b59 ?_
 conv=>whnf
 cases h
 exact Join.mk (eA [(123,some 6)])
 replace h:=hk56
 conv=>whnf
 refine Both.mk ?_ ?_<;>intro b60
 replace h:=cond_t b60 h
 conv=>whnf
 refine Side.mk rfl ?_
 conv=>whnf
 cases h
 conv=>whnf
 refine Side.mk ⟨rfl,trivial⟩ ?_
 conv=>whnf
 exact ⟨rfl,rfl⟩
 replace h:=cond_f b60 h
 conv=>whnf
 refine Nf.mk (List.length s_.Suffix) len_map ?_
 conv=>whnf
 refine Both.mk ?_ ?_<;>intro b61
 obtain ⟨h,b61d⟩:=ctd b61 h
 conv=>whnf
 refine Side.mk rfl ?_
 conv=>whnf
 cases h
 conv=>whnf
 refine Side.mk ⟨rfl,trivial⟩ ?_
 conv=>whnf
 exact ⟨rfl,rfl⟩
 obtain ⟨h,b61d⟩:=cfd b61 h
 conv=>whnf
 obtain ⟨c62,hc62,h⟩:=bind_some h
 refine ⟨_,(sp_word_Check s_.Suffix l_.Inputs c62 (fun _ _=>hc62)),?_⟩
 conv=>whnf
 refine Both.mk ?_ ?_<;>intro b63
 obtain ⟨h,b63d⟩:=ctd b63 h
 conv=>whnf
 refine Side.mk rfl ?_
 conv=>whnf
 cases h
 conv=>whnf
 refine Side.mk ⟨rfl,trivial⟩ ?_
 conv=>whnf
 exact ⟨rfl,rfl⟩
 obtain ⟨h,b63d⟩:=cfd b63 h
 conv=>whnf
 obtain ⟨c64,hc64,h⟩:=bind_some h
 refine ⟨_,(sp_word_Join [s_.Prefix,[s_.Symbol]] c64 (fun _=>hc64)),?_⟩
 conv=>whnf
 refine Side.mk ⟨rfl,trivial⟩ ?_
 conv=>whnf
 obtain ⟨c65,hc65,h⟩:=bind_some h
 refine ⟨_,(zq36 (⟨l_,o_,[],false⟩:T_lazy_reader) c64 s_.Suffix c65 (fun _ _ _=>hc65)),?_⟩
 conv=>whnf
 refine Side.mk rfl ?_
 conv=>whnf
 refine Side.mk rfl ?_
 conv=>whnf
 refine Side.mk rfl ?_
 conv=>whnf
 refine Both.mk ?_ ?_<;>intro b66
 replace h:=cond_t b66 h
 conv=>whnf
 refine Side.mk rfl ?_
 conv=>whnf
 cases h
 conv=>whnf
 refine Side.mk ⟨rfl,trivial⟩ ?_
 conv=>whnf
 exact ⟨rfl,rfl⟩
 replace h:=cond_f b66 h
 conv=>whnf
 refine Both.mk ?_ ?_<;>intro b67
 obtain ⟨h,b67d⟩:=ctd b67 h
 conv=>whnf
 refine Side.mk rfl ?_
 conv=>whnf
 cases h
 conv=>whnf
 refine Side.mk ⟨rfl,trivial⟩ ?_
 conv=>whnf
 exact ⟨rfl,rfl⟩
 obtain ⟨h,b67d⟩:=cfd b67 h
 conv=>whnf
 refine Side.mk rfl ?_
 conv=>whnf
 refine Side.mk rfl ?_
 conv=>whnf
 refine Side.mk rfl ?_
 conv=>whnf
 refine Side.mk rfl ?_
 conv=>whnf
 refine Nf.mk (List.length c65.2.2.missing) len_map ?_
 conv=>whnf
 refine Both.mk ?_ ?_<;>intro b68
 obtain ⟨h,b68d⟩:=ctd b68 h
 conv=>whnf
 refine Side.mk rfl ?_
 conv=>whnf
 refine Side.mk rfl ?_
 conv=>whnf
 refine Side.mk rfl ?_
 conv=>whnf
 refine Side.mk ⟨rfl,trivial⟩ ?_
 conv=>whnf
 obtain ⟨c69,hc69,h⟩:=bind_some h
 refine ⟨_,(zq47 c65.2.2.missing c69 (fun _=>hc69)),?_⟩
 conv=>whnf
 refine Side.mk rfl ?_
 conv=>whnf
 cases h
 conv=>whnf
 refine Side.mk ⟨rfl,trivial⟩ ?_
 conv=>whnf
 exact ⟨rfl,rfl⟩
 obtain ⟨h,b68d⟩:=cfd b68 h
 conv=>whnf
 refine Side.mk rfl ?_
 conv=>whnf
 refine Nf.mk (List.length c65.1) len_map ?_
 conv=>whnf
 obtain ⟨y86,hc,hk70⟩:=bind_some h
 clear h
 have h:=hc
 clear hc
 refine Cut.mk (mkSt [(3,.im (.ref (c_api_Lazy l_))),(6,.own 123 1 0),(15,.own 124 1 0)] [(123,.box 24 3),(124,.box 24 3)] [(123,0,.im (nI 0)),(123,1,.im (.val (.slice none 0 0))),(123,2,.im (.val (.slice none 0 0))),(124,0,.im (nI l_.Inputs)),(124,1,.im (nL (cL cI) y86)),(124,2,.im (nL (cL cI) l_.Suffixes))]) (lZ y86∧lZ l_.Suffixes∧True) ((Holds.cel 124 1 rfl (by decide) rfl).and ((Holds.cel 124 2 rfl (by decide) rfl).and (hT))) ?_ (fun hp=>?_)
 conv=>whnf
 refine Loops.iter (fun (s:List (List Int)×Nat)=>zq101.s2 c65 s.1 s.2) (fun (y90,y91)=>mkSt [(3,.im (.ref (c_api_Lazy l_))),(6,.own 123 1 0),(15,.own 124 1 0),(103,.im (nL (cL cI) c65.1)),(104,.im (nI (↑(List.length c65.1):Int))),(105,.im (nI (↑y91:Int)))] [(123,.box 24 3),(124,.box 24 3)] [(123,0,.im (nI 0)),(123,1,.im (.val (.slice none 0 0))),(123,2,.im (.val (.slice none 0 0))),(124,0,.im (nI l_.Inputs)),(124,1,.im (nL (cL cI) y90)),(124,2,.im (nL (cL cI) l_.Suffixes))]) (fun (y90,y91)=>lZ c65.1∧lZ y90∧lZ l_.Suffixes∧True) h (eA [(123,some 123),(124,some 15)]) (by rintro ⟨y90,y91⟩;exact ((Holds.avl 103 rfl).and ((Holds.cel 124 1 rfl (by decide) rfl).and ((Holds.cel 124 2 rfl (by decide) rfl).and (hT))))) ?_
 clear h
 rintro k ⟨y90,y91⟩ o hp h ho95
 replace h:zq101.s2 c65 y90 y91=some o:=h
 unfold zq101.s2 at h
 obtain ⟨z99,z100,z101,_⟩:=hp
 conv=>whnf
 refine Both.mk ?_ ?_<;>intro b96
 obtain ⟨h,b96d⟩:=ctd b96 h
 conv=>whnf
 obtain ⟨e97,he97,h⟩:=idxn_some h
 refine ⟨_,⟨(by omega),map_at he97,rfl⟩,?_⟩
 conv=>whnf
 refine Side.mk rfl ?_
 conv=>whnf
 refine Side.mk rfl ?_
 conv=>whnf
 obtain ⟨c98,hc98,h⟩:=bind_some h
 refine ⟨_,(zq97 y90 e97 c98 (fun _ _=>hc98)),?_⟩
 conv=>whnf
 refine Side.mk rfl ?_
 conv=>whnf
 refine Side.mk rfl ?_
 conv=>whnf
 refine Arith.mk (by show inR _;unfold inR;omega) ?_
 conv=>whnf
 cases h
 exact Nxt.mk _ ho95 (eA [(123,some 123),(124,some 124)])
 obtain ⟨h,b96d⟩:=cfd b96 h
 conv=>whnf
 cases h
 have ho95:_=_:=ho95
 cases ho95
 exact Join.mk (eA [(123,some 123),(124,some 124)])
 replace h:=hk70
 obtain ⟨z102,z103,_⟩:=hp
 conv=>whnf
 refine Side.mk rfl ?_
 conv=>whnf
 obtain ⟨c104,hc104,h⟩:=bind_some h
 refine ⟨_,(zq87 (⟨l_.Inputs,y86,l_.Suffixes⟩:T_api_Lazy) c104 (fun _=>hc104)),?_⟩
 conv=>whnf
 refine Both.mk ?_ ?_<;>intro b105
 obtain ⟨h,b105d⟩:=ctd b105 h
 conv=>whnf
 refine Side.mk rfl ?_
 conv=>whnf
 cases h
 conv=>whnf
 refine Side.mk ⟨rfl,trivial⟩ ?_
 conv=>whnf
 exact ⟨rfl,rfl⟩
 obtain ⟨h,b105d⟩:=cfd b105 h
 conv=>whnf
 refine Side.mk rfl ?_
 conv=>whnf
 obtain ⟨c106,hc106,h⟩:=bind_some h
 refine ⟨_,(sp_lazy_fresh (⟨l_.Inputs,y86,l_.Suffixes⟩:T_api_Lazy) c106 (fun _=>hc106)),?_⟩
 conv=>whnf
 refine Side.mk rfl ?_
 conv=>whnf
 cases h
 conv=>whnf
 refine Side.mk ⟨rfl,trivial⟩ ?_
 conv=>whnf
 exact ⟨rfl,rfl⟩
theorem sp_table_Hypothesis (t_:T_api_Table) (o_:T_api_Obs) (r:T_api_Hyp×Int) (h:Ok (.agg (c_api_Table t_))→Ok (.agg (c_api_Obs o_))→zq69 t_ o_=some r):Sp Tryz.prog 55 [.im (.agg (c_api_Table t_)),.im (.agg (c_api_Obs o_))] (.tup [.agg (c_api_Hyp r.1),nI r.2]):=by
 refine sp_of rfl [700002,700003] rfl rfl rfl (Nat.le_of_ble_eq_true rfl) rfl fun hk=>?_
 replace h:=h hk.1 hk.2.1
 have z1:lZ t_.Prefixes:=ok_len (Ok.agg_at hk.1 1 rfl)
 have z2:lZ t_.Suffixes:=ok_len (Ok.agg_at hk.1 2 rfl)
 have z3:lZ o_.Traces:=ok_len (Ok.agg_at hk.2.1 1 rfl)
 unfold zq69 at h
 conv=>whnf
 obtain ⟨c51,hc51,h⟩:=bind_some h
 refine ⟨_,(zq89 t_ o_ c51 (fun _ _=>hc51)),?_⟩
 conv=>whnf
 refine Side.mk rfl ?_
 conv=>whnf
 refine Both.mk ?_ ?_<;>intro b52
 obtain ⟨h,b52d⟩:=ctd b52 h
 conv=>whnf
 refine Side.mk rfl ?_
 conv=>whnf
 cases h
 conv=>whnf
 refine Side.mk ⟨rfl,trivial⟩ ?_
 conv=>whnf
 exact ⟨rfl,rfl⟩
 obtain ⟨h,b52d⟩:=cfd b52 h
 conv=>whnf
 refine Side.mk rfl ?_
 conv=>whnf
 obtain ⟨c53,hc53,h⟩:=bind_some h
 refine ⟨_,(zq29 c51.1 c53 (fun _=>hc53)),?_⟩
 conv=>whnf
 refine Side.mk rfl ?_
 conv=>whnf
 obtain ⟨c54,hc54,h⟩:=bind_some h
 refine ⟨_,(zq19 c51.1 c54 (fun _=>hc54)),?_⟩
 conv=>whnf
 obtain ⟨y58,hc,hk56⟩:=bind_some h
 clear h
 have h:=hc
 clear hc
 refine Cut.mk (mkSt [(2,.im (.ref (c_api_Table t_))),(4,.own 121 1 0),(6,.own 122 1 0),(44,.im (nB y58))] [(121,.box 45 5),(122,.box 154 4)] [(121,0,.im (nI 0)),(121,1,.im (nI 0)),(121,2,.im (.val (.slice none 0 0))),(121,3,.im (.val (.slice none 0 0))),(121,4,.im (.val (.slice none 0 0))),(122,0,.im (nL (cL (cL cI)) c51.1.rows)),(122,1,.im (nL cI c51.1.prefixes)),(122,2,.im (nL (cL cI) c51.1.next)),(122,3,.im (.any))]) (lZ c51.1.rows∧lZ c51.1.prefixes∧lZ c51.1.next∧True) ((Holds.cel 122 0 rfl (by decide) rfl).and ((Holds.cel 122 1 rfl (by decide) rfl).and ((Holds.cel 122 2 rfl (by decide) rfl).and (hT)))) ?_ (fun hp=>?_)
 conv=>whnf
 refine Both.mk ?_ ?_<;>intro b59
 replace b59:=beq_ff b59
 replace h:=cond_f b59 h
 conv=>whnf
 refine Both.no b59 ?_
 conv=>whnf
 cases h
 exact Join.mk (eA [(121,some 4),(122,some 6)])
 replace b59:=beq_ft b59
 replace h:=cond_t b59 h
 conv=>whnf
 refine Both.yes b59 ?_
 conv=>whnf
 cases h
 exact Join.mk (eA [(121,some 4),(122,some 6)])
 replace h:=hk56
 obtain ⟨z60,z61,z62,_⟩:=hp
 conv=>whnf
 refine Both.mk ?_ ?_<;>intro b63
 replace h:=cond_t b63 h
 conv=>whnf
 refine Side.mk rfl ?_
 conv=>whnf
 cases h
 conv=>whnf
 refine Side.mk ⟨rfl,trivial⟩ ?_
 conv=>whnf
 exact ⟨rfl,rfl⟩
 replace h:=cond_f b63 h
 conv=>whnf
 refine Side.mk rfl ?_
 conv=>whnf
 refine Side.mk rfl ?_
 conv=>whnf
 refine Nf.mk (List.length c51.1.rows) len_map ?_
 conv=>whnf
 refine Both.mk ?_ ?_<;>intro b64
 obtain ⟨h,b64d⟩:=ctd b64 h
 conv=>whnf
 refine Side.mk rfl ?_
 conv=>whnf
 cases h
 conv=>whnf
 refine Side.mk ⟨rfl,trivial⟩ ?_
 conv=>whnf
 exact ⟨rfl,rfl⟩
 obtain ⟨h,b64d⟩:=cfd b64 h
 conv=>whnf
 refine Side.mk rfl ?_
 conv=>whnf
 refine Side.mk rfl ?_
 conv=>whnf
 refine Side.mk rfl ?_
 conv=>whnf
 refine Nf.mk (List.length c51.1.prefixes) len_map ?_
 conv=>whnf
 obtain ⟨⟨y506,y507,y508⟩,hc,hk65⟩:=bind_some h
 clear h
 have h:=hc
 clear hc
 refine Cut.mk (mkSt [(4,.own 121 1 0),(14,.own 122 1 0)] [(121,.box 45 5),(122,.box 45 5),(123,.row 51 1 (List.map (cL cI) y506)),(124,.row 51 1 (List.map (cL cI) y507)),(125,.row 51 1 (List.map (cL cI) y508))] [(121,0,.im (nI 0)),(121,1,.im (nI 0)),(121,2,.im (.val (.slice none 0 0))),(121,3,.im (.val (.slice none 0 0))),(121,4,.im (.val (.slice none 0 0))),(122,0,.im (nI t_.Inputs)),(122,1,.im (nI 0)),(122,2,.osl 123 1),(122,3,.osl 124 1),(122,4,.osl 125 1)]) (lZ y506∧lZ y507∧lZ y508∧True) ((Holds.kdl 123 rfl).and ((Holds.kdl 124 rfl).and ((Holds.kdl 125 rfl).and (hT)))) ?_ (fun hp=>?_)
 conv=>whnf
 refine Loops.iter (fun (s:List (List Int)×List (List Int)×List (List Int)×Nat)=>zq69.s32 t_ c51 s.1 s.2.1 s.2.2.1 s.2.2.2) (fun (y636,y637,y638,y639)=>mkSt [(2,.im (.ref (c_api_Table t_))),(4,.own 121 1 0),(6,.own 122 1 0),(14,.own 123 1 0),(56,.im (nL cI c51.1.prefixes)),(57,.im (nI (↑(List.length c51.1.prefixes):Int))),(58,.im (nI (↑y639:Int)))] [(121,.box 45 5),(122,.box 154 4),(123,.box 45 5),(124,.row 51 1 (List.map (cL cI) y636)),(125,.row 51 1 (List.map (cL cI) y637)),(126,.row 51 1 (List.map (cL cI) y638))] [(121,0,.im (nI 0)),(121,1,.im (nI 0)),(121,2,.im (.val (.slice none 0 0))),(121,3,.im (.val (.slice none 0 0))),(121,4,.im (.val (.slice none 0 0))),(122,0,.im (nL (cL (cL cI)) c51.1.rows)),(122,1,.im (nL cI c51.1.prefixes)),(122,2,.im (nL (cL cI) c51.1.next)),(122,3,.im (.any)),(123,0,.im (nI t_.Inputs)),(123,1,.im (nI 0)),(123,2,.osl 124 1),(123,3,.osl 125 1),(123,4,.osl 126 1)]) (fun (y636,y637,y638,y639)=>lZ c51.1.prefixes∧lZ c51.1.rows∧lZ c51.1.next∧lZ y636∧lZ y637∧lZ y638∧True) h (Ent.mk [(121,some 121),(122,some 122),(123,some 14),(124,none),(125,none),(126,none)] rfl ⟨eI rfl rfl,⟨.own 121 _ 0,rfl,.own rfl rfl rfl⟩,⟨.own 122 _ 0,rfl,.own rfl rfl rfl⟩,⟨.own 14 _ 0,rfl,.own rfl rfl rfl⟩,eI rfl rfl,eI rfl rfl,eI rfl rfl,trivial⟩ ⟨.inl ⟨121,rfl,rfl,trivial⟩,.inl ⟨122,rfl,rfl,trivial⟩,.inl ⟨14,rfl,rfl,trivial⟩,.inr ⟨rfl,rfl,.inl ⟨_,_,rfl,by decide⟩⟩,.inr ⟨rfl,rfl,.inl ⟨_,_,rfl,by decide⟩⟩,.inr ⟨rfl,rfl,.inl ⟨_,_,rfl,by decide⟩⟩,trivial⟩ ⟨⟨121,.im _,rfl,rfl,.im (Sub.rfl' rfl)⟩,⟨121,.im _,rfl,rfl,.im (Sub.rfl' rfl)⟩,⟨121,.im (.val (.slice none 0 0)),rfl,rfl,.im (Sub.rfl' rfl)⟩,⟨121,.im (.val (.slice none 0 0)),rfl,rfl,.im (Sub.rfl' rfl)⟩,⟨121,.im (.val (.slice none 0 0)),rfl,rfl,.im (Sub.rfl' rfl)⟩,⟨122,.im _,rfl,rfl,.im (Sub.rfl' rfl)⟩,⟨122,.im _,rfl,rfl,.im (Sub.rfl' rfl)⟩,⟨122,.im _,rfl,rfl,.im (Sub.rfl' rfl)⟩,⟨122,.im _,rfl,rfl,.im (Sub.rfl' rfl)⟩,⟨14,.im _,rfl,rfl,.im (Sub.rfl' rfl)⟩,⟨14,.im _,rfl,rfl,.im (Sub.rfl' rfl)⟩,⟨14,.im (.val (.slice none 0 0)),rfl,rfl,.made rfl rfl⟩,⟨14,.im (.val (.slice none 0 0)),rfl,rfl,.made rfl rfl⟩,⟨14,.im (.val (.slice none 0 0)),rfl,rfl,.made rfl rfl⟩,trivial⟩) (by rintro ⟨y636,y637,y638,y639⟩;exact ((Holds.avl 56 rfl).and ((Holds.cel 122 0 rfl (by decide) rfl).and ((Holds.cel 122 2 rfl (by decide) rfl).and ((Holds.kdl 124 rfl).and ((Holds.kdl 125 rfl).and ((Holds.kdl 126 rfl).and (hT)))))))) ?_
 clear h
 rintro k ⟨y636,y637,y638,y639⟩ o hp h ho791
 replace h:zq69.s32 t_ c51 y636 y637 y638 y639=some o:=h
 unfold zq69.s32 at h
 obtain ⟨z943,z944,z945,z946,z947,z948,_⟩:=hp
 conv=>whnf
 refine Both.mk ?_ ?_<;>intro b792
 obtain ⟨h,b792d⟩:=ctd b792 h
 conv=>whnf
 obtain ⟨⟨y864,y865,y866⟩,hc,hk793⟩:=bind_some h
 clear h
 have h:=hc
 clear hc
 refine Cut.mk (mkSt [(2,.im (.ref (c_api_Table t_))),(4,.own 121 1 0),(6,.own 122 1 0),(14,.own 123 1 0),(56,.im (nL cI c51.1.prefixes)),(57,.im (nI (↑(List.length c51.1.prefixes):Int))),(58,.im (nI (↑y639:Int)))] [(121,.box 45 5),(122,.box 154 4),(123,.box 45 5),(124,.row 51 1 (List.map (cL cI) y864)),(125,.row 51 1 (List.map (cL cI) y865)),(126,.row 51 1 (List.map (cL cI) y866))] [(121,0,.im (nI 0)),(121,1,.im (nI 0)),(121,2,.im (.val (.slice none 0 0))),(121,3,.im (.val (.slice none 0 0))),(121,4,.im (.val (.slice none 0 0))),(122,0,.im (nL (cL (cL cI)) c51.1.rows)),(122,1,.im (nL cI c51.1.prefixes)),(122,2,.im (nL (cL cI) c51.1.next)),(122,3,.im (.any)),(123,0,.im (nI t_.Inputs)),(123,1,.im (nI 0)),(123,2,.osl 124 1),(123,3,.osl 125 1),(123,4,.osl 126 1)]) (lZ c51.1.prefixes∧lZ c51.1.rows∧lZ c51.1.next∧lZ y864∧lZ y865∧lZ y866∧True) ((Holds.avl 56 rfl).and ((Holds.cel 122 0 rfl (by decide) rfl).and ((Holds.cel 122 2 rfl (by decide) rfl).and ((Holds.kdl 124 rfl).and ((Holds.kdl 125 rfl).and ((Holds.kdl 126 rfl).and (hT))))))) ?_ (fun hp=>?_)
 conv=>whnf
 obtain ⟨e867,he867,h⟩:=idxn_some h
 refine ⟨_,⟨(by omega),map_at he867,rfl⟩,?_⟩
 conv=>whnf
 refine Side.mk rfl ?_
 conv=>whnf
 refine Side.mk rfl ?_
 conv=>whnf
 refine Side.mk rfl ?_
 conv=>whnf
 refine Nf.mk (List.length y638) len_map ?_
 conv=>whnf
 refine Both.mk ?_ ?_<;>intro b868
 obtain ⟨h,b868d⟩:=ctd b868 h
 conv=>whnf
 cases h
 exact Join.mk (eA [(121,some 121),(122,some 122),(123,some 123),(124,some 124),(125,some 125),(126,some 126)])
 obtain ⟨h,b868d⟩:=cfd b868 h
 conv=>whnf
 obtain ⟨y896,hc,hk869⟩:=bind_some h
 clear h
 have h:=hc
 clear hc
 refine Cut.mk (mkSt [(2,.im (.ref (c_api_Table t_))),(4,.own 121 1 0),(6,.own 122 1 0),(14,.own 123 1 0),(15,.im (nI (↑y639:Int))),(17,.osl 127 1),(56,.im (nL cI c51.1.prefixes)),(57,.im (nI (↑(List.length c51.1.prefixes):Int))),(58,.im (nI (↑y639:Int)))] [(121,.box 45 5),(122,.box 154 4),(123,.box 45 5),(124,.row 51 1 (List.map (cL cI) y636)),(125,.row 51 1 (List.map (cL cI) y637)),(126,.row 51 1 (List.map (cL cI) y638)),(127,.row 3 1 (List.map cI y896))] [(121,0,.im (nI 0)),(121,1,.im (nI 0)),(121,2,.im (.val (.slice none 0 0))),(121,3,.im (.val (.slice none 0 0))),(121,4,.im (.val (.slice none 0 0))),(122,0,.im (nL (cL (cL cI)) c51.1.rows)),(122,1,.im (nL cI c51.1.prefixes)),(122,2,.im (nL (cL cI) c51.1.next)),(122,3,.im (.any)),(123,0,.im (nI t_.Inputs)),(123,1,.im (nI 0)),(123,2,.osl 124 1),(123,3,.osl 125 1),(123,4,.osl 126 1)]) (lZ c51.1.prefixes∧lZ c51.1.rows∧lZ c51.1.next∧lZ y636∧lZ y637∧lZ y638∧lZ y896∧True) ((Holds.avl 56 rfl).and ((Holds.cel 122 0 rfl (by decide) rfl).and ((Holds.cel 122 2 rfl (by decide) rfl).and ((Holds.kdl 124 rfl).and ((Holds.kdl 125 rfl).and ((Holds.kdl 126 rfl).and ((Holds.kdl 127 rfl).and (hT)))))))) ?_ (fun hp=>?_)
 conv=>whnf
 refine Loops.iter (fun (s:List Int×Nat)=>zq69.s30 t_ c51 e867 s.1 s.2) (fun (y901,y902)=>mkSt [(2,.im (.ref (c_api_Table t_))),(4,.own 121 1 0),(6,.own 122 1 0),(14,.own 123 1 0),(15,.im (nI (↑y639:Int))),(16,.im (nI e867)),(17,.osl 127 1),(56,.im (nL cI c51.1.prefixes)),(57,.im (nI (↑(List.length c51.1.prefixes):Int))),(58,.im (nI (↑y639:Int))),(69,.im (nI t_.Inputs)),(70,.im (nI (↑y902:Int)))] [(121,.box 45 5),(122,.box 154 4),(123,.box 45 5),(124,.row 51 1 (List.map (cL cI) y636)),(125,.row 51 1 (List.map (cL cI) y637)),(126,.row 51 1 (List.map (cL cI) y638)),(127,.row 3 1 (List.map cI y901))] [(121,0,.im (nI 0)),(121,1,.im (nI 0)),(121,2,.im (.val (.slice none 0 0))),(121,3,.im (.val (.slice none 0 0))),(121,4,.im (.val (.slice none 0 0))),(122,0,.im (nL (cL (cL cI)) c51.1.rows)),(122,1,.im (nL cI c51.1.prefixes)),(122,2,.im (nL (cL cI) c51.1.next)),(122,3,.im (.any)),(123,0,.im (nI t_.Inputs)),(123,1,.im (nI 0)),(123,2,.osl 124 1),(123,3,.osl 125 1),(123,4,.osl 126 1)]) (fun (y901,y902)=>lZ c51.1.prefixes∧lZ c51.1.rows∧lZ c51.1.next∧lZ y636∧lZ y637∧lZ y638∧lZ y901∧True) h (eA [(121,some 121),(122,some 122),(123,some 123),(124,some 124),(125,some 125),(126,some 126),(127,none)]) (by rintro ⟨y901,y902⟩;exact ((Holds.avl 56 rfl).and ((Holds.cel 122 0 rfl (by decide) rfl).and ((Holds.cel 122 2 rfl (by decide) rfl).and ((Holds.kdl 124 rfl).and ((Holds.kdl 125 rfl).and ((Holds.kdl 126 rfl).and ((Holds.kdl 127 rfl).and (hT))))))))) ?_
 clear h
 rintro k ⟨y901,y902⟩ o hp h ho909
 replace h:zq69.s30 t_ c51 e867 y901 y902=some o:=h
 unfold zq69.s30 at h
 obtain ⟨z916,z917,z918,z919,z920,z921,z922,_⟩:=hp
 conv=>whnf
 refine Both.mk ?_ ?_<;>intro b910
 obtain ⟨h,b910d⟩:=ctd b910 h
 conv=>whnf
 refine Side.mk rfl ?_
 conv=>whnf
 refine Side.mk rfl ?_
 conv=>whnf
 obtain ⟨e911,he911z,he911,h⟩:=idx_some h
 refine ⟨_,⟨he911z,map_at he911,rfl⟩,?_⟩
 conv=>whnf
 obtain ⟨e912,he912,h⟩:=idxn_some h
 refine ⟨_,⟨(by omega),map_at he912,rfl⟩,?_⟩
 conv=>whnf
 obtain ⟨e913,he913,h⟩:=idxn_some h
 refine ⟨_,⟨(by omega),map_at he913,rfl⟩,?_⟩
 conv=>whnf
 obtain ⟨c914,h⟩:=chk_some h
 refine Side.mk ⟨rfl,map_len (l:=[e913]) (c:=cI) fun _=>rfl,show capOk _ 8 by simpa only [List.length_map,List.length_cons,List.length_nil,Nat.zero_add] using c914⟩ ?_
 conv=>whnf
 refine Nf.mk (List.map cI (y901++[e913])) (app_map (l:=y901) (m:=[e913]) (c:=cI)) ?_
 conv=>whnf
 obtain ⟨c915,h⟩:=chk_some h
 refine Arith.mk c915 ?_
 conv=>whnf
 cases h
 exact Nxt.mk _ ho909 (eA [(121,some 121),(122,some 122),(123,some 123),(124,some 124),(125,some 125),(126,some 126),(127,some 127)])
 obtain ⟨h,b910d⟩:=cfd b910 h
 conv=>whnf
 cases h
 have ho909:_=_:=ho909
 cases ho909
 exact Join.mk (eA [(121,some 121),(122,some 122),(123,some 123),(124,some 124),(125,some 125),(126,some 126),(127,some 127)])
 replace h:=hk869
 obtain ⟨z923,z924,z925,z926,z927,z928,z929,_⟩:=hp
 conv=>whnf
 refine Side.mk rfl ?_
 conv=>whnf
 refine Side.mk rfl ?_
 conv=>whnf
 refine Side.mk rfl ?_
 conv=>whnf
 refine Side.mk rfl ?_
 conv=>whnf
 refine Side.mk rfl ?_
 conv=>whnf
 obtain ⟨e930,he930,h⟩:=idxn_some h
 refine ⟨_,⟨(by omega),map_at he930,rfl⟩,?_⟩
 conv=>whnf
 obtain ⟨c931,hc931,h⟩:=bind_some h
 refine ⟨_,(sp_lib_Clone_int e930 c931 (hc931)).im,?_⟩
 conv=>whnf
 obtain ⟨c932,h⟩:=chk_some h
 refine Side.mk ⟨rfl,map_len (l:=[c931]) (c:=cL cI) fun _=>rfl,show capOk _ 24 by simpa only [List.length_map,List.length_cons,List.length_nil,Nat.zero_add] using c932⟩ ?_
 conv=>whnf
 refine Nf.mk (List.map (cL cI) (y636++[c931])) (app_map (l:=y636) (m:=[c931]) (c:=cL cI)) ?_
 conv=>whnf
 refine Side.mk rfl ?_
 conv=>whnf
 refine Side.mk rfl ?_
 conv=>whnf
 refine Side.mk rfl ?_
 conv=>whnf
 refine Side.mk rfl ?_
 conv=>whnf
 refine Side.mk rfl ?_
 conv=>whnf
 refine Side.mk rfl ?_
 conv=>whnf
 refine Side.mk ⟨rfl,trivial⟩ ?_
 conv=>whnf
 obtain ⟨c933,h⟩:=chk_some h
 refine Side.mk ⟨rfl,map_len (l:=[y896]) (c:=cL cI) fun _=>rfl,show capOk _ 24 by simpa only [List.length_map,List.length_cons,List.length_nil,Nat.zero_add] using c933⟩ ?_
 conv=>whnf
 refine Nf.mk (List.map (cL cI) (y637++[y896])) (app_map (l:=y637) (m:=[y896]) (c:=cL cI)) ?_
 conv=>whnf
 refine Side.mk rfl ?_
 conv=>whnf
 refine Side.mk rfl ?_
 conv=>whnf
 refine Side.mk rfl ?_
 conv=>whnf
 refine Side.mk rfl ?_
 conv=>whnf
 refine Side.mk rfl ?_
 conv=>whnf
 obtain ⟨e934,he934,h⟩:=idxn_some h
 refine ⟨_,⟨(by omega),map_at he934,rfl⟩,?_⟩
 conv=>whnf
 obtain ⟨c935,hc935,h⟩:=bind_some h
 refine ⟨_,(sp_lib_Clone_int e934 c935 (hc935)).im,?_⟩
 conv=>whnf
 obtain ⟨c936,h⟩:=chk_some h
 refine Side.mk ⟨rfl,map_len (l:=[c935]) (c:=cL cI) fun _=>rfl,show capOk _ 24 by simpa only [List.length_map,List.length_cons,List.length_nil,Nat.zero_add] using c936⟩ ?_
 conv=>whnf
 refine Nf.mk (List.map (cL cI) (y638++[c935])) (app_map (l:=y638) (m:=[c935]) (c:=cL cI)) ?_
 conv=>whnf
 refine Side.mk rfl ?_
 conv=>whnf
 refine Side.mk rfl ?_
 conv=>whnf
 cases h
 exact Join.mk (eA [(121,some 121),(122,some 122),(123,some 123),(124,some 124),(125,some 125),(126,some 126)])
 replace h:zq69.k31 y639 y864 y865 y866=some _:=hk793
 unfold zq69.k31 at h
 obtain ⟨z937,z938,z939,z940,z941,z942,_⟩:=hp
 conv=>whnf
 refine Arith.mk (by show inR _;unfold inR;omega) ?_
 conv=>whnf
 cases h
 exact Nxt.mk _ ho791 (eA [(121,some 121),(122,some 122),(123,some 123),(124,some 124),(125,some 125),(126,some 126)])
 obtain ⟨h,b792d⟩:=cfd b792 h
 conv=>whnf
 cases h
 have ho791:_=_:=ho791
 cases ho791
 exact Join.mk (eA [(121,some 121),(122,some 123),(123,some 124),(124,some 125),(125,some 126)])
 replace h:zq69.k33 t_ y506 y507 y508=some _:=hk65
 unfold zq69.k33 at h
 obtain ⟨z949,z950,z951,_⟩:=hp
 conv=>whnf
 refine Side.mk rfl ?_
 conv=>whnf
 refine Side.mk rfl ?_
 conv=>whnf
 cases h
 conv=>whnf
 refine Side.mk ⟨rfl,trivial⟩ ?_
 conv=>whnf
 exact Side.mk ⟨rfl,rfl,rfl,trivial⟩ ⟨rfl,rfl⟩
theorem sp_lazy_Hypothesis (l_:T_api_Lazy) (o_:T_api_Obs) (r:T_api_Hyp×Int) (h:Ok (.agg (c_api_Lazy l_))→Ok (.agg (c_api_Obs o_))→zq70 l_ o_=some r):Sp Tryz.prog 18 [.im (.agg (c_api_Lazy l_)),.im (.agg (c_api_Obs o_))] (.tup [.agg (c_api_Hyp r.1),nI r.2]):=by
 refine sp_of rfl [700002,700003] rfl rfl rfl (Nat.le_of_ble_eq_true rfl) rfl fun hk=>?_
 replace h:=h hk.1 hk.2.1
 have z1:lZ l_.Short:=ok_len (Ok.agg_at hk.1 1 rfl)
 have z2:lZ l_.Suffixes:=ok_len (Ok.agg_at hk.1 2 rfl)
 have z3:lZ o_.Traces:=ok_len (Ok.agg_at hk.2.1 1 rfl)
 unfold zq70 at h
 conv=>whnf
 obtain ⟨c51,hc51,h⟩:=bind_some h
 refine ⟨_,(zq90 l_ o_ c51 (fun _ _=>hc51)),?_⟩
 conv=>whnf
 refine Both.mk ?_ ?_<;>intro b52
 obtain ⟨h,b52d⟩:=ctd b52 h
 conv=>whnf
 refine Side.mk rfl ?_
 conv=>whnf
 cases h
 conv=>whnf
 refine Side.mk ⟨rfl,trivial⟩ ?_
 conv=>whnf
 exact ⟨rfl,rfl⟩
 obtain ⟨h,b52d⟩:=cfd b52 h
 conv=>whnf
 obtain ⟨c53,hc53,h⟩:=bind_some h
 refine ⟨_,(zq84 l_ c53 (fun _=>hc53)),?_⟩
 conv=>whnf
 obtain ⟨c54,hc54,h⟩:=bind_some h
 refine ⟨_,(sp_table_Hypothesis c53 o_ c54 (fun _ _=>hc54)),?_⟩
 conv=>whnf
 refine Side.mk rfl ?_
 conv=>whnf
 cases h
 conv=>whnf
 refine Side.mk ⟨rfl,trivial⟩ ?_
 conv=>whnf
 exact ⟨rfl,rfl⟩
theorem sp_L28_awake (r:Bool) (h:L28_awake=some r):Sp Tryz.prog 11 [] (.im (nB r)):=by
 refine sp_of rfl [] rfl rfl rfl (Nat.le_of_ble_eq_true rfl) rfl fun hk=>?_
 unfold L28_awake at h
 conv=>whnf
 obtain ⟨c51,hc51,h⟩:=bind_some h
 refine ⟨_,(sp_lazy_New 2 c51 (fun _=>hc51)),?_⟩
 conv=>whnf
 refine Side.mk rfl ?_
 conv=>whnf
 refine Side.mk rfl ?_
 conv=>whnf
 obtain ⟨c52,hc52,h⟩:=bind_some h
 refine ⟨_,(sp_L23_Gate  c52 (hc52)),?_⟩
 conv=>whnf
 obtain ⟨c53,hc53,h⟩:=bind_some h
 refine ⟨_,(sp_lazy_Step c51.1 c52 c53 (fun _ _=>hc53)),?_⟩
 conv=>whnf
 refine Side.mk rfl ?_
 conv=>whnf
 obtain ⟨c54,hc54,h⟩:=bind_some h
 refine ⟨_,(sp_lazy_New 1 c54 (fun _=>hc54)),?_⟩
 conv=>whnf
 refine Side.mk rfl ?_
 conv=>whnf
 refine Side.mk rfl ?_
 conv=>whnf
 refine Side.mk rfl ?_
 conv=>whnf
 refine Side.mk rfl ?_
 conv=>whnf
 obtain ⟨c55,hc55,h⟩:=bind_some h
 refine ⟨_,(sp_lazy_Refine c54.1 (⟨1,[(⟨[0,0,0],[0,0,1]⟩:T_api_Trace)]⟩:T_api_Obs) (⟨[],0,[0,0]⟩:T_api_Split) c55 (fun _ _ _=>hc55)),?_⟩
 conv=>whnf
 refine Side.mk rfl ?_
 conv=>whnf
 refine Side.mk rfl ?_
 conv=>whnf
 refine Side.mk rfl ?_
 conv=>whnf
 obtain ⟨c56,hc56,h⟩:=bind_some h
 refine ⟨_,(sp_lazy_Hypothesis c54.1 (⟨1,[(⟨[0,0,0],[0,0,1]⟩:T_api_Trace)]⟩:T_api_Obs) c56 (fun _ _=>hc56)),?_⟩
 conv=>whnf
 refine Side.mk rfl ?_
 conv=>whnf
 obtain ⟨y66,hc,hk58⟩:=bind_some h
 clear h
 have h:=hc
 clear hc
 refine Cut.mk (mkSt [(3,.own 110 1 0),(10,.own 111 1 0),(13,.own 112 1 0),(81,.im (nB y66))] [(110,.box 24 3),(111,.box 24 3),(112,.box 45 5)] [(110,0,.im (nI c53.1.Inputs)),(110,1,.im (nL (cL cI) c53.1.Short)),(110,2,.im (nL (cL cI) c53.1.Suffixes)),(111,0,.im (nI c55.1.Inputs)),(111,1,.im (nL (cL cI) c55.1.Short)),(111,2,.im (nL (cL cI) c55.1.Suffixes)),(112,0,.im (nI c56.1.M.Inputs)),(112,1,.im (nI c56.1.M.Start)),(112,2,.im (nL (cL cI) c56.1.M.Next)),(112,3,.im (nL (cL cI) c56.1.M.Out)),(112,4,.im (nL (cL cI) c56.1.Access))]) (lZ c53.1.Short∧lZ c53.1.Suffixes∧lZ c55.1.Short∧lZ c55.1.Suffixes∧lZ c56.1.M.Next∧lZ c56.1.M.Out∧lZ c56.1.Access∧True) ((Holds.cel 110 1 rfl (by decide) rfl).and ((Holds.cel 110 2 rfl (by decide) rfl).and ((Holds.cel 111 1 rfl (by decide) rfl).and ((Holds.cel 111 2 rfl (by decide) rfl).and ((Holds.cel 112 2 rfl (by decide) rfl).and ((Holds.cel 112 3 rfl (by decide) rfl).and ((Holds.cel 112 4 rfl (by decide) rfl).and (hT)))))))) ?_ (fun hp=>?_)
 conv=>whnf
 refine Both.mk ?_ ?_<;>intro b67
 replace b67:=beq_ff b67
 obtain ⟨h,b67d⟩:=cfd b67 h
 conv=>whnf
 refine Both.yes (ff_beq b67) ?_
 conv=>whnf
 refine Both.no b67 ?_
 conv=>whnf
 refine Both.mk ?_ ?_<;>intro b68
 replace b68:=beq_ff b68
 obtain ⟨h,b68d⟩:=cfd b68 h
 conv=>whnf
 refine Both.yes (ff_beq b68) ?_
 conv=>whnf
 refine Both.no b68 ?_
 conv=>whnf
 refine Both.mk ?_ ?_<;>intro b69
 replace b69:=beq_ff b69
 obtain ⟨h,b69d⟩:=cfd b69 h
 conv=>whnf
 refine Both.yes (ff_beq b69) ?_
 conv=>whnf
 refine Both.no b69 ?_
 conv=>whnf
 refine Both.mk ?_ ?_<;>intro b70
 replace b70:=beq_ff b70
 obtain ⟨h,b70d⟩:=cfd b70 h
 conv=>whnf
 refine Both.yes (ff_beq b70) ?_
 conv=>whnf
 refine Both.no b70 ?_
 conv=>whnf
 refine Both.mk ?_ ?_<;>intro b71
 replace b71:=beq_ff b71
 obtain ⟨h,b71d⟩:=cfd b71 h
 conv=>whnf
 refine Both.no b71 ?_
 conv=>whnf
 refine Both.mk ?_ ?_<;>intro b72
 replace b72:=beq_ff b72
 replace h:=cond_f b72 h
 conv=>whnf
 refine Both.yes (ff_beq b72) ?_
 conv=>whnf
 refine Nf.mk (List.length c53.2.1) len_map ?_
 conv=>whnf
 refine Both.yes (ff_beq b72) ?_
 conv=>whnf
 refine Both.no b72 ?_
 conv=>whnf
 refine Both.mk ?_ ?_<;>intro b73
 replace b73:=beq_ff b73
 obtain ⟨h,b73d⟩:=cfd b73 h
 conv=>whnf
 refine Both.yes (ff_beq b73) ?_
 conv=>whnf
 refine Nf.mk (List.length c55.2.1) len_map ?_
 conv=>whnf
 refine Both.yes (ff_beq b73) ?_
 conv=>whnf
 refine Both.no b73 ?_
 conv=>whnf
 cases h
 exact Join.mk (eA [(110,some 3),(111,some 10),(112,some 13)])
 replace b73:=beq_ft b73
 obtain ⟨h,b73d⟩:=ctd b73 h
 conv=>whnf
 iterate 2 (refine Both.no (tf_beq b73) ?_;(conv=>whnf))
 refine Both.yes b73 ?_
 conv=>whnf
 cases h
 exact Join.mk (eA [(110,some 3),(111,some 10),(112,some 13)])
 replace b72:=beq_ft b72
 replace h:=cond_t b72 h
 conv=>whnf
 iterate 2 (refine Both.no (tf_beq b72) ?_;(conv=>whnf))
 refine Both.yes b72 ?_
 conv=>whnf
 iterate 3 (refine Both.no rfl ?_;(conv=>whnf))
 refine Both.yes rfl ?_
 conv=>whnf
 cases h
 exact Join.mk (eA [(110,some 3),(111,some 10),(112,some 13)])
 replace b71:=beq_ft b71
 obtain ⟨h,b71d⟩:=ctd b71 h
 conv=>whnf
 refine Both.yes b71 ?_
 conv=>whnf
 iterate 3 (refine Both.no rfl ?_;(conv=>whnf))
 refine Both.yes rfl ?_
 conv=>whnf
 iterate 3 (refine Both.no rfl ?_;(conv=>whnf))
 refine Both.yes rfl ?_
 conv=>whnf
 cases h
 exact Join.mk (eA [(110,some 3),(111,some 10),(112,some 13)])
 replace b70:=beq_ft b70
 obtain ⟨h,b70d⟩:=ctd b70 h
 conv=>whnf
 refine Both.no (tf_beq b70) ?_
 conv=>whnf
 refine Both.yes b70 ?_
 conv=>whnf
 refine Both.no rfl ?_
 conv=>whnf
 refine Both.yes rfl ?_
 conv=>whnf
 iterate 3 (refine Both.no rfl ?_;(conv=>whnf))
 refine Both.yes rfl ?_
 conv=>whnf
 iterate 3 (refine Both.no rfl ?_;(conv=>whnf))
 refine Both.yes rfl ?_
 conv=>whnf
 cases h
 exact Join.mk (eA [(110,some 3),(111,some 10),(112,some 13)])
 replace b69:=beq_ft b69
 obtain ⟨h,b69d⟩:=ctd b69 h
 conv=>whnf
 refine Both.no (tf_beq b69) ?_
 conv=>whnf
 refine Both.yes b69 ?_
 conv=>whnf
 iterate 2 (refine Both.no rfl ?_;(conv=>whnf))
 refine Both.yes rfl ?_
 conv=>whnf
 refine Both.no rfl ?_
 conv=>whnf
 refine Both.yes rfl ?_
 conv=>whnf
 iterate 3 (refine Both.no rfl ?_;(conv=>whnf))
 refine Both.yes rfl ?_
 conv=>whnf
 iterate 3 (refine Both.no rfl ?_;(conv=>whnf))
 refine Both.yes rfl ?_
 conv=>whnf
 cases h
 exact Join.mk (eA [(110,some 3),(111,some 10),(112,some 13)])
 replace b68:=beq_ft b68
 obtain ⟨h,b68d⟩:=ctd b68 h
 conv=>whnf
 refine Both.no (tf_beq b68) ?_
 conv=>whnf
 refine Both.yes b68 ?_
 conv=>whnf
 iterate 2 (refine Both.no rfl ?_;(conv=>whnf))
 refine Both.yes rfl ?_
 conv=>whnf
 iterate 2 (refine Both.no rfl ?_;(conv=>whnf))
 refine Both.yes rfl ?_
 conv=>whnf
 refine Both.no rfl ?_
 conv=>whnf
 refine Both.yes rfl ?_
 conv=>whnf
 iterate 3 (refine Both.no rfl ?_;(conv=>whnf))
 refine Both.yes rfl ?_
 conv=>whnf
 iterate 3 (refine Both.no rfl ?_;(conv=>whnf))
 refine Both.yes rfl ?_
 conv=>whnf
 cases h
 exact Join.mk (eA [(110,some 3),(111,some 10),(112,some 13)])
 replace b67:=beq_ft b67
 obtain ⟨h,b67d⟩:=ctd b67 h
 conv=>whnf
 refine Both.no (tf_beq b67) ?_
 conv=>whnf
 refine Both.yes b67 ?_
 conv=>whnf
 iterate 2 (refine Both.no rfl ?_;(conv=>whnf))
 refine Both.yes rfl ?_
 conv=>whnf
 iterate 2 (refine Both.no rfl ?_;(conv=>whnf))
 refine Both.yes rfl ?_
 conv=>whnf
 iterate 2 (refine Both.no rfl ?_;(conv=>whnf))
 refine Both.yes rfl ?_
 conv=>whnf
 refine Both.no rfl ?_
 conv=>whnf
 refine Both.yes rfl ?_
 conv=>whnf
 iterate 3 (refine Both.no rfl ?_;(conv=>whnf))
 refine Both.yes rfl ?_
 conv=>whnf
 iterate 3 (refine Both.no rfl ?_;(conv=>whnf))
 refine Both.yes rfl ?_
 conv=>whnf
 cases h
 exact Join.mk (eA [(110,some 3),(111,some 10),(112,some 13)])
 replace h:=hk58
 obtain ⟨z74,z75,z76,z77,z78,z79,z80,_⟩:=hp
 conv=>whnf
 refine Both.mk ?_ ?_<;>intro b81
 replace h:=cond_t b81 h
 conv=>whnf
 cases h
 conv=>whnf
 exact ⟨rfl,rfl⟩
 replace h:=cond_f b81 h
 conv=>whnf
 obtain ⟨y90,hc,hk83⟩:=bind_some h
 clear h
 have h:=hc
 clear hc
 refine Cut.mk (mkSt [(0,.im (nB y90))] [] []) (True) (hT) ?_ (fun hp=>?_)
 conv=>whnf
 refine Side.mk rfl ?_
 conv=>whnf
 refine Side.mk rfl ?_
 conv=>whnf
 obtain ⟨c91,hc91,h⟩:=bind_some h
 refine ⟨_,(sp_R01_SameWords c53.1.Short [[],[0]] c91 (fun _ _=>hc91)),?_⟩
 conv=>whnf
 refine Both.mk ?_ ?_<;>intro b92
 replace b92:=beq_tt b92
 replace h:=cond_t b92 h
 conv=>whnf
 refine Side.mk rfl ?_
 conv=>whnf
 refine Both.yes (tt_beq b92) ?_
 conv=>whnf
 refine Side.mk rfl ?_
 conv=>whnf
 iterate 4 (refine Both.yes (tt_beq b92) ?_;(conv=>whnf))
 obtain ⟨c93,hc93,h⟩:=bind_some h
 refine ⟨_,(sp_R01_SameWords c55.1.Short [[],[0]] c93 (fun _ _=>hc93)),?_⟩
 conv=>whnf
 refine Both.yes b92 ?_
 conv=>whnf
 refine Both.mk ?_ ?_<;>intro b94
 replace b94:=beq_tt b94
 replace h:=cond_t b94 h
 conv=>whnf
 refine Side.mk rfl ?_
 conv=>whnf
 refine Both.yes (tt_beq b94) ?_
 conv=>whnf
 refine Side.mk rfl ?_
 conv=>whnf
 iterate 3 (refine Both.yes (tt_beq b94) ?_;(conv=>whnf))
 obtain ⟨c95,hc95,h⟩:=bind_some h
 refine ⟨_,(sp_R01_SameWords c55.1.Suffixes [[0]] c95 (fun _ _=>hc95)),?_⟩
 conv=>whnf
 refine Both.yes b94 ?_
 conv=>whnf
 refine Both.mk ?_ ?_<;>intro b96
 replace b96:=beq_tt b96
 replace h:=cond_t b96 h
 conv=>whnf
 refine Side.mk rfl ?_
 conv=>whnf
 refine Both.yes (tt_beq b96) ?_
 conv=>whnf
 refine Side.mk rfl ?_
 conv=>whnf
 refine Both.yes (tt_beq b96) ?_
 conv=>whnf
 refine Side.mk rfl ?_
 conv=>whnf
 refine Both.yes (tt_beq b96) ?_
 conv=>whnf
 refine Nf.mk (List.length c56.1.M.Next) len_map ?_
 conv=>whnf
 refine Both.yes (tt_beq b96) ?_
 conv=>whnf
 refine Both.yes b96 ?_
 conv=>whnf
 cases h
 exact Join.mk (eA [])
 replace b96:=beq_tf b96
 replace h:=cond_f b96 h
 conv=>whnf
 iterate 4 (refine Both.no (ft_beq b96) ?_;(conv=>whnf))
 refine Both.no b96 ?_
 conv=>whnf
 cases h
 exact Join.mk (eA [])
 replace b94:=beq_tf b94
 replace h:=cond_f b94 h
 conv=>whnf
 iterate 4 (refine Both.no (ft_beq b94) ?_;(conv=>whnf))
 refine Both.no b94 ?_
 conv=>whnf
 iterate 6 (refine Both.no rfl ?_;(conv=>whnf))
 cases h
 exact Join.mk (eA [])
 replace b92:=beq_tf b92
 replace h:=cond_f b92 h
 conv=>whnf
 iterate 5 (refine Both.no (ft_beq b92) ?_;(conv=>whnf))
 refine Both.no b92 ?_
 conv=>whnf
 iterate 12 (refine Both.no rfl ?_;(conv=>whnf))
 cases h
 exact Join.mk (eA [])
 replace h:=hk83
 conv=>whnf
 cases h
 conv=>whnf
 exact ⟨rfl,rfl⟩
theorem sp_R23_Singles (inputs_:Int) (r:List (List Int)) (h:Ok (nI inputs_)→R23_Singles inputs_=some r):Sp Tryz.prog 92 [.im (nI inputs_)] (.row 51 1 (List.map (cL cI) r)):=by
 refine sp_of rfl [] rfl rfl rfl (Nat.le_of_ble_eq_true rfl) rfl fun hk=>?_
 replace h:=h hk.1
 unfold R23_Singles at h
 conv=>whnf
 obtain ⟨y63,hc,hk51⟩:=bind_some h
 clear h
 have h:=hc
 clear hc
 refine Cut.mk (mkSt [(3,.osl 64 1)] [(64,.row 51 1 (List.map (cL cI) y63))] []) (lZ y63∧True) ((Holds.kdl 64 rfl).and (hT)) ?_ (fun hp=>?_)
 conv=>whnf
 refine Loops.iter (fun (s:List (List Int)×Nat)=>R23_Singles.s2 inputs_ s.1 s.2) (fun (y65,a66)=>mkSt [(0,.im (nI inputs_)),(3,.osl 64 1),(4,.im (nI (↑a66:Int)))] [(64,.row 51 1 (List.map (cL cI) y65))] []) (fun (y65,a66)=>lZ y65∧True) h (eA [(64,none)]) (by rintro ⟨y65,a66⟩;exact ((Holds.kdl 64 rfl).and (hT))) ?_
 clear h
 rintro k ⟨y65,a66⟩ o hp h ho70
 replace h:R23_Singles.s2 inputs_ y65 a66=some o:=h
 unfold R23_Singles.s2 at h
 obtain ⟨z74,_⟩:=hp
 conv=>whnf
 refine Both.mk ?_ ?_<;>intro b71
 obtain ⟨h,b71d⟩:=ctd b71 h
 conv=>whnf
 obtain ⟨c72,h⟩:=chk_some h
 refine Side.mk ⟨rfl,map_len (l:=[[(↑a66:Int)]]) (c:=cL cI) fun _=>rfl,show capOk _ 24 by simpa only [List.length_map,List.length_cons,List.length_nil,Nat.zero_add] using c72⟩ ?_
 conv=>whnf
 refine Nf.mk (List.map (cL cI) (y65++[[(↑a66:Int)]])) (app_map (l:=y65) (m:=[[(↑a66:Int)]]) (c:=cL cI)) ?_
 conv=>whnf
 obtain ⟨c73,h⟩:=chk_some h
 refine Arith.mk c73 ?_
 conv=>whnf
 cases h
 exact Nxt.mk _ ho70 (eA [(64,some 64)])
 obtain ⟨h,b71d⟩:=cfd b71 h
 conv=>whnf
 cases h
 have ho70:_=_:=ho70
 cases ho70
 exact Join.mk (eA [(64,some 64)])
 replace h:=hk51
 obtain ⟨z75,_⟩:=hp
 conv=>whnf
 cases h
 conv=>whnf
 exact Side.mk ⟨rfl,trivial⟩ ⟨rfl,rfl⟩
theorem sp_R23_New (inputs_:Int) (r:T_api_Table×Int) (h:Ok (nI inputs_)→R23_New inputs_=some r):Sp Tryz.prog 41 [.im (nI inputs_)] (.tup [.agg (c_api_Table r.1),nI r.2]):=by
 refine sp_of rfl [] rfl rfl rfl (Nat.le_of_ble_eq_true rfl) rfl fun hk=>?_
 replace h:=h hk.1
 unfold R23_New at h
 conv=>whnf
 obtain ⟨y54,hc,hk52⟩:=bind_some h
 clear h
 have h:=hc
 clear hc
 refine Cut.mk (mkSt [(0,.im (nI inputs_)),(2,.own 64 1 0),(9,.im (nB y54))] [(64,.box 78 3)] [(64,0,.im (nI 0)),(64,1,.im (.val (.slice none 0 0))),(64,2,.im (.val (.slice none 0 0)))]) (True) (hT) ?_ (fun hp=>?_)
 conv=>whnf
 refine Both.mk ?_ ?_<;>intro b55
 replace b55:=beq_ff b55
 obtain ⟨h,b55d⟩:=cfd b55 h
 conv=>whnf
 refine Both.yes (ff_beq b55) ?_
 conv=>whnf
 refine Both.no b55 ?_
 conv=>whnf
 cases h
 exact Join.mk (eA [(64,some 2)])
 replace b55:=beq_ft b55
 obtain ⟨h,b55d⟩:=ctd b55 h
 conv=>whnf
 refine Both.no (tf_beq b55) ?_
 conv=>whnf
 refine Both.yes b55 ?_
 conv=>whnf
 cases h
 exact Join.mk (eA [(64,some 2)])
 replace h:=hk52
 conv=>whnf
 refine Both.mk ?_ ?_<;>intro b56
 replace h:=cond_t b56 h
 conv=>whnf
 refine Side.mk rfl ?_
 conv=>whnf
 cases h
 conv=>whnf
 refine Side.mk ⟨rfl,trivial⟩ ?_
 conv=>whnf
 exact ⟨rfl,rfl⟩
 replace h:=cond_f b56 h
 conv=>whnf
 obtain ⟨c57,hc57,h⟩:=bind_some h
 refine ⟨_,(sp_R23_Singles inputs_ c57 (fun _=>hc57)).im,?_⟩
 conv=>whnf
 refine Side.mk rfl ?_
 conv=>whnf
 cases h
 conv=>whnf
 refine Side.mk ⟨rfl,trivial⟩ ?_
 conv=>whnf
 exact ⟨rfl,rfl⟩
theorem sp_R28_Of (t_:T_api_Table) (r:T_api_Lazy) (h:Ok (.agg (c_api_Table t_))→R28_Of t_=some r):Sp Tryz.prog 42 [.im (.agg (c_api_Table t_))] (.im (.agg (c_api_Lazy r))):=by
 refine sp_of rfl [700001] rfl rfl rfl (Nat.le_of_ble_eq_true rfl) rfl fun hk=>?_
 replace h:=h hk.1
 have z1:lZ t_.Prefixes:=ok_len (Ok.agg_at hk.1 1 rfl)
 have z2:lZ t_.Suffixes:=ok_len (Ok.agg_at hk.1 2 rfl)
 unfold R28_Of at h
 conv=>whnf
 refine Side.mk rfl ?_
 conv=>whnf
 cases h
 conv=>whnf
 refine Side.mk ⟨rfl,trivial⟩ ?_
 conv=>whnf
 exact ⟨rfl,rfl⟩
theorem sp_R28_New (inputs_:Int) (r:T_api_Lazy×Int) (h:Ok (nI inputs_)→R28_New inputs_=some r):Sp Tryz.prog 13 [.im (nI inputs_)] (.tup [.agg (c_api_Lazy r.1),nI r.2]):=by
 refine sp_of rfl [] rfl rfl rfl (Nat.le_of_ble_eq_true rfl) rfl fun hk=>?_
 replace h:=h hk.1
 unfold R28_New at h
 conv=>whnf
 obtain ⟨c51,hc51,h⟩:=bind_some h
 refine ⟨_,(sp_R23_New inputs_ c51 (fun _=>hc51)),?_⟩
 conv=>whnf
 refine Side.mk rfl ?_
 conv=>whnf
 refine Side.mk rfl ?_
 conv=>whnf
 obtain ⟨c52,hc52,h⟩:=bind_some h
 refine ⟨_,(sp_R28_Of c51.1 c52 (fun _=>hc52)),?_⟩
 conv=>whnf
 refine Side.mk rfl ?_
 conv=>whnf
 cases h
 conv=>whnf
 refine Side.mk ⟨rfl,trivial⟩ ?_
 conv=>whnf
 exact ⟨rfl,rfl⟩
theorem sp_R02_Has (l_:List (List Int)) (w_:List Int) (r:Bool) (h:Ok (nL (cL cI) l_)→Ok (nL cI w_)→R02_Has l_ w_=some r):Sp Tryz.prog 71 [.im (nL (cL cI) l_),.im (nL cI w_)] (.im (nB r)):=by
 refine sp_of rfl [] rfl rfl rfl (Nat.le_of_ble_eq_true rfl) rfl fun hk=>?_
 replace h:=h hk.1 hk.2.1
 have z1:lZ l_:=ok_len hk.1
 have z2:lZ w_:=ok_len hk.2.1
 unfold R02_Has at h
 conv=>whnf
 obtain ⟨oc,hc,hk51⟩:=bind_some h
 clear h
 have h:=hc
 clear hc
 refine Cut.mkS oc (Y:=Unit) (fun (_:Unit)=>mkSt [] [] []) (fun (_:Unit)=>True) (by rintro ⟨⟩;exact (hT)) ?_ ?_
 conv=>whnf
 refine Loops.iter (fun (s:Nat)=>R02_Has.s2 l_ w_ s) (fun i72=>mkSt [(0,.im (nL (cL cI) l_)),(1,.im (nL cI w_)),(5,.im (nI (↑i72:Int)))] [] []) (fun i72=>lZ l_∧lZ w_∧True) h (eA []) (by rintro i72;exact ((Holds.avl 0 rfl).and ((Holds.avl 1 rfl).and (hT)))) ?_
 clear h
 rintro k i72 o hp h ho77
 replace h:R02_Has.s2 l_ w_ i72=some o:=h
 unfold R02_Has.s2 at h
 obtain ⟨z82,z83,_⟩:=hp
 conv=>whnf
 refine Nf.mk (List.length l_) len_map ?_
 conv=>whnf
 refine Both.mk ?_ ?_<;>intro b78
 obtain ⟨h,b78d⟩:=ctd b78 h
 conv=>whnf
 obtain ⟨e79,he79,h⟩:=idxn_some h
 refine ⟨_,⟨(by omega),map_at he79,rfl⟩,?_⟩
 conv=>whnf
 obtain ⟨c80,hc80,h⟩:=bind_some h
 refine ⟨_,(sp_R01_Same e79 w_ c80 (fun _ _=>hc80)),?_⟩
 conv=>whnf
 refine Both.mk ?_ ?_<;>intro b81
 replace h:=cond_t b81 h
 conv=>whnf
 cases h
 have ho77:_=_:=ho77
 cases ho77
 replace h:some _=some _:=hk51
 cases h
 conv=>whnf
 exact ⟨rfl,rfl⟩
 replace h:=cond_f b81 h
 conv=>whnf
 refine Arith.mk (by show inR _;unfold inR;omega) ?_
 conv=>whnf
 cases h
 exact Nxt.mk _ ho77 (eA [])
 obtain ⟨h,b78d⟩:=cfd b78 h
 conv=>whnf
 cases h
 have ho77:_=_:=ho77
 cases ho77
 exact JoinS.mk' _ rfl (eA [])
 rintro ⟨⟩ rfl hp
 replace h:=sum_inl hk51
 conv=>whnf
 cases h
 conv=>whnf
 exact ⟨rfl,rfl⟩
theorem sp_R23_longest (l_:List (List Int)) (r:Int) (h:Ok (nL (cL cI) l_)→R23_longest l_=some r):Sp Tryz.prog 136 [.im (nL (cL cI) l_)] (.im (nI r)):=by
 refine sp_of rfl [] rfl rfl rfl (Nat.le_of_ble_eq_true rfl) rfl fun hk=>?_
 replace h:=h hk.1
 have z1:lZ l_:=ok_len hk.1
 unfold R23_longest at h
 conv=>whnf
 obtain ⟨n62,hc,hk51⟩:=bind_some h
 clear h
 have h:=hc
 clear hc
 refine Cut.mk (mkSt [(3,.im (nI n62))] [] []) (True) (hT) ?_ (fun hp=>?_)
 conv=>whnf
 refine Loops.iter (fun (s:Int×Nat)=>R23_longest.s2 l_ s.1 s.2) (fun (n65,i66)=>mkSt [(0,.im (nL (cL cI) l_)),(3,.im (nI n65)),(4,.im (nI (↑i66:Int)))] [] []) (fun (n65,i66)=>lZ l_∧True) h (eA []) (by rintro ⟨n65,i66⟩;exact ((Holds.avl 0 rfl).and (hT))) ?_
 clear h
 rintro k ⟨n65,i66⟩ o hp h ho69
 replace h:R23_longest.s2 l_ n65 i66=some o:=h
 unfold R23_longest.s2 at h
 obtain ⟨z72,_⟩:=hp
 conv=>whnf
 refine Nf.mk (List.length l_) len_map ?_
 conv=>whnf
 refine Both.mk ?_ ?_<;>intro b70
 obtain ⟨h,b70d⟩:=ctd b70 h
 conv=>whnf
 obtain ⟨e71,he71,h⟩:=idxn_some h
 refine ⟨_,⟨(by omega),map_at he71,rfl⟩,?_⟩
 conv=>whnf
 refine Nf.mk (List.length e71) len_map ?_
 conv=>whnf
 refine Arith.mk (by show inR _;unfold inR;omega) ?_
 conv=>whnf
 cases h
 exact Nxt.mk _ ho69 (eA [])
 obtain ⟨h,b70d⟩:=cfd b70 h
 conv=>whnf
 cases h
 have ho69:_=_:=ho69
 cases ho69
 exact Join.mk (eA [])
 replace h:=hk51
 conv=>whnf
 cases h
 conv=>whnf
 exact ⟨rfl,rfl⟩
theorem sp_R23_prefixes (t_:T_api_Table) (r:Int) (h:Ok (.agg (c_api_Table t_))→R23_prefixes t_=some r):Sp Tryz.prog 134 [.im (.agg (c_api_Table t_))] (.im (nI r)):=by
 refine sp_of rfl [700001] rfl rfl rfl (Nat.le_of_ble_eq_true rfl) rfl fun hk=>?_
 replace h:=h hk.1
 have z1:lZ t_.Prefixes:=ok_len (Ok.agg_at hk.1 1 rfl)
 have z2:lZ t_.Suffixes:=ok_len (Ok.agg_at hk.1 2 rfl)
 unfold R23_prefixes at h
 conv=>whnf
 obtain ⟨oc,hc,hk51⟩:=bind_some h
 clear h
 have h:=hc
 clear hc
 refine Cut.mkS oc (Y:=Unit) (fun (_:Unit)=>mkSt [] [] []) (fun (_:Unit)=>True) (by rintro ⟨⟩;exact (hT)) ?_ ?_
 conv=>whnf
 refine Loops.iter (fun (s:Nat)=>R23_prefixes.s2 t_ s) (fun i194=>mkSt [(1,.im (.ref (c_api_Table t_))),(3,.im (nI (↑i194:Int)))] [] []) (fun i194=>True) h (eA []) (by rintro i194;exact (hT)) ?_
 clear h
 rintro k i194 o hp h ho230
 replace h:R23_prefixes.s2 t_ i194=some o:=h
 unfold R23_prefixes.s2 at h
 conv=>whnf
 refine Nf.mk (List.length t_.Prefixes) len_map ?_
 conv=>whnf
 refine Both.mk ?_ ?_<;>intro b231
 obtain ⟨h,b231d⟩:=ctd b231 h
 conv=>whnf
 obtain ⟨e232,he232,h⟩:=idxn_some h
 refine ⟨_,⟨(by omega),map_at he232,rfl⟩,?_⟩
 conv=>whnf
 obtain ⟨c233,hc233,h⟩:=bind_some h
 refine ⟨_,(sp_R01_Check e232 t_.Inputs c233 (fun _ _=>hc233)),?_⟩
 conv=>whnf
 refine Both.mk ?_ ?_<;>intro b234
 obtain ⟨h,b234d⟩:=ctd b234 h
 conv=>whnf
 cases h
 have ho230:_=_:=ho230
 cases ho230
 replace h:some _=some _:=hk51
 cases h
 conv=>whnf
 exact ⟨rfl,rfl⟩
 obtain ⟨h,b234d⟩:=cfd b234 h
 conv=>whnf
 obtain ⟨y245,hc,hk236⟩:=bind_some h
 clear h
 have h:=hc
 clear hc
 refine Cut.mk (mkSt [(1,.im (.ref (c_api_Table t_))),(3,.im (nI (↑i194:Int))),(4,.im (nL cI e232)),(46,.im (nB y245))] [] []) (lZ e232∧True) ((Holds.avl 4 rfl).and (hT)) ?_ (fun hp=>?_)
 conv=>whnf
 refine Both.mk ?_ ?_<;>intro b246
 replace b246:=beq_tt b246
 obtain ⟨h,b246d⟩:=ctd b246 h
 conv=>whnf
 refine Both.yes (tt_beq b246) ?_
 conv=>whnf
 refine Nf.mk (List.length e232) len_map ?_
 conv=>whnf
 refine Both.yes (tt_beq b246) ?_
 conv=>whnf
 refine Both.yes b246 ?_
 conv=>whnf
 refine Both.mk ?_ ?_<;>intro b247
 replace b247:=beq_ff b247
 obtain ⟨h,b247d⟩:=cfd b247 h
 conv=>whnf
 iterate 2 (refine Both.yes (ff_beq b247) ?_;(conv=>whnf))
 refine Both.mk ?_ ?_<;>intro b248
 replace b248:=beq_tt b248
 obtain ⟨h,b248d⟩:=ctd b248 h
 conv=>whnf
 iterate 3 (refine Both.yes (tt_beq b248) ?_;(conv=>whnf))
 refine Arith.mk (by show inR _;unfold inR;omega) ?_
 conv=>whnf
 refine Both.yes (tt_beq b248) ?_
 conv=>whnf
 obtain ⟨e249,he249z,he249,h⟩:=idx_some h
 refine ⟨_,⟨he249z,map_at he249,rfl⟩,?_⟩
 conv=>whnf
 iterate 3 (refine Both.yes (tt_beq b248) ?_;(conv=>whnf))
 obtain ⟨c250,hc250,h⟩:=bind_some h
 refine ⟨_,(sp_R01_Compare e249 e232 c250 (fun _ _=>hc250)),?_⟩
 conv=>whnf
 refine Both.yes (tt_beq b248) ?_
 conv=>whnf
 refine Both.yes (ff_beq b247) ?_
 conv=>whnf
 refine Both.yes b248 ?_
 conv=>whnf
 refine Both.no b247 ?_
 conv=>whnf
 cases h
 exact Join.mk (eA [])
 replace b248:=beq_tf b248
 obtain ⟨h,b248d⟩:=cfd b248 h
 conv=>whnf
 iterate 8 (refine Both.no (ft_beq b248) ?_;(conv=>whnf))
 refine Both.yes (ff_beq b247) ?_
 conv=>whnf
 refine Both.no b248 ?_
 conv=>whnf
 refine Both.no b247 ?_
 conv=>whnf
 cases h
 exact Join.mk (eA [])
 replace b247:=beq_ft b247
 obtain ⟨h,b247d⟩:=ctd b247 h
 conv=>whnf
 iterate 3 (refine Both.no (tf_beq b247) ?_;(conv=>whnf))
 refine Both.yes b247 ?_
 conv=>whnf
 cases h
 exact Join.mk (eA [])
 replace b246:=beq_tf b246
 obtain ⟨h,b246d⟩:=cfd b246 h
 conv=>whnf
 iterate 2 (refine Both.no (ft_beq b246) ?_;(conv=>whnf))
 refine Both.no b246 ?_
 conv=>whnf
 iterate 3 (refine Both.yes rfl ?_;(conv=>whnf))
 refine Both.mk ?_ ?_<;>intro b251
 replace b251:=beq_tt b251
 obtain ⟨h,b251d⟩:=ctd b251 h
 conv=>whnf
 iterate 3 (refine Both.yes (tt_beq b251) ?_;(conv=>whnf))
 refine Arith.mk (by show inR _;unfold inR;omega) ?_
 conv=>whnf
 refine Both.yes (tt_beq b251) ?_
 conv=>whnf
 obtain ⟨e252,he252z,he252,h⟩:=idx_some h
 refine ⟨_,⟨he252z,map_at he252,rfl⟩,?_⟩
 conv=>whnf
 iterate 3 (refine Both.yes (tt_beq b251) ?_;(conv=>whnf))
 obtain ⟨c253,hc253,h⟩:=bind_some h
 refine ⟨_,(sp_R01_Compare e252 e232 c253 (fun _ _=>hc253)),?_⟩
 conv=>whnf
 refine Both.yes (tt_beq b251) ?_
 conv=>whnf
 refine Both.yes rfl ?_
 conv=>whnf
 refine Both.yes b251 ?_
 conv=>whnf
 refine Both.no rfl ?_
 conv=>whnf
 cases h
 exact Join.mk (eA [])
 replace b251:=beq_tf b251
 obtain ⟨h,b251d⟩:=cfd b251 h
 conv=>whnf
 iterate 8 (refine Both.no (ft_beq b251) ?_;(conv=>whnf))
 refine Both.yes rfl ?_
 conv=>whnf
 refine Both.no b251 ?_
 conv=>whnf
 refine Both.no rfl ?_
 conv=>whnf
 cases h
 exact Join.mk (eA [])
 replace h:=hk236
 obtain ⟨z254,_⟩:=hp
 conv=>whnf
 refine Both.mk ?_ ?_<;>intro b255
 replace h:=cond_t b255 h
 conv=>whnf
 cases h
 have ho230:_=_:=ho230
 cases ho230
 replace h:some _=some _:=hk51
 cases h
 conv=>whnf
 exact ⟨rfl,rfl⟩
 replace h:=cond_f b255 h
 conv=>whnf
 obtain ⟨y261,hc,hk257⟩:=bind_some h
 clear h
 have h:=hc
 clear hc
 refine Cut.mk (mkSt [(1,.im (.ref (c_api_Table t_))),(3,.im (nI (↑i194:Int))),(60,.im (nB y261))] [] []) (True) (hT) ?_ (fun hp=>?_)
 conv=>whnf
 refine Nf.mk (List.length e232) len_map ?_
 conv=>whnf
 refine Both.mk ?_ ?_<;>intro b262
 replace b262:=beq_tt b262
 obtain ⟨h,b262d⟩:=ctd b262 h
 conv=>whnf
 iterate 4 (refine Both.yes (tt_beq b262) ?_;(conv=>whnf))
 refine Nf.mk (List.length e232) len_map ?_
 conv=>whnf
 refine Both.yes (tt_beq b262) ?_
 conv=>whnf
 refine Arith.mk (by show inR _;unfold inR;omega) ?_
 conv=>whnf
 refine Both.yes (tt_beq b262) ?_
 conv=>whnf
 obtain ⟨c263,h⟩:=chk_some h
 refine Side.mk (show (0:Int)≤(0:Int)∧(0:Int)≤((↑(List.length e232):Int)-1)∧((↑(List.length e232):Int)-1)≤(↑(List.length (List.map cI e232)):Int)∧(∀ e∈List.map cI e232,List.length e=1) from ⟨by omega,by first | omega | (simp only [List.length_map];omega),by first | omega | (simp only [List.length_map];omega),map_len fun _=>rfl⟩) ?_
 conv=>whnf
 refine Nf.mk (List.map cI (List.take (Int.toNat ((↑(List.length e232):Int)-1)) e232)) take_map ?_
 conv=>whnf
 refine Both.yes (tt_beq b262) ?_
 conv=>whnf
 obtain ⟨c264,hc264,h⟩:=bind_some h
 refine ⟨_,(sp_R02_Has t_.Prefixes (List.take (Int.toNat ((↑(List.length e232):Int)-1)) e232) c264 (fun _ _=>hc264)),?_⟩
 conv=>whnf
 refine Both.yes (tt_beq b262) ?_
 conv=>whnf
 refine Both.yes b262 ?_
 conv=>whnf
 cases h
 exact Join.mk (eA [])
 replace b262:=beq_tf b262
 obtain ⟨h,b262d⟩:=cfd b262 h
 conv=>whnf
 iterate 8 (refine Both.no (ft_beq b262) ?_;(conv=>whnf))
 refine Both.no b262 ?_
 conv=>whnf
 cases h
 exact Join.mk (eA [])
 replace h:=hk257
 conv=>whnf
 refine Both.mk ?_ ?_<;>intro b265
 replace h:=cond_t b265 h
 conv=>whnf
 cases h
 have ho230:_=_:=ho230
 cases ho230
 replace h:some _=some _:=hk51
 cases h
 conv=>whnf
 exact ⟨rfl,rfl⟩
 replace h:=cond_f b265 h
 conv=>whnf
 refine Arith.mk (by show inR _;unfold inR;omega) ?_
 conv=>whnf
 cases h
 exact Nxt.mk _ ho230 (eA [])
 obtain ⟨h,b231d⟩:=cfd b231 h
 conv=>whnf
 cases h
 have ho230:_=_:=ho230
 cases ho230
 exact JoinS.mk' _ rfl (eA [])
 rintro ⟨⟩ rfl hp
 replace h:=sum_inl hk51
 conv=>whnf
 cases h
 conv=>whnf
 exact ⟨rfl,rfl⟩
theorem sp_R23_suffixes (t_:T_api_Table) (r:Int) (h:Ok (.agg (c_api_Table t_))→R23_suffixes t_=some r):Sp Tryz.prog 135 [.im (.agg (c_api_Table t_))] (.im (nI r)):=by
 refine sp_of rfl [700001] rfl rfl rfl (Nat.le_of_ble_eq_true rfl) rfl fun hk=>?_
 replace h:=h hk.1
 have z1:lZ t_.Prefixes:=ok_len (Ok.agg_at hk.1 1 rfl)
 have z2:lZ t_.Suffixes:=ok_len (Ok.agg_at hk.1 2 rfl)
 unfold R23_suffixes at h
 conv=>whnf
 obtain ⟨oc,hc,hk51⟩:=bind_some h
 clear h
 have h:=hc
 clear hc
 refine Cut.mkS oc (Y:=Unit) (fun (_:Unit)=>mkSt [(1,.im (.ref (c_api_Table t_)))] [] []) (fun (_:Unit)=>True) (by rintro ⟨⟩;exact (hT)) ?_ ?_
 conv=>whnf
 refine Loops.iter (fun (s:Nat)=>R23_suffixes.s2 t_ s) (fun i114=>mkSt [(1,.im (.ref (c_api_Table t_))),(3,.im (nI (↑i114:Int)))] [] []) (fun i114=>True) h (eA []) (by rintro i114;exact (hT)) ?_
 clear h
 rintro k i114 o hp h ho130
 replace h:R23_suffixes.s2 t_ i114=some o:=h
 unfold R23_suffixes.s2 at h
 conv=>whnf
 refine Nf.mk (List.length t_.Suffixes) len_map ?_
 conv=>whnf
 refine Both.mk ?_ ?_<;>intro b131
 obtain ⟨h,b131d⟩:=ctd b131 h
 conv=>whnf
 obtain ⟨e132,he132,h⟩:=idxn_some h
 refine ⟨_,⟨(by omega),map_at he132,rfl⟩,?_⟩
 conv=>whnf
 obtain ⟨c133,hc133,h⟩:=bind_some h
 refine ⟨_,(sp_R01_Check e132 t_.Inputs c133 (fun _ _=>hc133)),?_⟩
 conv=>whnf
 refine Both.mk ?_ ?_<;>intro b134
 obtain ⟨h,b134d⟩:=ctd b134 h
 conv=>whnf
 cases h
 have ho130:_=_:=ho130
 cases ho130
 replace h:some _=some _:=hk51
 cases h
 conv=>whnf
 exact ⟨rfl,rfl⟩
 obtain ⟨h,b134d⟩:=cfd b134 h
 conv=>whnf
 refine Nf.mk (List.length e132) len_map ?_
 conv=>whnf
 refine Both.mk ?_ ?_<;>intro b135
 obtain ⟨h,b135d⟩:=ctd b135 h
 conv=>whnf
 cases h
 have ho130:_=_:=ho130
 cases ho130
 replace h:some _=some _:=hk51
 cases h
 conv=>whnf
 exact ⟨rfl,rfl⟩
 obtain ⟨h,b135d⟩:=cfd b135 h
 conv=>whnf
 obtain ⟨y141,hc,hk137⟩:=bind_some h
 clear h
 have h:=hc
 clear hc
 refine Cut.mk (mkSt [(1,.im (.ref (c_api_Table t_))),(3,.im (nI (↑i114:Int))),(41,.im (nB y141))] [] []) (True) (hT) ?_ (fun hp=>?_)
 conv=>whnf
 refine Both.mk ?_ ?_<;>intro b142
 replace b142:=beq_tt b142
 obtain ⟨h,b142d⟩:=ctd b142 h
 conv=>whnf
 iterate 3 (refine Both.yes (tt_beq b142) ?_;(conv=>whnf))
 refine Arith.mk (by show inR _;unfold inR;omega) ?_
 conv=>whnf
 refine Both.yes (tt_beq b142) ?_
 conv=>whnf
 obtain ⟨e143,he143z,he143,h⟩:=idx_some h
 refine ⟨_,⟨he143z,map_at he143,rfl⟩,?_⟩
 conv=>whnf
 iterate 3 (refine Both.yes (tt_beq b142) ?_;(conv=>whnf))
 obtain ⟨c144,hc144,h⟩:=bind_some h
 refine ⟨_,(sp_R01_Compare e143 e132 c144 (fun _ _=>hc144)),?_⟩
 conv=>whnf
 refine Both.yes (tt_beq b142) ?_
 conv=>whnf
 refine Both.yes b142 ?_
 conv=>whnf
 cases h
 exact Join.mk (eA [])
 replace b142:=beq_tf b142
 obtain ⟨h,b142d⟩:=cfd b142 h
 conv=>whnf
 iterate 8 (refine Both.no (ft_beq b142) ?_;(conv=>whnf))
 refine Both.no b142 ?_
 conv=>whnf
 cases h
 exact Join.mk (eA [])
 replace h:=hk137
 conv=>whnf
 refine Both.mk ?_ ?_<;>intro b145
 replace h:=cond_t b145 h
 conv=>whnf
 cases h
 have ho130:_=_:=ho130
 cases ho130
 replace h:some _=some _:=hk51
 cases h
 conv=>whnf
 exact ⟨rfl,rfl⟩
 replace h:=cond_f b145 h
 conv=>whnf
 refine Arith.mk (by show inR _;unfold inR;omega) ?_
 conv=>whnf
 cases h
 exact Nxt.mk _ ho130 (eA [])
 obtain ⟨h,b131d⟩:=cfd b131 h
 conv=>whnf
 cases h
 have ho130:_=_:=ho130
 cases ho130
 exact JoinS.mk' _ rfl (eA [])
 rintro ⟨⟩ rfl hp
 replace h:=sum_inl hk51
 conv=>whnf
 obtain ⟨oc,hc,hk146⟩:=bind_some h
 clear h
 have h:=hc
 clear hc
 refine Cut.mkS oc (Y:=Unit) (fun (_:Unit)=>mkSt [] [] []) (fun (_:Unit)=>True) (by rintro ⟨⟩;exact (hT)) ?_ ?_
 conv=>whnf
 refine Loops.iter (fun (s:Nat)=>R23_suffixes.s4 t_ s) (fun a163=>mkSt [(1,.im (.ref (c_api_Table t_))),(6,.im (nI (↑a163:Int)))] [] []) (fun a163=>True) h (eA []) (by rintro a163;exact (hT)) ?_
 clear h
 rintro k a163 o hp h ho168
 replace h:R23_suffixes.s4 t_ a163=some o:=h
 unfold R23_suffixes.s4 at h
 conv=>whnf
 refine Both.mk ?_ ?_<;>intro b169
 obtain ⟨h,b169d⟩:=ctd b169 h
 conv=>whnf
 obtain ⟨c170,hc170,h⟩:=bind_some h
 refine ⟨_,(sp_R02_Has t_.Suffixes [(↑a163:Int)] c170 (fun _ _=>hc170)),?_⟩
 conv=>whnf
 refine Both.mk ?_ ?_<;>intro b171
 replace h:=cond_t b171 h
 conv=>whnf
 cases h
 have ho168:_=_:=ho168
 cases ho168
 replace h:some _=some _:=hk146
 cases h
 conv=>whnf
 exact ⟨rfl,rfl⟩
 replace h:=cond_f b171 h
 conv=>whnf
 obtain ⟨c172,h⟩:=chk_some h
 refine Arith.mk c172 ?_
 conv=>whnf
 cases h
 exact Nxt.mk _ ho168 (eA [])
 obtain ⟨h,b169d⟩:=cfd b169 h
 conv=>whnf
 cases h
 have ho168:_=_:=ho168
 cases ho168
 exact JoinS.mk' _ rfl (eA [])
 rintro ⟨⟩ rfl hp
 replace h:=sum_inl hk146
 conv=>whnf
 cases h
 conv=>whnf
 exact ⟨rfl,rfl⟩
theorem sp_R23_Valid (t_:T_api_Table) (r:Int) (h:Ok (.agg (c_api_Table t_))→R23_Valid t_=some r):Sp Tryz.prog 70 [.im (.agg (c_api_Table t_))] (.im (nI r)):=by
 refine sp_of rfl [700001] rfl rfl rfl (Nat.le_of_ble_eq_true rfl) rfl fun hk=>?_
 replace h:=h hk.1
 have z1:lZ t_.Prefixes:=ok_len (Ok.agg_at hk.1 1 rfl)
 have z2:lZ t_.Suffixes:=ok_len (Ok.agg_at hk.1 2 rfl)
 unfold R23_Valid at h
 conv=>whnf
 obtain ⟨y54,hc,hk52⟩:=bind_some h
 clear h
 have h:=hc
 clear hc
 refine Cut.mk (mkSt [(1,.im (.ref (c_api_Table t_))),(12,.im (nB y54))] [] []) (True) (hT) ?_ (fun hp=>?_)
 conv=>whnf
 refine Both.mk ?_ ?_<;>intro b55
 replace b55:=beq_ff b55
 obtain ⟨h,b55d⟩:=cfd b55 h
 conv=>whnf
 iterate 2 (refine Both.yes (ff_beq b55) ?_;(conv=>whnf))
 refine Both.no b55 ?_
 conv=>whnf
 cases h
 exact Join.mk (eA [])
 replace b55:=beq_ft b55
 obtain ⟨h,b55d⟩:=ctd b55 h
 conv=>whnf
 iterate 2 (refine Both.no (tf_beq b55) ?_;(conv=>whnf))
 refine Both.yes b55 ?_
 conv=>whnf
 cases h
 exact Join.mk (eA [])
 replace h:=hk52
 conv=>whnf
 refine Both.mk ?_ ?_<;>intro b56
 replace h:=cond_t b56 h
 conv=>whnf
 cases h
 conv=>whnf
 exact ⟨rfl,rfl⟩
 replace h:=cond_f b56 h
 conv=>whnf
 refine Nf.mk (List.length t_.Prefixes) len_map ?_
 conv=>whnf
 refine Both.mk ?_ ?_<;>intro b57
 obtain ⟨h,b57d⟩:=ctd b57 h
 conv=>whnf
 cases h
 conv=>whnf
 exact ⟨rfl,rfl⟩
 obtain ⟨h,b57d⟩:=cfd b57 h
 conv=>whnf
 obtain ⟨y61,hc,hk59⟩:=bind_some h
 clear h
 have h:=hc
 clear hc
 refine Cut.mk (mkSt [(1,.im (.ref (c_api_Table t_))),(26,.im (nB y61))] [] []) (True) (hT) ?_ (fun hp=>?_)
 conv=>whnf
 refine Nf.mk (List.length t_.Prefixes) len_map ?_
 conv=>whnf
 refine Both.mk ?_ ?_<;>intro b62
 replace b62:=beq_ff b62
 obtain ⟨h,b62d⟩:=cfd b62 h
 conv=>whnf
 iterate 2 (refine Both.yes (ff_beq b62) ?_;(conv=>whnf))
 refine Nf.mk (List.length t_.Suffixes) len_map ?_
 conv=>whnf
 refine Both.yes (ff_beq b62) ?_
 conv=>whnf
 refine Both.no b62 ?_
 conv=>whnf
 cases h
 exact Join.mk (eA [])
 replace b62:=beq_ft b62
 obtain ⟨h,b62d⟩:=ctd b62 h
 conv=>whnf
 iterate 3 (refine Both.no (tf_beq b62) ?_;(conv=>whnf))
 refine Both.yes b62 ?_
 conv=>whnf
 cases h
 exact Join.mk (eA [])
 replace h:=hk59
 conv=>whnf
 refine Both.mk ?_ ?_<;>intro b63
 replace h:=cond_t b63 h
 conv=>whnf
 cases h
 conv=>whnf
 exact ⟨rfl,rfl⟩
 replace h:=cond_f b63 h
 conv=>whnf
 refine Nf.mk (List.length t_.Prefixes) len_map ?_
 conv=>whnf
 obtain ⟨c64,h⟩:=chk_some h
 refine Arith.mk c64 ?_
 conv=>whnf
 obtain ⟨c65,h⟩:=chk_some h
 refine Arith.mk c65 ?_
 conv=>whnf
 refine Nf.mk (List.length t_.Suffixes) len_map ?_
 conv=>whnf
 obtain ⟨c66,h⟩:=chk_some h
 refine Arith.mk c66 ?_
 conv=>whnf
 refine Both.mk ?_ ?_<;>intro b67
 obtain ⟨h,b67d⟩:=ctd b67 h
 conv=>whnf
 cases h
 conv=>whnf
 exact ⟨rfl,rfl⟩
 obtain ⟨h,b67d⟩:=cfd b67 h
 conv=>whnf
 obtain ⟨c68,hc68,h⟩:=bind_some h
 refine ⟨_,(sp_R23_prefixes t_ c68 (fun _=>hc68)),?_⟩
 conv=>whnf
 refine Both.mk ?_ ?_<;>intro b69
 obtain ⟨h,b69d⟩:=ctd b69 h
 conv=>whnf
 cases h
 conv=>whnf
 exact ⟨rfl,rfl⟩
 obtain ⟨h,b69d⟩:=cfd b69 h
 conv=>whnf
 obtain ⟨c70,hc70,h⟩:=bind_some h
 refine ⟨_,(sp_R23_suffixes t_ c70 (fun _=>hc70)),?_⟩
 conv=>whnf
 refine Both.mk ?_ ?_<;>intro b71
 obtain ⟨h,b71d⟩:=ctd b71 h
 conv=>whnf
 cases h
 conv=>whnf
 exact ⟨rfl,rfl⟩
 obtain ⟨h,b71d⟩:=cfd b71 h
 conv=>whnf
 obtain ⟨c72,hc72,h⟩:=bind_some h
 refine ⟨_,(sp_R23_longest t_.Prefixes c72 (fun _=>hc72)),?_⟩
 conv=>whnf
 obtain ⟨c73,hc73,h⟩:=bind_some h
 refine ⟨_,(sp_R23_longest t_.Suffixes c73 (fun _=>hc73)),?_⟩
 conv=>whnf
 obtain ⟨c74,h⟩:=chk_some h
 refine Arith.mk c74 ?_
 conv=>whnf
 refine Both.mk ?_ ?_<;>intro b75
 obtain ⟨h,b75d⟩:=ctd b75 h
 conv=>whnf
 cases h
 conv=>whnf
 exact ⟨rfl,rfl⟩
 obtain ⟨h,b75d⟩:=cfd b75 h
 conv=>whnf
 cases h
 conv=>whnf
 exact ⟨rfl,rfl⟩
theorem sp_R28_Valid (l_:T_api_Lazy) (r:Int) (h:Ok (.agg (c_api_Lazy l_))→R28_Valid l_=some r):Sp Tryz.prog 23 [.im (.agg (c_api_Lazy l_))] (.im (nI r)):=by
 refine sp_of rfl [700001] rfl rfl rfl (Nat.le_of_ble_eq_true rfl) rfl fun hk=>?_
 replace h:=h hk.1
 have z1:lZ l_.Short:=ok_len (Ok.agg_at hk.1 1 rfl)
 have z2:lZ l_.Suffixes:=ok_len (Ok.agg_at hk.1 2 rfl)
 unfold R28_Valid at h
 conv=>whnf
 obtain ⟨c51,hc51,h⟩:=bind_some h
 refine ⟨_,(sp_R28_Table l_ c51 (fun _=>hc51)),?_⟩
 conv=>whnf
 obtain ⟨c52,hc52,h⟩:=bind_some h
 refine ⟨_,(sp_R23_Valid c51 c52 (fun _=>hc52)),?_⟩
 conv=>whnf
 refine Both.mk ?_ ?_<;>intro b53
 obtain ⟨h,b53d⟩:=ctd b53 h
 conv=>whnf
 cases h
 conv=>whnf
 exact ⟨rfl,rfl⟩
 obtain ⟨h,b53d⟩:=cfd b53 h
 conv=>whnf
 obtain ⟨oc,hc,hk54⟩:=bind_some h
 clear h
 have h:=hc
 clear hc
 refine Cut.mkS oc (Y:=Unit) (fun (_:Unit)=>mkSt [] [] []) (fun (_:Unit)=>True) (by rintro ⟨⟩;exact (hT)) ?_ ?_
 conv=>whnf
 refine Loops.iter (fun (s:Nat)=>R28_Valid.s2 l_ s) (fun i105=>mkSt [(1,.im (.ref (c_api_Lazy l_))),(4,.im (nI (↑i105:Int)))] [] []) (fun i105=>True) h (eA []) (by rintro i105;exact (hT)) ?_
 clear h
 rintro k i105 o hp h ho118
 replace h:R28_Valid.s2 l_ i105=some o:=h
 unfold R28_Valid.s2 at h
 conv=>whnf
 refine Nf.mk (List.length l_.Suffixes) len_map ?_
 conv=>whnf
 refine Both.mk ?_ ?_<;>intro b119
 obtain ⟨h,b119d⟩:=ctd b119 h
 conv=>whnf
 obtain ⟨e120,he120,h⟩:=idxn_some h
 refine ⟨_,⟨(by omega),map_at he120,rfl⟩,?_⟩
 conv=>whnf
 obtain ⟨y126,hc,hk122⟩:=bind_some h
 clear h
 have h:=hc
 clear hc
 refine Cut.mk (mkSt [(1,.im (.ref (c_api_Lazy l_))),(4,.im (nI (↑i105:Int))),(34,.im (nB y126))] [] []) (True) (hT) ?_ (fun hp=>?_)
 conv=>whnf
 refine Nf.mk (List.length e120) len_map ?_
 conv=>whnf
 refine Both.mk ?_ ?_<;>intro b127
 replace b127:=beq_tt b127
 obtain ⟨h,b127d⟩:=ctd b127 h
 conv=>whnf
 iterate 3 (refine Both.yes (tt_beq b127) ?_;(conv=>whnf))
 obtain ⟨c128,h⟩:=chk_some h
 refine Side.mk (show (0:Int)≤1∧1≤(↑(List.length (List.map cI e120)):Int)∧(↑(List.length (List.map cI e120)):Int)≤(↑(List.length (List.map cI e120)):Int)∧(∀ e∈List.map cI e120,List.length e=1) from ⟨by omega,by first | omega | (simp only [List.length_map];omega),by first | omega | (simp only [List.length_map];omega),map_len fun _=>rfl⟩) ?_
 conv=>whnf
 refine Nf.mk (List.map cI (List.drop 1 e120)) drop_map ?_
 conv=>whnf
 refine Both.yes (tt_beq b127) ?_
 conv=>whnf
 obtain ⟨c129,hc129,h⟩:=bind_some h
 refine ⟨_,(sp_R02_Has l_.Suffixes (List.drop 1 e120) c129 (fun _ _=>hc129)),?_⟩
 conv=>whnf
 refine Both.yes (tt_beq b127) ?_
 conv=>whnf
 refine Both.yes b127 ?_
 conv=>whnf
 cases h
 exact Join.mk (eA [])
 replace b127:=beq_tf b127
 obtain ⟨h,b127d⟩:=cfd b127 h
 conv=>whnf
 iterate 5 (refine Both.no (ft_beq b127) ?_;(conv=>whnf))
 refine Both.no b127 ?_
 conv=>whnf
 cases h
 exact Join.mk (eA [])
 replace h:=hk122
 conv=>whnf
 refine Both.mk ?_ ?_<;>intro b130
 replace h:=cond_t b130 h
 conv=>whnf
 cases h
 have ho118:_=_:=ho118
 cases ho118
 replace h:some _=some _:=hk54
 cases h
 conv=>whnf
 exact ⟨rfl,rfl⟩
 replace h:=cond_f b130 h
 conv=>whnf
 refine Arith.mk (by show inR _;unfold inR;omega) ?_
 conv=>whnf
 cases h
 exact Nxt.mk _ ho118 (eA [])
 obtain ⟨h,b119d⟩:=cfd b119 h
 conv=>whnf
 cases h
 have ho118:_=_:=ho118
 cases ho118
 exact JoinS.mk' _ rfl (eA [])
 rintro ⟨⟩ rfl hp
 replace h:=sum_inl hk54
 conv=>whnf
 cases h
 conv=>whnf
 exact ⟨rfl,rfl⟩
theorem sp_R28_checked (l_:T_api_Lazy) (o_:T_api_Obs) (r:Int) (h:Ok (.agg (c_api_Lazy l_))→Ok (.agg (c_api_Obs o_))→R28_checked l_ o_=some r):Sp Tryz.prog 51 [.im (.agg (c_api_Lazy l_)),.im (.agg (c_api_Obs o_))] (.im (nI r)):=by
 refine sp_of rfl [700002,700003] rfl rfl rfl (Nat.le_of_ble_eq_true rfl) rfl fun hk=>?_
 replace h:=h hk.1 hk.2.1
 have z1:lZ l_.Short:=ok_len (Ok.agg_at hk.1 1 rfl)
 have z2:lZ l_.Suffixes:=ok_len (Ok.agg_at hk.1 2 rfl)
 have z3:lZ o_.Traces:=ok_len (Ok.agg_at hk.2.1 1 rfl)
 unfold R28_checked at h
 conv=>whnf
 obtain ⟨c51,hc51,h⟩:=bind_some h
 refine ⟨_,(sp_R28_Valid l_ c51 (fun _=>hc51)),?_⟩
 conv=>whnf
 refine Both.mk ?_ ?_<;>intro b52
 obtain ⟨h,b52d⟩:=ctd b52 h
 conv=>whnf
 cases h
 conv=>whnf
 exact ⟨rfl,rfl⟩
 obtain ⟨h,b52d⟩:=cfd b52 h
 conv=>whnf
 refine Both.mk ?_ ?_<;>intro b53
 obtain ⟨h,b53d⟩:=ctd b53 h
 conv=>whnf
 cases h
 conv=>whnf
 exact ⟨rfl,rfl⟩
 obtain ⟨h,b53d⟩:=cfd b53 h
 conv=>whnf
 cases h
 conv=>whnf
 exact ⟨rfl,rfl⟩
end Go.Proofs.YtedabpfahmealaaGreatDoor.Sym

/-
  The contracts of the functions, read from the code by a program (ext.py): each function has its plain twin as its contract.
-/
namespace Go.Proofs.YtedabpfahmealaaGreatDoor.Sym
open Go.RowKit
set_option maxRecDepth 100000
set_option linter.unusedVariables false
set_option maxHeartbeats 4000000
theorem sp_R02_place (l_:List (List Int)) (w_:List Int) (r:Int) (h:Ok (nL (cL cI) l_)→Ok (nL cI w_)→R02_place l_ w_=some r):Sp Tryz.prog 212 [.im (nL (cL cI) l_),.im (nL cI w_)] (.im (nI r)):=by
 refine sp_of rfl [] rfl rfl rfl (Nat.le_of_ble_eq_true rfl) rfl fun hk=>?_
 replace h:=h hk.1 hk.2.1
 have z1:lZ l_:=ok_len hk.1
 have z2:lZ w_:=ok_len hk.2.1
 unfold R02_place at h
 conv=>whnf
 refine Nf.mk (List.length l_) len_map ?_
 conv=>whnf
 obtain ⟨low77,hc,hk51⟩:=bind_some h
 clear h
 have h:=hc
 clear hc
 refine Cut.mk (mkSt [(5,.im (nI (↑low77:Int)))] [] []) (True) (hT) ?_ (fun hp=>?_)
 conv=>whnf
 refine Loops.iter (fun (s:Nat×Nat)=>R02_place.s2 l_ w_ s.1 s.2) (fun (low84,high85)=>mkSt [(0,.im (nL (cL cI) l_)),(1,.im (nL cI w_)),(5,.im (nI (↑low84:Int))),(6,.im (nI (↑high85:Int)))] [] []) (fun (low84,high85)=>lZ l_∧lZ w_∧True) h (eA []) (by rintro ⟨low84,high85⟩;exact ((Holds.avl 0 rfl).and ((Holds.avl 1 rfl).and (hT)))) ?_
 clear h
 rintro k ⟨low84,high85⟩ o hp h ho93
 replace h:R02_place.s2 l_ w_ low84 high85=some o:=h
 unfold R02_place.s2 at h
 obtain ⟨z101,z102,_⟩:=hp
 conv=>whnf
 refine Both.mk ?_ ?_<;>intro b94
 obtain ⟨h,b94d⟩:=ctd b94 h
 conv=>whnf
 obtain ⟨c95,h⟩:=chk_some h
 refine Arith.mk c95 ?_
 conv=>whnf
 obtain ⟨c96,h⟩:=chk_some h
 refine Side.mk c96 ?_
 conv=>whnf
 obtain ⟨e97,he97,h⟩:=idxn_some h
 refine ⟨_,⟨(by omega),map_at he97,rfl⟩,?_⟩
 conv=>whnf
 obtain ⟨c98,hc98,h⟩:=bind_some h
 refine ⟨_,(sp_R01_Compare e97 w_ c98 (fun _ _=>hc98)),?_⟩
 conv=>whnf
 refine Both.mk ?_ ?_<;>intro b99
 obtain ⟨h,b99d⟩:=ctd b99 h
 conv=>whnf
 obtain ⟨c100,h⟩:=chk_some h
 refine Arith.mk c100 ?_
 conv=>whnf
 cases h
 exact Nxt.mk _ ho93 (eA [])
 obtain ⟨h,b99d⟩:=cfd b99 h
 conv=>whnf
 cases h
 exact Nxt.mk _ ho93 (eA [])
 obtain ⟨h,b94d⟩:=cfd b94 h
 conv=>whnf
 cases h
 have ho93:_=_:=ho93
 cases ho93
 exact Join.mk (eA [])
 replace h:=hk51
 conv=>whnf
 cases h
 conv=>whnf
 exact ⟨rfl,rfl⟩
theorem sp_R02_with (l_:List (List Int)) (w_:List Int) (r:List (List Int)) (h:OkL (List.map (cL cI) l_)→Ok (nL cI w_)→R02_with l_ w_=some r):Sp Tryz.prog 190 [.row 51 1 (List.map (cL cI) l_),.im (nL cI w_)] (.row 51 1 (List.map (cL cI) r)):=by
 refine sp_of rfl [44,500009] rfl rfl rfl (Nat.le_of_ble_eq_true rfl) rfl fun hk=>?_
 replace h:=h hk.1 hk.2.1
 have z1:lZ l_:=okl_len hk.1
 have z2:lZ w_:=ok_len hk.2.1
 unfold R02_with at h
 conv=>whnf
 refine Side.mk ⟨rfl,trivial⟩ ?_
 conv=>whnf
 obtain ⟨c51,hc51,h⟩:=bind_some h
 refine ⟨_,(sp_R02_place l_ w_ c51 (fun _ _=>hc51)),?_⟩
 conv=>whnf
 refine Side.mk flat_one ?_
 conv=>whnf
 obtain ⟨y57,hc,hk53⟩:=bind_some h
 clear h
 have h:=hc
 clear hc
 refine Cut.mk (mkSt [(0,.osl 64 1),(1,.im (nL cI w_)),(5,.im (nI c51)),(21,.im (nB y57))] [(64,.row 51 1 (List.map (cL cI) l_))] []) (lZ w_∧lZ l_∧True) ((Holds.avl 1 rfl).and ((Holds.kdl 64 rfl).and (hT))) ?_ (fun hp=>?_)
 conv=>whnf
 refine Side.mk rfl ?_
 conv=>whnf
 refine Nf.mk (List.length l_) len_map ?_
 conv=>whnf
 refine Both.mk ?_ ?_<;>intro b58
 replace b58:=beq_tt b58
 obtain ⟨h,b58d⟩:=ctd b58 h
 conv=>whnf
 iterate 2 (refine Both.yes (tt_beq b58) ?_;(conv=>whnf))
 obtain ⟨e59,he59z,he59,h⟩:=idx_some h
 refine Side.mk ⟨he59z,rfl,map_lt he59⟩ ?_
 conv=>whnf
 refine Both.yes (tt_beq b58) ?_
 conv=>whnf
 refine ⟨_,_,⟨rfl,map_at he59,rfl,rfl⟩,?_⟩
 conv=>whnf
 iterate 2 (refine Both.yes (tt_beq b58) ?_;(conv=>whnf))
 obtain ⟨c60,hc60,h⟩:=bind_some h
 refine ⟨_,(sp_R01_Same e59 w_ c60 (fun _ _=>hc60)),?_⟩
 conv=>whnf
 refine Both.yes b58 ?_
 conv=>whnf
 cases h
 exact Join.mk (eA [(64,some 0)])
 replace b58:=beq_tf b58
 obtain ⟨h,b58d⟩:=cfd b58 h
 conv=>whnf
 iterate 5 (refine Both.no (ft_beq b58) ?_;(conv=>whnf))
 refine Both.no b58 ?_
 conv=>whnf
 cases h
 exact Join.mk (eA [(64,some 0)])
 replace h:=hk53
 obtain ⟨z61,z62,_⟩:=hp
 conv=>whnf
 refine Both.mk ?_ ?_<;>intro b63
 replace h:=cond_t b63 h
 conv=>whnf
 cases h
 conv=>whnf
 exact Side.mk ⟨rfl,trivial⟩ ⟨rfl,rfl⟩
 replace h:=cond_f b63 h
 conv=>whnf
 obtain ⟨c64,h⟩:=chk_some h
 refine Side.mk ⟨rfl,map_len (l:=[[]]) (c:=cL cI) fun _=>rfl,show capOk _ 24 by simpa only [List.length_map,List.length_cons,List.length_nil,Nat.zero_add] using c64⟩ ?_
 conv=>whnf
 refine Nf.mk (List.map (cL cI) (l_++[[]])) (app_map (l:=l_) (m:=[[]]) (c:=cL cI)) ?_
 conv=>whnf
 refine Side.mk rfl ?_
 conv=>whnf
 refine Nf.mk (List.length (l_++[[]])) len_map ?_
 conv=>whnf
 obtain ⟨c65,h⟩:=chk_some h
 refine Arith.mk c65 ?_
 conv=>whnf
 obtain ⟨y87,hc,hk66⟩:=bind_some h
 clear h
 have h:=hc
 clear hc
 refine Cut.mk (mkSt [(0,.osl 64 1),(1,.im (nL cI w_)),(5,.im (nI c51))] [(64,.row 51 1 (List.map (cL cI) y87))] []) (lZ w_∧lZ y87∧True) ((Holds.avl 1 rfl).and ((Holds.kdl 64 rfl).and (hT))) ?_ (fun hp=>?_)
 conv=>whnf
 refine Loops.iter (fun (s:List (List Int)×Int)=>R02_with.s2 c51 s.1 s.2) (fun (y93,i94)=>mkSt [(0,.osl 64 1),(1,.im (nL cI w_)),(5,.im (nI c51)),(6,.im (nI i94))] [(64,.row 51 1 (List.map (cL cI) y93))] []) (fun (y93,i94)=>lZ w_∧lZ y93∧True) h (eA [(64,some 64)]) (by rintro ⟨y93,i94⟩;exact ((Holds.avl 1 rfl).and ((Holds.kdl 64 rfl).and (hT)))) ?_
 clear h
 rintro k ⟨y93,i94⟩ o hp h ho100
 replace h:R02_with.s2 c51 y93 i94=some o:=h
 unfold R02_with.s2 at h
 obtain ⟨z106,z107,_⟩:=hp
 conv=>whnf
 refine Both.mk ?_ ?_<;>intro b101
 obtain ⟨h,b101d⟩:=ctd b101 h
 conv=>whnf
 obtain ⟨c102,h⟩:=chk_some h
 refine Arith.mk c102 ?_
 conv=>whnf
 obtain ⟨e103,he103z,he103,h⟩:=idx_some h
 refine Side.mk ⟨he103z,rfl,map_lt he103⟩ ?_
 conv=>whnf
 refine ⟨_,_,⟨rfl,map_at he103,rfl,rfl⟩,?_⟩
 conv=>whnf
 obtain ⟨e104,he104z,he104,h⟩:=idx_some h
 refine Side.mk ⟨he104z,rfl,map_lt he104⟩ ?_
 conv=>whnf
 refine Side.mk ⟨rfl,trivial⟩ ?_
 conv=>whnf
 refine ⟨_,map_at he104,?_⟩
 conv=>whnf
 refine Nf.mk (List.map (cL cI) (List.set y93 i94.toNat e103)) (set_map rfl) ?_
 conv=>whnf
 obtain ⟨c105,h⟩:=chk_some h
 refine Arith.mk c105 ?_
 conv=>whnf
 cases h
 exact Nxt.mk _ ho100 (eA [(64,some 64)])
 obtain ⟨h,b101d⟩:=cfd b101 h
 conv=>whnf
 cases h
 have ho100:_=_:=ho100
 cases ho100
 exact Join.mk (eA [(64,some 64)])
 replace h:=hk66
 obtain ⟨z108,z109,_⟩:=hp
 conv=>whnf
 obtain ⟨c110,h⟩:=chk_some h
 refine Side.mk ⟨rfl,map_len (l:=w_) (c:=cI) fun _=>rfl,show capOk _ 8 by simpa only [List.length_map,List.length_cons,List.length_nil,Nat.zero_add] using c110⟩ ?_
 conv=>whnf
 refine Nf.mk (List.map cI ([]++w_)) (app_map (l:=[]) (m:=w_) (c:=cI)) ?_
 conv=>whnf
 obtain ⟨e111,he111z,he111,h⟩:=idx_some h
 refine Side.mk ⟨he111z,rfl,map_lt he111⟩ ?_
 conv=>whnf
 refine Side.mk ⟨rfl,rfl,trivial⟩ ?_
 conv=>whnf
 refine ⟨_,map_at he111,?_⟩
 conv=>whnf
 refine Nf.mk (List.map (cL cI) (List.set y87 c51.toNat ([]++w_))) (set_map rfl) ?_
 conv=>whnf
 cases h
 conv=>whnf
 exact Side.mk ⟨rfl,trivial⟩ ⟨rfl,rfl⟩
theorem sp_R02_Prefixes (l_:List (List Int)) (r:List (List Int)) (h:Ok (nL (cL cI) l_)→R02_Prefixes l_=some r):Sp Tryz.prog 175 [.im (nL (cL cI) l_)] (.row 51 1 (List.map (cL cI) r)):=by
 refine sp_of rfl [29000] rfl rfl rfl (Nat.le_of_ble_eq_true rfl) rfl fun hk=>?_
 replace h:=h hk.1
 have z1:lZ l_:=ok_len hk.1
 unfold R02_Prefixes at h
 conv=>whnf
 obtain ⟨y204,hc,hk51⟩:=bind_some h
 clear h
 have h:=hc
 clear hc
 refine Cut.mk (mkSt [(3,.osl 64 1)] [(64,.row 51 1 (List.map (cL cI) y204))] []) (lZ y204∧True) ((Holds.kdl 64 rfl).and (hT)) ?_ (fun hp=>?_)
 conv=>whnf
 refine Loops.iter (fun (s:List (List Int)×Nat)=>R02_Prefixes.s14 l_ s.1 s.2) (fun (y254,i255)=>mkSt [(0,.im (nL (cL cI) l_)),(3,.osl 64 1),(4,.im (nI (↑i255:Int)))] [(64,.row 51 1 (List.map (cL cI) y254))] []) (fun (y254,i255)=>lZ l_∧lZ y254∧True) h (eA [(64,none)]) (by rintro ⟨y254,i255⟩;exact ((Holds.avl 0 rfl).and ((Holds.kdl 64 rfl).and (hT)))) ?_
 clear h
 rintro k ⟨y254,i255⟩ o hp h ho305
 replace h:R02_Prefixes.s14 l_ y254 i255=some o:=h
 unfold R02_Prefixes.s14 at h
 obtain ⟨z355,z356,_⟩:=hp
 conv=>whnf
 refine Nf.mk (List.length l_) len_map ?_
 conv=>whnf
 refine Both.mk ?_ ?_<;>intro b306
 obtain ⟨h,b306d⟩:=ctd b306 h
 conv=>whnf
 obtain ⟨y330,hc,hk307⟩:=bind_some h
 clear h
 have h:=hc
 clear hc
 refine Cut.mk (mkSt [(0,.im (nL (cL cI) l_)),(3,.osl 64 1),(4,.im (nI (↑i255:Int)))] [(64,.row 51 1 (List.map (cL cI) y330))] []) (lZ l_∧lZ y330∧True) ((Holds.avl 0 rfl).and ((Holds.kdl 64 rfl).and (hT))) ?_ (fun hp=>?_)
 conv=>whnf
 refine Loops.iter (fun (s:List (List Int)×Nat)=>R02_Prefixes.s13 l_ i255 s.1 s.2) (fun (y336,k337)=>mkSt [(0,.im (nL (cL cI) l_)),(3,.osl 64 1),(4,.im (nI (↑i255:Int))),(5,.im (nI (↑k337:Int)))] [(64,.row 51 1 (List.map (cL cI) y336))] []) (fun (y336,k337)=>lZ l_∧lZ y336∧True) h (eA [(64,some 64)]) (by rintro ⟨y336,k337⟩;exact ((Holds.avl 0 rfl).and ((Holds.kdl 64 rfl).and (hT)))) ?_
 clear h
 rintro k ⟨y336,k337⟩ o hp h ho344
 replace h:R02_Prefixes.s13 l_ i255 y336 k337=some o:=h
 unfold R02_Prefixes.s13 at h
 obtain ⟨z351,z352,_⟩:=hp
 conv=>whnf
 obtain ⟨e345,he345,h⟩:=idxn_some h
 refine ⟨_,⟨(by omega),map_at he345,rfl⟩,?_⟩
 conv=>whnf
 refine Nf.mk (List.length e345) len_map ?_
 conv=>whnf
 refine Both.mk ?_ ?_<;>intro b346
 obtain ⟨h,b346d⟩:=ctd b346 h
 conv=>whnf
 obtain ⟨e347,he347,h⟩:=idxn_some h
 refine ⟨_,⟨(by omega),map_at he347,rfl⟩,?_⟩
 conv=>whnf
 obtain ⟨c348,h⟩:=chk_some h
 refine Side.mk (show (0:Int)≤(0:Int)∧(0:Int)≤(↑k337:Int)∧(↑k337:Int)≤(↑(List.length (List.map cI e347)):Int)∧(∀ e∈List.map cI e347,List.length e=1) from ⟨by omega,by first | omega | (simp only [List.length_map];omega),by first | omega | (simp only [List.length_map];omega),map_len fun _=>rfl⟩) ?_
 conv=>whnf
 refine Nf.mk (List.map cI (List.take k337 e347)) take_map ?_
 conv=>whnf
 refine Side.mk ⟨rfl,trivial⟩ ?_
 conv=>whnf
 obtain ⟨c349,hc349,h⟩:=bind_some h
 refine ⟨_,(sp_R02_with y336 (List.take k337 e347) c349 (fun _ _=>hc349)),?_⟩
 conv=>whnf
 obtain ⟨c350,h⟩:=chk_some h
 refine Arith.mk c350 ?_
 conv=>whnf
 cases h
 exact Nxt.mk _ ho344 (eA [(64,some 28)])
 obtain ⟨h,b346d⟩:=cfd b346 h
 conv=>whnf
 cases h
 have ho344:_=_:=ho344
 cases ho344
 exact Join.mk (eA [(64,some 64)])
 replace h:=hk307
 obtain ⟨z353,z354,_⟩:=hp
 conv=>whnf
 refine Arith.mk (by show inR _;unfold inR;omega) ?_
 conv=>whnf
 cases h
 exact Nxt.mk _ ho305 (eA [(64,some 64)])
 obtain ⟨h,b306d⟩:=cfd b306 h
 conv=>whnf
 cases h
 have ho305:_=_:=ho305
 cases ho305
 exact Join.mk (eA [(64,some 64)])
 replace h:=hk51
 obtain ⟨z357,_⟩:=hp
 conv=>whnf
 cases h
 conv=>whnf
 exact Side.mk ⟨rfl,trivial⟩ ⟨rfl,rfl⟩
theorem sp_R01_Join (parts_:List (List Int)) (r:List Int) (h:Ok (nL (cL cI) parts_)→R01_Join parts_=some r):Sp Tryz.prog 64 [.im (nL (cL cI) parts_)] (.row 3 1 (List.map cI r)):=by
 refine sp_of rfl [] rfl rfl rfl (Nat.le_of_ble_eq_true rfl) rfl fun hk=>?_
 replace h:=h hk.1
 have z1:lZ parts_:=ok_len hk.1
 unfold R01_Join at h
 conv=>whnf
 obtain ⟨y66,hc,hk51⟩:=bind_some h
 clear h
 have h:=hc
 clear hc
 refine Cut.mk (mkSt [(3,.osl 64 1)] [(64,.row 3 1 (List.map cI y66))] []) (lZ y66∧True) ((Holds.kdl 64 rfl).and (hT)) ?_ (fun hp=>?_)
 conv=>whnf
 refine Loops.iter (fun (s:List Int×Nat)=>R01_Join.s2 parts_ s.1 s.2) (fun (y70,i71)=>mkSt [(0,.im (nL (cL cI) parts_)),(3,.osl 64 1),(4,.im (nI (↑i71:Int)))] [(64,.row 3 1 (List.map cI y70))] []) (fun (y70,i71)=>lZ parts_∧lZ y70∧True) h (eA [(64,none)]) (by rintro ⟨y70,i71⟩;exact ((Holds.avl 0 rfl).and ((Holds.kdl 64 rfl).and (hT)))) ?_
 clear h
 rintro k ⟨y70,i71⟩ o hp h ho75
 replace h:R01_Join.s2 parts_ y70 i71=some o:=h
 unfold R01_Join.s2 at h
 obtain ⟨z79,z80,_⟩:=hp
 conv=>whnf
 refine Nf.mk (List.length parts_) len_map ?_
 conv=>whnf
 refine Both.mk ?_ ?_<;>intro b76
 obtain ⟨h,b76d⟩:=ctd b76 h
 conv=>whnf
 obtain ⟨e77,he77,h⟩:=idxn_some h
 refine ⟨_,⟨(by omega),map_at he77,rfl⟩,?_⟩
 conv=>whnf
 obtain ⟨c78,h⟩:=chk_some h
 refine Side.mk ⟨rfl,map_len (l:=e77) (c:=cI) fun _=>rfl,show capOk _ 8 by simpa only [List.length_map,List.length_cons,List.length_nil,Nat.zero_add] using c78⟩ ?_
 conv=>whnf
 refine Nf.mk (List.map cI (y70++e77)) (app_map (l:=y70) (m:=e77) (c:=cI)) ?_
 conv=>whnf
 refine Arith.mk (by show inR _;unfold inR;omega) ?_
 conv=>whnf
 cases h
 exact Nxt.mk _ ho75 (eA [(64,some 64)])
 obtain ⟨h,b76d⟩:=cfd b76 h
 conv=>whnf
 cases h
 have ho75:_=_:=ho75
 cases ho75
 exact Join.mk (eA [(64,some 64)])
 replace h:=hk51
 obtain ⟨z81,_⟩:=hp
 conv=>whnf
 cases h
 conv=>whnf
 exact Side.mk ⟨rfl,trivial⟩ ⟨rfl,rfl⟩
theorem sp_R23_Joined (u_:List Int) (v_:List Int) (r:List Int) (h:Ok (nL cI u_)→Ok (nL cI v_)→R23_Joined u_ v_=some r):Sp Tryz.prog 172 [.im (nL cI u_),.im (nL cI v_)] (.im (nL cI r)):=by
 refine sp_of rfl [] rfl rfl rfl (Nat.le_of_ble_eq_true rfl) rfl fun hk=>?_
 replace h:=h hk.1 hk.2.1
 have z1:lZ u_:=ok_len hk.1
 have z2:lZ v_:=ok_len hk.2.1
 unfold R23_Joined at h
 conv=>whnf
 obtain ⟨c51,hc51,h⟩:=bind_some h
 refine ⟨_,(sp_R01_Join [u_,v_] c51 (fun _=>hc51)).im,?_⟩
 conv=>whnf
 cases h
 conv=>whnf
 exact ⟨rfl,rfl⟩
theorem sp_R23_copied (l_:List (List Int)) (r:List (List Int)) (h:Ok (nL (cL cI) l_)→R23_copied l_=some r):Sp Tryz.prog 133 [.im (nL (cL cI) l_)] (.row 51 1 (List.map (cL cI) r)):=by
 refine sp_of rfl [] rfl rfl rfl (Nat.le_of_ble_eq_true rfl) rfl fun hk=>?_
 replace h:=h hk.1
 have z1:lZ l_:=ok_len hk.1
 unfold R23_copied at h
 conv=>whnf
 obtain ⟨y68,hc,hk51⟩:=bind_some h
 clear h
 have h:=hc
 clear hc
 refine Cut.mk (mkSt [(3,.osl 64 1)] [(64,.row 51 1 (List.map (cL cI) y68))] []) (lZ y68∧True) ((Holds.kdl 64 rfl).and (hT)) ?_ (fun hp=>?_)
 conv=>whnf
 refine Loops.iter (fun (s:List (List Int)×Nat)=>R23_copied.s2 l_ s.1 s.2) (fun (y72,i73)=>mkSt [(0,.im (nL (cL cI) l_)),(3,.osl 64 1),(4,.im (nI (↑i73:Int)))] [(64,.row 51 1 (List.map (cL cI) y72))] []) (fun (y72,i73)=>lZ l_∧lZ y72∧True) h (eA [(64,none)]) (by rintro ⟨y72,i73⟩;exact ((Holds.avl 0 rfl).and ((Holds.kdl 64 rfl).and (hT)))) ?_
 clear h
 rintro k ⟨y72,i73⟩ o hp h ho78
 replace h:R23_copied.s2 l_ y72 i73=some o:=h
 unfold R23_copied.s2 at h
 obtain ⟨z83,z84,_⟩:=hp
 conv=>whnf
 refine Nf.mk (List.length l_) len_map ?_
 conv=>whnf
 refine Both.mk ?_ ?_<;>intro b79
 obtain ⟨h,b79d⟩:=ctd b79 h
 conv=>whnf
 obtain ⟨e80,he80,h⟩:=idxn_some h
 refine ⟨_,⟨(by omega),map_at he80,rfl⟩,?_⟩
 conv=>whnf
 obtain ⟨c81,hc81,h⟩:=bind_some h
 refine ⟨_,(sp_R23_Joined e80 [] c81 (fun _ _=>hc81)),?_⟩
 conv=>whnf
 obtain ⟨c82,h⟩:=chk_some h
 refine Side.mk ⟨rfl,map_len (l:=[c81]) (c:=cL cI) fun _=>rfl,show capOk _ 24 by simpa only [List.length_map,List.length_cons,List.length_nil,Nat.zero_add] using c82⟩ ?_
 conv=>whnf
 refine Nf.mk (List.map (cL cI) (y72++[c81])) (app_map (l:=y72) (m:=[c81]) (c:=cL cI)) ?_
 conv=>whnf
 refine Arith.mk (by show inR _;unfold inR;omega) ?_
 conv=>whnf
 cases h
 exact Nxt.mk _ ho78 (eA [(64,some 64)])
 obtain ⟨h,b79d⟩:=cfd b79 h
 conv=>whnf
 cases h
 have ho78:_=_:=ho78
 cases ho78
 exact Join.mk (eA [(64,some 64)])
 replace h:=hk51
 obtain ⟨z85,_⟩:=hp
 conv=>whnf
 cases h
 conv=>whnf
 exact Side.mk ⟨rfl,trivial⟩ ⟨rfl,rfl⟩
theorem sp_R02_Sorted (l_:List (List Int)) (r:List (List Int)) (h:Ok (nL (cL cI) l_)→R02_Sorted l_=some r):Sp Tryz.prog 137 [.im (nL (cL cI) l_)] (.row 51 1 (List.map (cL cI) r)):=by
 refine sp_of rfl [17000] rfl rfl rfl (Nat.le_of_ble_eq_true rfl) rfl fun hk=>?_
 replace h:=h hk.1
 have z1:lZ l_:=ok_len hk.1
 unfold R02_Sorted at h
 conv=>whnf
 obtain ⟨y66,hc,hk51⟩:=bind_some h
 clear h
 have h:=hc
 clear hc
 refine Cut.mk (mkSt [(3,.osl 64 1)] [(64,.row 51 1 (List.map (cL cI) y66))] []) (lZ y66∧True) ((Holds.kdl 64 rfl).and (hT)) ?_ (fun hp=>?_)
 conv=>whnf
 refine Loops.iter (fun (s:List (List Int)×Nat)=>R02_Sorted.s2 l_ s.1 s.2) (fun (y70,i71)=>mkSt [(0,.im (nL (cL cI) l_)),(3,.osl 64 1),(4,.im (nI (↑i71:Int)))] [(64,.row 51 1 (List.map (cL cI) y70))] []) (fun (y70,i71)=>lZ l_∧lZ y70∧True) h (eA [(64,none)]) (by rintro ⟨y70,i71⟩;exact ((Holds.avl 0 rfl).and ((Holds.kdl 64 rfl).and (hT)))) ?_
 clear h
 rintro k ⟨y70,i71⟩ o hp h ho75
 replace h:R02_Sorted.s2 l_ y70 i71=some o:=h
 unfold R02_Sorted.s2 at h
 obtain ⟨z79,z80,_⟩:=hp
 conv=>whnf
 refine Nf.mk (List.length l_) len_map ?_
 conv=>whnf
 refine Both.mk ?_ ?_<;>intro b76
 obtain ⟨h,b76d⟩:=ctd b76 h
 conv=>whnf
 obtain ⟨e77,he77,h⟩:=idxn_some h
 refine ⟨_,⟨(by omega),map_at he77,rfl⟩,?_⟩
 conv=>whnf
 refine Side.mk ⟨rfl,trivial⟩ ?_
 conv=>whnf
 obtain ⟨c78,hc78,h⟩:=bind_some h
 refine ⟨_,(sp_R02_with y70 e77 c78 (fun _ _=>hc78)),?_⟩
 conv=>whnf
 refine Arith.mk (by show inR _;unfold inR;omega) ?_
 conv=>whnf
 cases h
 exact Nxt.mk _ ho75 (eA [(64,some 16)])
 obtain ⟨h,b76d⟩:=cfd b76 h
 conv=>whnf
 cases h
 have ho75:_=_:=ho75
 cases ho75
 exact Join.mk (eA [(64,some 64)])
 replace h:=hk51
 obtain ⟨z81,_⟩:=hp
 conv=>whnf
 cases h
 conv=>whnf
 exact Side.mk ⟨rfl,trivial⟩ ⟨rfl,rfl⟩
theorem sp_R02_Union (lists_:List (List (List Int))) (r:List (List Int)) (h:Ok (nL (cL (cL cI)) lists_)→R02_Union lists_=some r):Sp Tryz.prog 72 [.im (nL (cL (cL cI)) lists_)] (.im (nL (cL cI) r)):=by
 refine sp_of rfl [] rfl rfl rfl (Nat.le_of_ble_eq_true rfl) rfl fun hk=>?_
 replace h:=h hk.1
 have z1:lZ lists_:=ok_len hk.1
 unfold R02_Union at h
 conv=>whnf
 obtain ⟨y66,hc,hk51⟩:=bind_some h
 clear h
 have h:=hc
 clear hc
 refine Cut.mk (mkSt [(3,.osl 64 1)] [(64,.row 51 1 (List.map (cL cI) y66))] []) (lZ y66∧True) ((Holds.kdl 64 rfl).and (hT)) ?_ (fun hp=>?_)
 conv=>whnf
 refine Loops.iter (fun (s:List (List Int)×Nat)=>R02_Union.s2 lists_ s.1 s.2) (fun (y70,i71)=>mkSt [(0,.im (nL (cL (cL cI)) lists_)),(3,.osl 64 1),(4,.im (nI (↑i71:Int)))] [(64,.row 51 1 (List.map (cL cI) y70))] []) (fun (y70,i71)=>lZ lists_∧lZ y70∧True) h (eA [(64,none)]) (by rintro ⟨y70,i71⟩;exact ((Holds.avl 0 rfl).and ((Holds.kdl 64 rfl).and (hT)))) ?_
 clear h
 rintro k ⟨y70,i71⟩ o hp h ho75
 replace h:R02_Union.s2 lists_ y70 i71=some o:=h
 unfold R02_Union.s2 at h
 obtain ⟨z79,z80,_⟩:=hp
 conv=>whnf
 refine Nf.mk (List.length lists_) len_map ?_
 conv=>whnf
 refine Both.mk ?_ ?_<;>intro b76
 obtain ⟨h,b76d⟩:=ctd b76 h
 conv=>whnf
 obtain ⟨e77,he77,h⟩:=idxn_some h
 refine ⟨_,⟨(by omega),map_at he77,rfl⟩,?_⟩
 conv=>whnf
 obtain ⟨c78,h⟩:=chk_some h
 refine Side.mk ⟨rfl,map_len (l:=e77) (c:=cL cI) fun _=>rfl,show capOk _ 24 by simpa only [List.length_map,List.length_cons,List.length_nil,Nat.zero_add] using c78⟩ ?_
 conv=>whnf
 refine Nf.mk (List.map (cL cI) (y70++e77)) (app_map (l:=y70) (m:=e77) (c:=cL cI)) ?_
 conv=>whnf
 refine Arith.mk (by show inR _;unfold inR;omega) ?_
 conv=>whnf
 cases h
 exact Nxt.mk _ ho75 (eA [(64,some 64)])
 obtain ⟨h,b76d⟩:=cfd b76 h
 conv=>whnf
 cases h
 have ho75:_=_:=ho75
 cases ho75
 exact Join.mk (eA [(64,some 64)])
 replace h:=hk51
 obtain ⟨z81,_⟩:=hp
 conv=>whnf
 refine Side.mk ⟨rfl,trivial⟩ ?_
 conv=>whnf
 obtain ⟨c82,hc82,h⟩:=bind_some h
 refine ⟨_,(sp_R02_Sorted y66 c82 (fun _=>hc82)).im,?_⟩
 conv=>whnf
 cases h
 conv=>whnf
 exact ⟨rfl,rfl⟩
theorem sp_R23_With (t_:T_api_Table) (prefixes_:List (List Int)) (suffixes_:List (List Int)) (r:T_api_Table) (h:Ok (.agg (c_api_Table t_))→Ok (nL (cL cI) prefixes_)→Ok (nL (cL cI) suffixes_)→R23_With t_ prefixes_ suffixes_=some r):Sp Tryz.prog 69 [.im (.agg (c_api_Table t_)),.im (nL (cL cI) prefixes_),.im (nL (cL cI) suffixes_)] (.im (.agg (c_api_Table r))):=by
 refine sp_of rfl [700003] rfl rfl rfl (Nat.le_of_ble_eq_true rfl) rfl fun hk=>?_
 replace h:=h hk.1 hk.2.1 hk.2.2.1
 have z1:lZ t_.Prefixes:=ok_len (Ok.agg_at hk.1 1 rfl)
 have z2:lZ t_.Suffixes:=ok_len (Ok.agg_at hk.1 2 rfl)
 have z3:lZ prefixes_:=ok_len hk.2.1
 have z4:lZ suffixes_:=ok_len hk.2.2.1
 unfold R23_With at h
 conv=>whnf
 obtain ⟨c51,hc51,h⟩:=bind_some h
 refine ⟨_,(sp_R23_copied t_.Prefixes c51 (fun _=>hc51)).im,?_⟩
 conv=>whnf
 obtain ⟨c52,hc52,h⟩:=bind_some h
 refine ⟨_,(sp_R23_copied prefixes_ c52 (fun _=>hc52)).im,?_⟩
 conv=>whnf
 obtain ⟨c53,hc53,h⟩:=bind_some h
 refine ⟨_,(sp_R02_Union [c51,c52] c53 (fun _=>hc53)),?_⟩
 conv=>whnf
 obtain ⟨c54,hc54,h⟩:=bind_some h
 refine ⟨_,(sp_R23_copied t_.Suffixes c54 (fun _=>hc54)).im,?_⟩
 conv=>whnf
 obtain ⟨c55,hc55,h⟩:=bind_some h
 refine ⟨_,(sp_R23_copied suffixes_ c55 (fun _=>hc55)).im,?_⟩
 conv=>whnf
 obtain ⟨c56,hc56,h⟩:=bind_some h
 refine ⟨_,(sp_R02_Union [c54,c55] c56 (fun _=>hc56)),?_⟩
 conv=>whnf
 refine Side.mk rfl ?_
 conv=>whnf
 cases h
 conv=>whnf
 refine Side.mk ⟨rfl,trivial⟩ ?_
 conv=>whnf
 exact ⟨rfl,rfl⟩
theorem sp_R23_Prefix (t_:T_api_Table) (w_:List Int) (r:T_api_Table×Int) (h:Ok (.agg (c_api_Table t_))→Ok (nL cI w_)→R23_Prefix t_ w_=some r):Sp Tryz.prog 109 [.im (.agg (c_api_Table t_)),.im (nL cI w_)] (.tup [.agg (c_api_Table r.1),nI r.2]):=by
 refine sp_of rfl [700002] rfl rfl rfl (Nat.le_of_ble_eq_true rfl) rfl fun hk=>?_
 replace h:=h hk.1 hk.2.1
 have z1:lZ t_.Prefixes:=ok_len (Ok.agg_at hk.1 1 rfl)
 have z2:lZ t_.Suffixes:=ok_len (Ok.agg_at hk.1 2 rfl)
 have z3:lZ w_:=ok_len hk.2.1
 unfold R23_Prefix at h
 conv=>whnf
 obtain ⟨c51,hc51,h⟩:=bind_some h
 refine ⟨_,(sp_R23_Valid t_ c51 (fun _=>hc51)),?_⟩
 conv=>whnf
 refine Both.mk ?_ ?_<;>intro b52
 obtain ⟨h,b52d⟩:=ctd b52 h
 conv=>whnf
 refine Side.mk rfl ?_
 conv=>whnf
 cases h
 conv=>whnf
 refine Side.mk ⟨rfl,trivial⟩ ?_
 conv=>whnf
 exact ⟨rfl,rfl⟩
 obtain ⟨h,b52d⟩:=cfd b52 h
 conv=>whnf
 obtain ⟨c53,hc53,h⟩:=bind_some h
 refine ⟨_,(sp_R01_Check w_ t_.Inputs c53 (fun _ _=>hc53)),?_⟩
 conv=>whnf
 refine Both.mk ?_ ?_<;>intro b54
 obtain ⟨h,b54d⟩:=ctd b54 h
 conv=>whnf
 refine Side.mk rfl ?_
 conv=>whnf
 cases h
 conv=>whnf
 refine Side.mk ⟨rfl,trivial⟩ ?_
 conv=>whnf
 exact ⟨rfl,rfl⟩
 obtain ⟨h,b54d⟩:=cfd b54 h
 conv=>whnf
 obtain ⟨c55,hc55,h⟩:=bind_some h
 refine ⟨_,(sp_R02_Prefixes [w_] c55 (fun _=>hc55)).im,?_⟩
 conv=>whnf
 obtain ⟨c56,hc56,h⟩:=bind_some h
 refine ⟨_,(sp_R23_With t_ c55 [] c56 (fun _ _ _=>hc56)),?_⟩
 conv=>whnf
 refine Side.mk rfl ?_
 conv=>whnf
 refine Side.mk rfl ?_
 conv=>whnf
 obtain ⟨c57,hc57,h⟩:=bind_some h
 refine ⟨_,(sp_R23_Valid c56 c57 (fun _=>hc57)),?_⟩
 conv=>whnf
 refine Both.mk ?_ ?_<;>intro b58
 obtain ⟨h,b58d⟩:=ctd b58 h
 conv=>whnf
 refine Side.mk rfl ?_
 conv=>whnf
 cases h
 conv=>whnf
 refine Side.mk ⟨rfl,trivial⟩ ?_
 conv=>whnf
 exact ⟨rfl,rfl⟩
 obtain ⟨h,b58d⟩:=cfd b58 h
 conv=>whnf
 refine Side.mk rfl ?_
 conv=>whnf
 refine Side.mk rfl ?_
 conv=>whnf
 cases h
 conv=>whnf
 refine Side.mk ⟨rfl,trivial⟩ ?_
 conv=>whnf
 exact ⟨rfl,rfl⟩
theorem sp_R23_Suffix (t_:T_api_Table) (w_:List Int) (r:T_api_Table×Int) (h:Ok (.agg (c_api_Table t_))→Ok (nL cI w_)→R23_Suffix t_ w_=some r):Sp Tryz.prog 111 [.im (.agg (c_api_Table t_)),.im (nL cI w_)] (.tup [.agg (c_api_Table r.1),nI r.2]):=by
 refine sp_of rfl [700002] rfl rfl rfl (Nat.le_of_ble_eq_true rfl) rfl fun hk=>?_
 replace h:=h hk.1 hk.2.1
 have z1:lZ t_.Prefixes:=ok_len (Ok.agg_at hk.1 1 rfl)
 have z2:lZ t_.Suffixes:=ok_len (Ok.agg_at hk.1 2 rfl)
 have z3:lZ w_:=ok_len hk.2.1
 unfold R23_Suffix at h
 conv=>whnf
 obtain ⟨c51,hc51,h⟩:=bind_some h
 refine ⟨_,(sp_R23_Valid t_ c51 (fun _=>hc51)),?_⟩
 conv=>whnf
 refine Both.mk ?_ ?_<;>intro b52
 obtain ⟨h,b52d⟩:=ctd b52 h
 conv=>whnf
 refine Side.mk rfl ?_
 conv=>whnf
 cases h
 conv=>whnf
 refine Side.mk ⟨rfl,trivial⟩ ?_
 conv=>whnf
 exact ⟨rfl,rfl⟩
 obtain ⟨h,b52d⟩:=cfd b52 h
 conv=>whnf
 refine Nf.mk (List.length w_) len_map ?_
 conv=>whnf
 refine Both.mk ?_ ?_<;>intro b53
 obtain ⟨h,b53d⟩:=ctd b53 h
 conv=>whnf
 refine Side.mk rfl ?_
 conv=>whnf
 cases h
 conv=>whnf
 refine Side.mk ⟨rfl,trivial⟩ ?_
 conv=>whnf
 exact ⟨rfl,rfl⟩
 obtain ⟨h,b53d⟩:=cfd b53 h
 conv=>whnf
 obtain ⟨c54,hc54,h⟩:=bind_some h
 refine ⟨_,(sp_R01_Check w_ t_.Inputs c54 (fun _ _=>hc54)),?_⟩
 conv=>whnf
 refine Both.mk ?_ ?_<;>intro b55
 obtain ⟨h,b55d⟩:=ctd b55 h
 conv=>whnf
 refine Side.mk rfl ?_
 conv=>whnf
 cases h
 conv=>whnf
 refine Side.mk ⟨rfl,trivial⟩ ?_
 conv=>whnf
 exact ⟨rfl,rfl⟩
 obtain ⟨h,b55d⟩:=cfd b55 h
 conv=>whnf
 obtain ⟨c56,hc56,h⟩:=bind_some h
 refine ⟨_,(sp_R23_With t_ [] [w_] c56 (fun _ _ _=>hc56)),?_⟩
 conv=>whnf
 refine Side.mk rfl ?_
 conv=>whnf
 refine Side.mk rfl ?_
 conv=>whnf
 obtain ⟨c57,hc57,h⟩:=bind_some h
 refine ⟨_,(sp_R23_Valid c56 c57 (fun _=>hc57)),?_⟩
 conv=>whnf
 refine Both.mk ?_ ?_<;>intro b58
 obtain ⟨h,b58d⟩:=ctd b58 h
 conv=>whnf
 refine Side.mk rfl ?_
 conv=>whnf
 cases h
 conv=>whnf
 refine Side.mk ⟨rfl,trivial⟩ ?_
 conv=>whnf
 exact ⟨rfl,rfl⟩
 obtain ⟨h,b58d⟩:=cfd b58 h
 conv=>whnf
 refine Side.mk rfl ?_
 conv=>whnf
 refine Side.mk rfl ?_
 conv=>whnf
 cases h
 conv=>whnf
 refine Side.mk ⟨rfl,trivial⟩ ?_
 conv=>whnf
 exact ⟨rfl,rfl⟩
theorem sp_R16_Answer (o_:T_api_Obs) (w_:List Int) (r:List Int×Bool) (h:Ok (.agg (c_api_Obs o_))→Ok (nL cI w_)→R16_Answer o_ w_=some r):Sp Tryz.prog 129 [.im (.agg (c_api_Obs o_)),.im (nL cI w_)] (.tup [nL cI r.1,nB r.2]):=by
 refine sp_of rfl [700002] rfl rfl rfl (Nat.le_of_ble_eq_true rfl) rfl fun hk=>?_
 replace h:=h hk.1 hk.2.1
 have z1:lZ o_.Traces:=ok_len (Ok.agg_at hk.1 1 rfl)
 have z2:lZ w_:=ok_len hk.2.1
 unfold R16_Answer at h
 conv=>whnf
 refine Nf.mk (List.length w_) len_map ?_
 conv=>whnf
 refine Both.mk ?_ ?_<;>intro b51
 obtain ⟨h,b51d⟩:=ctd b51 h
 conv=>whnf
 cases h
 conv=>whnf
 exact ⟨rfl,rfl⟩
 obtain ⟨h,b51d⟩:=cfd b51 h
 conv=>whnf
 obtain ⟨oc,hc,hk52⟩:=bind_some h
 clear h
 have h:=hc
 clear hc
 refine Cut.mkS oc (Y:=Unit) (fun (_:Unit)=>mkSt [] [] []) (fun (_:Unit)=>True) (by rintro ⟨⟩;exact (hT)) ?_ ?_
 conv=>whnf
 refine Loops.iter (fun (s:Nat)=>R16_Answer.s2 o_ w_ s) (fun i84=>mkSt [(1,.im (nL cI w_)),(2,.im (.ref (c_api_Obs o_))),(6,.im (nI (↑i84:Int)))] [] []) (fun i84=>lZ w_∧True) h (eA []) (by rintro i84;exact ((Holds.avl 1 rfl).and (hT))) ?_
 clear h
 rintro k i84 o hp h ho92
 replace h:R16_Answer.s2 o_ w_ i84=some o:=h
 unfold R16_Answer.s2 at h
 obtain ⟨z100,_⟩:=hp
 conv=>whnf
 refine Nf.mk (List.length o_.Traces) len_map ?_
 conv=>whnf
 refine Both.mk ?_ ?_<;>intro b93
 obtain ⟨h,b93d⟩:=ctd b93 h
 conv=>whnf
 obtain ⟨e94,he94,h⟩:=idxn_some h
 refine ⟨_,⟨(by omega),map_at he94,rfl⟩,?_⟩
 conv=>whnf
 obtain ⟨c95,hc95,h⟩:=bind_some h
 refine ⟨_,(sp_R01_HasPrefix e94.In w_ c95 (fun _ _=>hc95)),?_⟩
 conv=>whnf
 refine Both.mk ?_ ?_<;>intro b96
 replace h:=cond_t b96 h
 conv=>whnf
 obtain ⟨e97,he97,h⟩:=idxn_some h
 refine ⟨_,⟨(by omega),map_at he97,rfl⟩,?_⟩
 conv=>whnf
 refine Nf.mk (List.length w_) len_map ?_
 conv=>whnf
 obtain ⟨c98,h⟩:=chk_some h
 refine Side.mk (show (0:Int)≤(0:Int)∧(0:Int)≤(↑(List.length w_):Int)∧(↑(List.length w_):Int)≤(↑(List.length (List.map cI e97.Out)):Int)∧(∀ e∈List.map cI e97.Out,List.length e=1) from ⟨by omega,by first | omega | (simp only [List.length_map];omega),by first | omega | (simp only [List.length_map];omega),map_len fun _=>rfl⟩) ?_
 conv=>whnf
 refine Nf.mk (List.map cI (List.take (List.length w_) e97.Out)) take_map ?_
 conv=>whnf
 obtain ⟨c99,hc99,h⟩:=bind_some h
 refine ⟨_,(sp_R01_Join [(List.take (List.length w_) e97.Out)] c99 (fun _=>hc99)).im,?_⟩
 conv=>whnf
 cases h
 have ho92:_=_:=ho92
 cases ho92
 replace h:some _=some _:=hk52
 cases h
 conv=>whnf
 exact ⟨rfl,rfl⟩
 replace h:=cond_f b96 h
 conv=>whnf
 refine Arith.mk (by show inR _;unfold inR;omega) ?_
 conv=>whnf
 cases h
 exact Nxt.mk _ ho92 (eA [])
 obtain ⟨h,b93d⟩:=cfd b93 h
 conv=>whnf
 cases h
 have ho92:_=_:=ho92
 cases ho92
 exact JoinS.mk' _ rfl (eA [])
 rintro ⟨⟩ rfl hp
 replace h:=sum_inl hk52
 conv=>whnf
 cases h
 conv=>whnf
 exact ⟨rfl,rfl⟩
theorem sp_R02_Maximal (l_:List (List Int)) (r:List (List Int)) (h:Ok (nL (cL cI) l_)→R02_Maximal l_=some r):Sp Tryz.prog 130 [.im (nL (cL cI) l_)] (.row 51 1 (List.map (cL cI) r)):=by
 refine sp_of rfl [] rfl rfl rfl (Nat.le_of_ble_eq_true rfl) rfl fun hk=>?_
 replace h:=h hk.1
 have z1:lZ l_:=ok_len hk.1
 unfold R02_Maximal at h
 conv=>whnf
 obtain ⟨c51,hc51,h⟩:=bind_some h
 refine ⟨_,(sp_R02_Sorted l_ c51 (fun _=>hc51)).im,?_⟩
 conv=>whnf
 obtain ⟨y246,hc,hk52⟩:=bind_some h
 clear h
 have h:=hc
 clear hc
 refine Cut.mk (mkSt [(4,.osl 64 1)] [(64,.row 51 1 (List.map (cL cI) y246))] []) (lZ y246∧True) ((Holds.kdl 64 rfl).and (hT)) ?_ (fun hp=>?_)
 conv=>whnf
 refine Loops.iter (fun (s:List (List Int)×Nat)=>R02_Maximal.s14 c51 s.1 s.2) (fun (y307,i308)=>mkSt [(3,.im (nL (cL cI) c51)),(4,.osl 64 1),(5,.im (nI (↑i308:Int)))] [(64,.row 51 1 (List.map (cL cI) y307))] []) (fun (y307,i308)=>lZ c51∧lZ y307∧True) h (eA [(64,none)]) (by rintro ⟨y307,i308⟩;exact ((Holds.avl 3 rfl).and ((Holds.kdl 64 rfl).and (hT)))) ?_
 clear h
 rintro k ⟨y307,i308⟩ o hp h ho373
 replace h:R02_Maximal.s14 c51 y307 i308=some o:=h
 unfold R02_Maximal.s14 at h
 obtain ⟨z438,z439,_⟩:=hp
 conv=>whnf
 refine Nf.mk (List.length c51) len_map ?_
 conv=>whnf
 refine Both.mk ?_ ?_<;>intro b374
 obtain ⟨h,b374d⟩:=ctd b374 h
 conv=>whnf
 refine Arith.mk (by show inR _;unfold inR;omega) ?_
 conv=>whnf
 obtain ⟨top404,hc,hk375⟩:=bind_some h
 clear h
 have h:=hc
 clear hc
 refine Cut.mk (mkSt [(3,.im (nL (cL cI) c51)),(4,.osl 64 1),(5,.im (nI (↑i308:Int))),(6,.im (nB top404))] [(64,.row 51 1 (List.map (cL cI) y307))] []) (lZ c51∧lZ y307∧True) ((Holds.avl 3 rfl).and ((Holds.kdl 64 rfl).and (hT))) ?_ (fun hp=>?_)
 conv=>whnf
 refine Loops.iter (fun (s:Bool×Nat)=>R02_Maximal.s13 c51 i308 s.1 s.2) (fun (top412,k413)=>mkSt [(3,.im (nL (cL cI) c51)),(4,.osl 64 1),(5,.im (nI (↑i308:Int))),(6,.im (nB top412)),(7,.im (nI (↑k413:Int)))] [(64,.row 51 1 (List.map (cL cI) y307))] []) (fun (top412,k413)=>lZ c51∧lZ y307∧True) h (eA [(64,some 64)]) (by rintro ⟨top412,k413⟩;exact ((Holds.avl 3 rfl).and ((Holds.kdl 64 rfl).and (hT)))) ?_
 clear h
 rintro k ⟨top412,k413⟩ o hp h ho422
 replace h:R02_Maximal.s13 c51 i308 top412 k413=some o:=h
 unfold R02_Maximal.s13 at h
 obtain ⟨z431,z432,_⟩:=hp
 conv=>whnf
 refine Nf.mk (List.length c51) len_map ?_
 conv=>whnf
 refine Both.mk ?_ ?_<;>intro b423
 obtain ⟨h,b423d⟩:=ctd b423 h
 conv=>whnf
 refine Both.mk ?_ ?_<;>intro b424
 replace b424:=beq_tt b424
 replace h:=cond_t b424 h
 conv=>whnf
 iterate 2 (refine Both.yes (tt_beq b424) ?_;(conv=>whnf))
 obtain ⟨e425,he425,h⟩:=idxn_some h
 refine ⟨_,⟨(by omega),map_at he425,rfl⟩,?_⟩
 conv=>whnf
 iterate 2 (refine Both.yes (tt_beq b424) ?_;(conv=>whnf))
 refine Nf.mk (List.length e425) len_map ?_
 conv=>whnf
 iterate 3 (refine Both.yes (tt_beq b424) ?_;(conv=>whnf))
 obtain ⟨e426,he426,h⟩:=idxn_some h
 refine ⟨_,⟨(by omega),map_at he426,rfl⟩,?_⟩
 conv=>whnf
 iterate 2 (refine Both.yes (tt_beq b424) ?_;(conv=>whnf))
 refine Nf.mk (List.length e426) len_map ?_
 conv=>whnf
 iterate 2 (refine Both.yes (tt_beq b424) ?_;(conv=>whnf))
 refine Both.mk ?_ ?_<;>intro b427
 replace b427:=beq_ff b427
 obtain ⟨h,b427d⟩:=cfd b427 h
 conv=>whnf
 iterate 2 (refine Both.yes (ff_beq b427) ?_;(conv=>whnf))
 obtain ⟨e428,he428,h⟩:=idxn_some h
 refine ⟨_,⟨(by omega),map_at he428,rfl⟩,?_⟩
 conv=>whnf
 iterate 4 (refine Both.yes (ff_beq b427) ?_;(conv=>whnf))
 obtain ⟨e429,he429,h⟩:=idxn_some h
 refine ⟨_,⟨(by omega),map_at he429,rfl⟩,?_⟩
 conv=>whnf
 iterate 2 (refine Both.yes (ff_beq b427) ?_;(conv=>whnf))
 obtain ⟨c430,hc430,h⟩:=bind_some h
 refine ⟨_,(sp_R01_HasPrefix e428 e429 c430 (fun _ _=>hc430)),?_⟩
 conv=>whnf
 refine Both.yes (ff_beq b427) ?_
 conv=>whnf
 refine Both.yes (tt_beq b424) ?_
 conv=>whnf
 refine Both.no b427 ?_
 conv=>whnf
 refine Both.yes b424 ?_
 conv=>whnf
 refine Arith.mk (by show inR _;unfold inR;omega) ?_
 conv=>whnf
 cases h
 exact Nxt.mk _ ho422 (eA [(64,some 64)])
 replace b427:=beq_ft b427
 obtain ⟨h,b427d⟩:=ctd b427 h
 conv=>whnf
 iterate 9 (refine Both.no (tf_beq b427) ?_;(conv=>whnf))
 refine Both.yes (tt_beq b424) ?_
 conv=>whnf
 refine Both.yes b427 ?_
 conv=>whnf
 refine Both.yes b424 ?_
 conv=>whnf
 refine Arith.mk (by show inR _;unfold inR;omega) ?_
 conv=>whnf
 cases h
 exact Nxt.mk _ ho422 (eA [(64,some 64)])
 replace b424:=beq_tf b424
 replace h:=cond_f b424 h
 conv=>whnf
 iterate 12 (refine Both.no (ft_beq b424) ?_;(conv=>whnf))
 refine Both.no b424 ?_
 conv=>whnf
 refine Arith.mk (by show inR _;unfold inR;omega) ?_
 conv=>whnf
 cases h
 exact Nxt.mk _ ho422 (eA [(64,some 64)])
 obtain ⟨h,b423d⟩:=cfd b423 h
 conv=>whnf
 cases h
 have ho422:_=_:=ho422
 cases ho422
 exact Join.mk (eA [(64,some 64)])
 replace h:=hk375
 obtain ⟨z433,z434,_⟩:=hp
 conv=>whnf
 refine Both.mk ?_ ?_<;>intro b435
 replace h:=cond_t b435 h
 conv=>whnf
 obtain ⟨e436,he436,h⟩:=idxn_some h
 refine ⟨_,⟨(by omega),map_at he436,rfl⟩,?_⟩
 conv=>whnf
 obtain ⟨c437,h⟩:=chk_some h
 refine Side.mk ⟨rfl,map_len (l:=[e436]) (c:=cL cI) fun _=>rfl,show capOk _ 24 by simpa only [List.length_map,List.length_cons,List.length_nil,Nat.zero_add] using c437⟩ ?_
 conv=>whnf
 refine Nf.mk (List.map (cL cI) (y307++[e436])) (app_map (l:=y307) (m:=[e436]) (c:=cL cI)) ?_
 conv=>whnf
 refine Arith.mk (by show inR _;unfold inR;omega) ?_
 conv=>whnf
 cases h
 exact Nxt.mk _ ho373 (eA [(64,some 64)])
 replace h:=cond_f b435 h
 conv=>whnf
 refine Arith.mk (by show inR _;unfold inR;omega) ?_
 conv=>whnf
 cases h
 exact Nxt.mk _ ho373 (eA [(64,some 64)])
 obtain ⟨h,b374d⟩:=cfd b374 h
 conv=>whnf
 cases h
 have ho373:_=_:=ho373
 cases ho373
 exact Join.mk (eA [(64,some 64)])
 replace h:=hk52
 obtain ⟨z440,_⟩:=hp
 conv=>whnf
 cases h
 conv=>whnf
 exact Side.mk ⟨rfl,trivial⟩ ⟨rfl,rfl⟩
theorem sp_R23_Check (t_:T_api_Table) (o_:T_api_Obs) (r:Int) (h:Ok (.agg (c_api_Table t_))→Ok (.agg (c_api_Obs o_))→R23_Check t_ o_=some r):Sp Tryz.prog 170 [.im (.agg (c_api_Table t_)),.im (.agg (c_api_Obs o_))] (.im (nI r)):=by
 refine sp_of rfl [700002,700003] rfl rfl rfl (Nat.le_of_ble_eq_true rfl) rfl fun hk=>?_
 replace h:=h hk.1 hk.2.1
 have z1:lZ t_.Prefixes:=ok_len (Ok.agg_at hk.1 1 rfl)
 have z2:lZ t_.Suffixes:=ok_len (Ok.agg_at hk.1 2 rfl)
 have z3:lZ o_.Traces:=ok_len (Ok.agg_at hk.2.1 1 rfl)
 unfold R23_Check at h
 conv=>whnf
 obtain ⟨c51,hc51,h⟩:=bind_some h
 refine ⟨_,(sp_R23_Valid t_ c51 (fun _=>hc51)),?_⟩
 conv=>whnf
 refine Both.mk ?_ ?_<;>intro b52
 obtain ⟨h,b52d⟩:=ctd b52 h
 conv=>whnf
 cases h
 conv=>whnf
 exact ⟨rfl,rfl⟩
 obtain ⟨h,b52d⟩:=cfd b52 h
 conv=>whnf
 refine Both.mk ?_ ?_<;>intro b53
 obtain ⟨h,b53d⟩:=ctd b53 h
 conv=>whnf
 cases h
 conv=>whnf
 exact ⟨rfl,rfl⟩
 obtain ⟨h,b53d⟩:=cfd b53 h
 conv=>whnf
 cases h
 conv=>whnf
 exact ⟨rfl,rfl⟩
theorem sp_R23_Extensions (t_:T_api_Table) (r:List (List Int)) (h:Ok (.agg (c_api_Table t_))→R23_Extensions t_=some r):Sp Tryz.prog 171 [.im (.agg (c_api_Table t_))] (.im (nL (cL cI) r)):=by
 refine sp_of rfl [700001] rfl rfl rfl (Nat.le_of_ble_eq_true rfl) rfl fun hk=>?_
 replace h:=h hk.1
 have z1:lZ t_.Prefixes:=ok_len (Ok.agg_at hk.1 1 rfl)
 have z2:lZ t_.Suffixes:=ok_len (Ok.agg_at hk.1 2 rfl)
 unfold R23_Extensions at h
 conv=>whnf
 obtain ⟨y174,hc,hk51⟩:=bind_some h
 clear h
 have h:=hc
 clear hc
 refine Cut.mk (mkSt [(3,.osl 64 1)] [(64,.row 51 1 (List.map (cL cI) y174))] []) (lZ y174∧True) ((Holds.kdl 64 rfl).and (hT)) ?_ (fun hp=>?_)
 conv=>whnf
 refine Loops.iter (fun (s:List (List Int)×Nat)=>R23_Extensions.s14 t_ s.1 s.2) (fun (y213,i214)=>mkSt [(1,.im (.ref (c_api_Table t_))),(3,.osl 64 1),(4,.im (nI (↑i214:Int)))] [(64,.row 51 1 (List.map (cL cI) y213))] []) (fun (y213,i214)=>lZ y213∧True) h (eA [(64,none)]) (by rintro ⟨y213,i214⟩;exact ((Holds.kdl 64 rfl).and (hT))) ?_
 clear h
 rintro k ⟨y213,i214⟩ o hp h ho255
 replace h:R23_Extensions.s14 t_ y213 i214=some o:=h
 unfold R23_Extensions.s14 at h
 obtain ⟨z296,_⟩:=hp
 conv=>whnf
 refine Nf.mk (List.length t_.Prefixes) len_map ?_
 conv=>whnf
 refine Both.mk ?_ ?_<;>intro b256
 obtain ⟨h,b256d⟩:=ctd b256 h
 conv=>whnf
 obtain ⟨y276,hc,hk257⟩:=bind_some h
 clear h
 have h:=hc
 clear hc
 refine Cut.mk (mkSt [(1,.im (.ref (c_api_Table t_))),(3,.osl 64 1),(4,.im (nI (↑i214:Int)))] [(64,.row 51 1 (List.map (cL cI) y276))] []) (lZ y276∧True) ((Holds.kdl 64 rfl).and (hT)) ?_ (fun hp=>?_)
 conv=>whnf
 refine Loops.iter (fun (s:List (List Int)×Nat)=>R23_Extensions.s13 t_ i214 s.1 s.2) (fun (y281,a282)=>mkSt [(1,.im (.ref (c_api_Table t_))),(3,.osl 64 1),(4,.im (nI (↑i214:Int))),(5,.im (nI (↑a282:Int)))] [(64,.row 51 1 (List.map (cL cI) y281))] []) (fun (y281,a282)=>lZ y281∧True) h (eA [(64,some 64)]) (by rintro ⟨y281,a282⟩;exact ((Holds.kdl 64 rfl).and (hT))) ?_
 clear h
 rintro k ⟨y281,a282⟩ o hp h ho288
 replace h:R23_Extensions.s13 t_ i214 y281 a282=some o:=h
 unfold R23_Extensions.s13 at h
 obtain ⟨z294,_⟩:=hp
 conv=>whnf
 refine Both.mk ?_ ?_<;>intro b289
 obtain ⟨h,b289d⟩:=ctd b289 h
 conv=>whnf
 obtain ⟨e290,he290,h⟩:=idxn_some h
 refine ⟨_,⟨(by omega),map_at he290,rfl⟩,?_⟩
 conv=>whnf
 obtain ⟨c291,hc291,h⟩:=bind_some h
 refine ⟨_,(sp_R23_Joined e290 [(↑a282:Int)] c291 (fun _ _=>hc291)),?_⟩
 conv=>whnf
 obtain ⟨c292,h⟩:=chk_some h
 refine Side.mk ⟨rfl,map_len (l:=[c291]) (c:=cL cI) fun _=>rfl,show capOk _ 24 by simpa only [List.length_map,List.length_cons,List.length_nil,Nat.zero_add] using c292⟩ ?_
 conv=>whnf
 refine Nf.mk (List.map (cL cI) (y281++[c291])) (app_map (l:=y281) (m:=[c291]) (c:=cL cI)) ?_
 conv=>whnf
 obtain ⟨c293,h⟩:=chk_some h
 refine Arith.mk c293 ?_
 conv=>whnf
 cases h
 exact Nxt.mk _ ho288 (eA [(64,some 64)])
 obtain ⟨h,b289d⟩:=cfd b289 h
 conv=>whnf
 cases h
 have ho288:_=_:=ho288
 cases ho288
 exact Join.mk (eA [(64,some 64)])
 replace h:=hk257
 obtain ⟨z295,_⟩:=hp
 conv=>whnf
 refine Arith.mk (by show inR _;unfold inR;omega) ?_
 conv=>whnf
 cases h
 exact Nxt.mk _ ho255 (eA [(64,some 64)])
 obtain ⟨h,b256d⟩:=cfd b256 h
 conv=>whnf
 cases h
 have ho255:_=_:=ho255
 cases ho255
 exact Join.mk (eA [(64,some 64)])
 replace h:=hk51
 obtain ⟨z297,_⟩:=hp
 conv=>whnf
 refine Side.mk ⟨rfl,trivial⟩ ?_
 conv=>whnf
 obtain ⟨c298,hc298,h⟩:=bind_some h
 refine ⟨_,(sp_R02_Sorted y174 c298 (fun _=>hc298)).im,?_⟩
 conv=>whnf
 cases h
 conv=>whnf
 exact ⟨rfl,rfl⟩
theorem sp_R23_Needed (t_:T_api_Table) (o_:T_api_Obs) (r:List (List Int)×Int) (h:Ok (.agg (c_api_Table t_))→Ok (.agg (c_api_Obs o_))→R23_Needed t_ o_=some r):Sp Tryz.prog 107 [.im (.agg (c_api_Table t_)),.im (.agg (c_api_Obs o_))] (.tup [nL (cL cI) r.1,nI r.2]):=by
 refine sp_of rfl [700002,700003] rfl rfl rfl (Nat.le_of_ble_eq_true rfl) rfl fun hk=>?_
 replace h:=h hk.1 hk.2.1
 have z1:lZ t_.Prefixes:=ok_len (Ok.agg_at hk.1 1 rfl)
 have z2:lZ t_.Suffixes:=ok_len (Ok.agg_at hk.1 2 rfl)
 have z3:lZ o_.Traces:=ok_len (Ok.agg_at hk.2.1 1 rfl)
 unfold R23_Needed at h
 conv=>whnf
 obtain ⟨c51,hc51,h⟩:=bind_some h
 refine ⟨_,(sp_R23_Check t_ o_ c51 (fun _ _=>hc51)),?_⟩
 conv=>whnf
 refine Both.mk ?_ ?_<;>intro b52
 obtain ⟨h,b52d⟩:=ctd b52 h
 conv=>whnf
 cases h
 conv=>whnf
 exact ⟨rfl,rfl⟩
 obtain ⟨h,b52d⟩:=cfd b52 h
 conv=>whnf
 obtain ⟨c53,hc53,h⟩:=bind_some h
 refine ⟨_,(sp_R23_Extensions t_ c53 (fun _=>hc53)),?_⟩
 conv=>whnf
 obtain ⟨c54,hc54,h⟩:=bind_some h
 refine ⟨_,(sp_R02_Union [t_.Prefixes,c53] c54 (fun _=>hc54)),?_⟩
 conv=>whnf
 obtain ⟨y230,hc,hk55⟩:=bind_some h
 clear h
 have h:=hc
 clear hc
 refine Cut.mk (mkSt [(8,.osl 64 1)] [(64,.row 51 1 (List.map (cL cI) y230))] []) (lZ y230∧True) ((Holds.kdl 64 rfl).and (hT)) ?_ (fun hp=>?_)
 conv=>whnf
 refine Loops.iter (fun (s:List (List Int)×Nat)=>R23_Needed.s14 t_ o_ c54 s.1 s.2) (fun (y286,i287)=>mkSt [(2,.im (.ref (c_api_Table t_))),(3,.im (.ref (c_api_Obs o_))),(7,.im (nL (cL cI) c54)),(8,.osl 64 1),(9,.im (nI (↑i287:Int)))] [(64,.row 51 1 (List.map (cL cI) y286))] []) (fun (y286,i287)=>lZ c54∧lZ y286∧True) h (eA [(64,none)]) (by rintro ⟨y286,i287⟩;exact ((Holds.avl 7 rfl).and ((Holds.kdl 64 rfl).and (hT)))) ?_
 clear h
 rintro k ⟨y286,i287⟩ o hp h ho345
 replace h:R23_Needed.s14 t_ o_ c54 y286 i287=some o:=h
 unfold R23_Needed.s14 at h
 obtain ⟨z403,z404,_⟩:=hp
 conv=>whnf
 refine Nf.mk (List.length c54) len_map ?_
 conv=>whnf
 refine Both.mk ?_ ?_<;>intro b346
 obtain ⟨h,b346d⟩:=ctd b346 h
 conv=>whnf
 obtain ⟨y374,hc,hk347⟩:=bind_some h
 clear h
 have h:=hc
 clear hc
 refine Cut.mk (mkSt [(2,.im (.ref (c_api_Table t_))),(3,.im (.ref (c_api_Obs o_))),(7,.im (nL (cL cI) c54)),(8,.osl 64 1),(9,.im (nI (↑i287:Int)))] [(64,.row 51 1 (List.map (cL cI) y374))] []) (lZ c54∧lZ y374∧True) ((Holds.avl 7 rfl).and ((Holds.kdl 64 rfl).and (hT))) ?_ (fun hp=>?_)
 conv=>whnf
 refine Loops.iter (fun (s:List (List Int)×Nat)=>R23_Needed.s13 t_ o_ c54 i287 s.1 s.2) (fun (y382,k383)=>mkSt [(2,.im (.ref (c_api_Table t_))),(3,.im (.ref (c_api_Obs o_))),(7,.im (nL (cL cI) c54)),(8,.osl 64 1),(9,.im (nI (↑i287:Int))),(10,.im (nI (↑k383:Int)))] [(64,.row 51 1 (List.map (cL cI) y382))] []) (fun (y382,k383)=>lZ c54∧lZ y382∧True) h (eA [(64,some 64)]) (by rintro ⟨y382,k383⟩;exact ((Holds.avl 7 rfl).and ((Holds.kdl 64 rfl).and (hT)))) ?_
 clear h
 rintro k ⟨y382,k383⟩ o hp h ho391
 replace h:R23_Needed.s13 t_ o_ c54 i287 y382 k383=some o:=h
 unfold R23_Needed.s13 at h
 obtain ⟨z399,z400,_⟩:=hp
 conv=>whnf
 refine Nf.mk (List.length t_.Suffixes) len_map ?_
 conv=>whnf
 refine Both.mk ?_ ?_<;>intro b392
 obtain ⟨h,b392d⟩:=ctd b392 h
 conv=>whnf
 obtain ⟨e393,he393,h⟩:=idxn_some h
 refine ⟨_,⟨(by omega),map_at he393,rfl⟩,?_⟩
 conv=>whnf
 obtain ⟨e394,he394,h⟩:=idxn_some h
 refine ⟨_,⟨(by omega),map_at he394,rfl⟩,?_⟩
 conv=>whnf
 obtain ⟨c395,hc395,h⟩:=bind_some h
 refine ⟨_,(sp_R23_Joined e393 e394 c395 (fun _ _=>hc395)),?_⟩
 conv=>whnf
 obtain ⟨c396,hc396,h⟩:=bind_some h
 refine ⟨_,(sp_R16_Answer o_ c395 c396 (fun _ _=>hc396)),?_⟩
 conv=>whnf
 refine Both.mk ?_ ?_<;>intro b397
 replace h:=cond_t b397 h
 conv=>whnf
 obtain ⟨c398,h⟩:=chk_some h
 refine Side.mk ⟨rfl,map_len (l:=[c395]) (c:=cL cI) fun _=>rfl,show capOk _ 24 by simpa only [List.length_map,List.length_cons,List.length_nil,Nat.zero_add] using c398⟩ ?_
 conv=>whnf
 refine Nf.mk (List.map (cL cI) (y382++[c395])) (app_map (l:=y382) (m:=[c395]) (c:=cL cI)) ?_
 conv=>whnf
 refine Arith.mk (by show inR _;unfold inR;omega) ?_
 conv=>whnf
 cases h
 exact Nxt.mk _ ho391 (eA [(64,some 64)])
 replace h:=cond_f b397 h
 conv=>whnf
 refine Arith.mk (by show inR _;unfold inR;omega) ?_
 conv=>whnf
 cases h
 exact Nxt.mk _ ho391 (eA [(64,some 64)])
 obtain ⟨h,b392d⟩:=cfd b392 h
 conv=>whnf
 cases h
 have ho391:_=_:=ho391
 cases ho391
 exact Join.mk (eA [(64,some 64)])
 replace h:=hk347
 obtain ⟨z401,z402,_⟩:=hp
 conv=>whnf
 refine Arith.mk (by show inR _;unfold inR;omega) ?_
 conv=>whnf
 cases h
 exact Nxt.mk _ ho345 (eA [(64,some 64)])
 obtain ⟨h,b346d⟩:=cfd b346 h
 conv=>whnf
 cases h
 have ho345:_=_:=ho345
 cases ho345
 exact Join.mk (eA [(64,some 64)])
 replace h:=hk55
 obtain ⟨z405,_⟩:=hp
 conv=>whnf
 refine Side.mk ⟨rfl,trivial⟩ ?_
 conv=>whnf
 obtain ⟨c406,hc406,h⟩:=bind_some h
 refine ⟨_,(sp_R02_Maximal y230 c406 (fun _=>hc406)).im,?_⟩
 conv=>whnf
 cases h
 conv=>whnf
 exact ⟨rfl,rfl⟩
theorem sp_R23_After (o_:T_api_Obs) (w_:List Int) (e_:List Int) (r:List Int×Bool) (h:Ok (.agg (c_api_Obs o_))→Ok (nL cI w_)→Ok (nL cI e_)→R23_After o_ w_ e_=some r):Sp Tryz.prog 132 [.im (.agg (c_api_Obs o_)),.im (nL cI w_),.im (nL cI e_)] (.tup [nL cI r.1,nB r.2]):=by
 refine sp_of rfl [700003] rfl rfl rfl (Nat.le_of_ble_eq_true rfl) rfl fun hk=>?_
 replace h:=h hk.1 hk.2.1 hk.2.2.1
 have z1:lZ o_.Traces:=ok_len (Ok.agg_at hk.1 1 rfl)
 have z2:lZ w_:=ok_len hk.2.1
 have z3:lZ e_:=ok_len hk.2.2.1
 unfold R23_After at h
 conv=>whnf
 obtain ⟨c51,hc51,h⟩:=bind_some h
 refine ⟨_,(sp_R23_Joined w_ e_ c51 (fun _ _=>hc51)),?_⟩
 conv=>whnf
 obtain ⟨c52,hc52,h⟩:=bind_some h
 refine ⟨_,(sp_R16_Answer o_ c51 c52 (fun _ _=>hc52)),?_⟩
 conv=>whnf
 refine Both.mk ?_ ?_<;>intro b53
 replace h:=cond_t b53 h
 conv=>whnf
 cases h
 conv=>whnf
 exact ⟨rfl,rfl⟩
 replace h:=cond_f b53 h
 conv=>whnf
 refine Nf.mk (List.length w_) len_map ?_
 conv=>whnf
 obtain ⟨c54,h⟩:=chk_some h
 refine Side.mk (show (0:Int)≤(↑(List.length w_):Int)∧(↑(List.length w_):Int)≤(↑(List.length (List.map cI c52.1)):Int)∧(↑(List.length (List.map cI c52.1)):Int)≤(↑(List.length (List.map cI c52.1)):Int)∧(∀ e∈List.map cI c52.1,List.length e=1) from ⟨by omega,by first | omega | (simp only [List.length_map];omega),by first | omega | (simp only [List.length_map];omega),map_len fun _=>rfl⟩) ?_
 conv=>whnf
 refine Nf.mk (List.map cI (List.drop (List.length w_) c52.1)) drop_map ?_
 conv=>whnf
 cases h
 conv=>whnf
 exact ⟨rfl,rfl⟩
theorem sp_R23_row (o_:T_api_Obs) (suffixes_:List (List Int)) (w_:List Int) (r:List (List Int)×Bool) (h:Ok (.agg (c_api_Obs o_))→Ok (nL (cL cI) suffixes_)→Ok (nL cI w_)→R23_row o_ suffixes_ w_=some r):Sp Tryz.prog 176 [.im (.agg (c_api_Obs o_)),.im (nL (cL cI) suffixes_),.im (nL cI w_)] (.tup [nL (cL cI) r.1,nB r.2]):=by
 refine sp_of rfl [700003] rfl rfl rfl (Nat.le_of_ble_eq_true rfl) rfl fun hk=>?_
 replace h:=h hk.1 hk.2.1 hk.2.2.1
 have z1:lZ o_.Traces:=ok_len (Ok.agg_at hk.1 1 rfl)
 have z2:lZ suffixes_:=ok_len hk.2.1
 have z3:lZ w_:=ok_len hk.2.2.1
 unfold R23_row at h
 conv=>whnf
 obtain ⟨oc,hc,hk51⟩:=bind_some h
 clear h
 have h:=hc
 clear hc
 refine Cut.mkS oc (Y:=List (List Int)) (fun y72=>mkSt [(8,.osl 64 1)] [(64,.row 51 1 (List.map (cL cI) y72))] []) (fun y72=>lZ y72∧True) (by rintro y72;exact ((Holds.kdl 64 rfl).and (hT))) ?_ ?_
 conv=>whnf
 refine Loops.iter (fun (s:List (List Int)×Nat)=>R23_row.s2 o_ suffixes_ w_ s.1 s.2) (fun (y77,k78)=>mkSt [(1,.im (nL (cL cI) suffixes_)),(2,.im (nL cI w_)),(3,.im (.ref (c_api_Obs o_))),(8,.osl 64 1),(9,.im (nI (↑k78:Int)))] [(64,.row 51 1 (List.map (cL cI) y77))] []) (fun (y77,k78)=>lZ suffixes_∧lZ w_∧lZ y77∧True) h (eA [(64,none)]) (by rintro ⟨y77,k78⟩;exact ((Holds.avl 1 rfl).and ((Holds.avl 2 rfl).and ((Holds.kdl 64 rfl).and (hT))))) ?_
 clear h
 rintro k ⟨y77,k78⟩ o hp h ho84
 replace h:R23_row.s2 o_ suffixes_ w_ y77 k78=some o:=h
 unfold R23_row.s2 at h
 obtain ⟨z90,z91,z92,_⟩:=hp
 conv=>whnf
 refine Nf.mk (List.length suffixes_) len_map ?_
 conv=>whnf
 refine Both.mk ?_ ?_<;>intro b85
 obtain ⟨h,b85d⟩:=ctd b85 h
 conv=>whnf
 obtain ⟨e86,he86,h⟩:=idxn_some h
 refine ⟨_,⟨(by omega),map_at he86,rfl⟩,?_⟩
 conv=>whnf
 obtain ⟨c87,hc87,h⟩:=bind_some h
 refine ⟨_,(sp_R23_After o_ w_ e86 c87 (fun _ _ _=>hc87)),?_⟩
 conv=>whnf
 refine Both.mk ?_ ?_<;>intro b88
 replace h:=cond_t b88 h
 conv=>whnf
 cases h
 have ho84:_=_:=ho84
 cases ho84
 replace h:some _=some _:=hk51
 cases h
 conv=>whnf
 exact ⟨rfl,rfl⟩
 replace h:=cond_f b88 h
 conv=>whnf
 obtain ⟨c89,h⟩:=chk_some h
 refine Side.mk ⟨rfl,map_len (l:=[c87.1]) (c:=cL cI) fun _=>rfl,show capOk _ 24 by simpa only [List.length_map,List.length_cons,List.length_nil,Nat.zero_add] using c89⟩ ?_
 conv=>whnf
 refine Nf.mk (List.map (cL cI) (y77++[c87.1])) (app_map (l:=y77) (m:=[c87.1]) (c:=cL cI)) ?_
 conv=>whnf
 refine Arith.mk (by show inR _;unfold inR;omega) ?_
 conv=>whnf
 cases h
 exact Nxt.mk _ ho84 (eA [(64,some 64)])
 obtain ⟨h,b85d⟩:=cfd b85 h
 conv=>whnf
 cases h
 have ho84:_=_:=ho84
 cases ho84
 exact JoinS.mk' _ rfl (eA [(64,some 64)])
 rintro y72 rfl hp
 replace h:=sum_inl hk51
 obtain ⟨z93,_⟩:=hp
 conv=>whnf
 cases h
 conv=>whnf
 exact Side.mk ⟨rfl,trivial⟩ ⟨rfl,rfl⟩
theorem sp_R06_Ints (a_:List Int) (b_:List Int) (r:Bool) (h:Ok (nL cI a_)→Ok (nL cI b_)→R06_Ints a_ b_=some r):Sp Tryz.prog 75 [.im (nL cI a_),.im (nL cI b_)] (.im (nB r)):=by
 refine sp_of rfl [] rfl rfl rfl (Nat.le_of_ble_eq_true rfl) rfl fun hk=>?_
 replace h:=h hk.1 hk.2.1
 have z1:lZ a_:=ok_len hk.1
 have z2:lZ b_:=ok_len hk.2.1
 unfold R06_Ints at h
 conv=>whnf
 refine Nf.mk (List.length a_) len_map ?_
 conv=>whnf
 refine Nf.mk (List.length b_) len_map ?_
 conv=>whnf
 refine Both.mk ?_ ?_<;>intro b51
 obtain ⟨h,b51d⟩:=ctd b51 h
 conv=>whnf
 cases h
 conv=>whnf
 exact ⟨rfl,rfl⟩
 obtain ⟨h,b51d⟩:=cfd b51 h
 conv=>whnf
 obtain ⟨oc,hc,hk52⟩:=bind_some h
 clear h
 have h:=hc
 clear hc
 refine Cut.mkS oc (Y:=Unit) (fun (_:Unit)=>mkSt [] [] []) (fun (_:Unit)=>True) (by rintro ⟨⟩;exact (hT)) ?_ ?_
 conv=>whnf
 refine Loops.iter (fun (s:Nat)=>R06_Ints.s2 a_ b_ s) (fun i73=>mkSt [(0,.im (nL cI a_)),(1,.im (nL cI b_)),(5,.im (nI (↑i73:Int)))] [] []) (fun i73=>lZ a_∧lZ b_∧True) h (eA []) (by rintro i73;exact ((Holds.avl 0 rfl).and ((Holds.avl 1 rfl).and (hT)))) ?_
 clear h
 rintro k i73 o hp h ho78
 replace h:R06_Ints.s2 a_ b_ i73=some o:=h
 unfold R06_Ints.s2 at h
 obtain ⟨z83,z84,_⟩:=hp
 conv=>whnf
 refine Nf.mk (List.length a_) len_map ?_
 conv=>whnf
 refine Both.mk ?_ ?_<;>intro b79
 obtain ⟨h,b79d⟩:=ctd b79 h
 conv=>whnf
 obtain ⟨e80,he80,h⟩:=idxn_some h
 refine ⟨_,⟨(by omega),map_at he80,rfl⟩,?_⟩
 conv=>whnf
 obtain ⟨e81,he81,h⟩:=idxn_some h
 refine ⟨_,⟨(by omega),map_at he81,rfl⟩,?_⟩
 conv=>whnf
 refine Both.mk ?_ ?_<;>intro b82
 obtain ⟨h,b82d⟩:=ctd b82 h
 conv=>whnf
 cases h
 have ho78:_=_:=ho78
 cases ho78
 replace h:some _=some _:=hk52
 cases h
 conv=>whnf
 exact ⟨rfl,rfl⟩
 obtain ⟨h,b82d⟩:=cfd b82 h
 conv=>whnf
 refine Arith.mk (by show inR _;unfold inR;omega) ?_
 conv=>whnf
 cases h
 exact Nxt.mk _ ho78 (eA [])
 obtain ⟨h,b79d⟩:=cfd b79 h
 conv=>whnf
 cases h
 have ho78:_=_:=ho78
 cases ho78
 exact JoinS.mk' _ rfl (eA [])
 rintro ⟨⟩ rfl hp
 replace h:=sum_inl hk52
 conv=>whnf
 cases h
 conv=>whnf
 exact ⟨rfl,rfl⟩
theorem sp_R06_Lists (a_:List (List Int)) (b_:List (List Int)) (r:Bool) (h:Ok (nL (cL cI) a_)→Ok (nL (cL cI) b_)→R06_Lists a_ b_=some r):Sp Tryz.prog 58 [.im (nL (cL cI) a_),.im (nL (cL cI) b_)] (.im (nB r)):=by
 refine sp_of rfl [] rfl rfl rfl (Nat.le_of_ble_eq_true rfl) rfl fun hk=>?_
 replace h:=h hk.1 hk.2.1
 have z1:lZ a_:=ok_len hk.1
 have z2:lZ b_:=ok_len hk.2.1
 unfold R06_Lists at h
 conv=>whnf
 refine Nf.mk (List.length a_) len_map ?_
 conv=>whnf
 refine Nf.mk (List.length b_) len_map ?_
 conv=>whnf
 refine Both.mk ?_ ?_<;>intro b51
 obtain ⟨h,b51d⟩:=ctd b51 h
 conv=>whnf
 cases h
 conv=>whnf
 exact ⟨rfl,rfl⟩
 obtain ⟨h,b51d⟩:=cfd b51 h
 conv=>whnf
 obtain ⟨oc,hc,hk52⟩:=bind_some h
 clear h
 have h:=hc
 clear hc
 refine Cut.mkS oc (Y:=Unit) (fun (_:Unit)=>mkSt [] [] []) (fun (_:Unit)=>True) (by rintro ⟨⟩;exact (hT)) ?_ ?_
 conv=>whnf
 refine Loops.iter (fun (s:Nat)=>R06_Lists.s2 a_ b_ s) (fun i77=>mkSt [(0,.im (nL (cL cI) a_)),(1,.im (nL (cL cI) b_)),(5,.im (nI (↑i77:Int)))] [] []) (fun i77=>lZ a_∧lZ b_∧True) h (eA []) (by rintro i77;exact ((Holds.avl 0 rfl).and ((Holds.avl 1 rfl).and (hT)))) ?_
 clear h
 rintro k i77 o hp h ho83
 replace h:R06_Lists.s2 a_ b_ i77=some o:=h
 unfold R06_Lists.s2 at h
 obtain ⟨z89,z90,_⟩:=hp
 conv=>whnf
 refine Nf.mk (List.length a_) len_map ?_
 conv=>whnf
 refine Both.mk ?_ ?_<;>intro b84
 obtain ⟨h,b84d⟩:=ctd b84 h
 conv=>whnf
 obtain ⟨e85,he85,h⟩:=idxn_some h
 refine ⟨_,⟨(by omega),map_at he85,rfl⟩,?_⟩
 conv=>whnf
 obtain ⟨e86,he86,h⟩:=idxn_some h
 refine ⟨_,⟨(by omega),map_at he86,rfl⟩,?_⟩
 conv=>whnf
 obtain ⟨c87,hc87,h⟩:=bind_some h
 refine ⟨_,(sp_R06_Ints e85 e86 c87 (fun _ _=>hc87)),?_⟩
 conv=>whnf
 refine Both.mk ?_ ?_<;>intro b88
 replace h:=cond_t b88 h
 conv=>whnf
 cases h
 have ho83:_=_:=ho83
 cases ho83
 replace h:some _=some _:=hk52
 cases h
 conv=>whnf
 exact ⟨rfl,rfl⟩
 replace h:=cond_f b88 h
 conv=>whnf
 refine Arith.mk (by show inR _;unfold inR;omega) ?_
 conv=>whnf
 cases h
 exact Nxt.mk _ ho83 (eA [])
 obtain ⟨h,b84d⟩:=cfd b84 h
 conv=>whnf
 cases h
 have ho83:_=_:=ho83
 cases ho83
 exact JoinS.mk' _ rfl (eA [])
 rintro ⟨⟩ rfl hp
 replace h:=sum_inl hk52
 conv=>whnf
 cases h
 conv=>whnf
 exact ⟨rfl,rfl⟩
theorem sp_R23_find (t_:T_api_Table) (o_:T_api_Obs) (w_:List Int) (r:Int) (h:Ok (.agg (c_api_Table t_))→Ok (.agg (c_api_Obs o_))→Ok (nL cI w_)→R23_find t_ o_ w_=some r):Sp Tryz.prog 174 [.im (.agg (c_api_Table t_)),.im (.agg (c_api_Obs o_)),.im (nL cI w_)] (.im (nI r)):=by
 refine sp_of rfl [700003,700004] rfl rfl rfl (Nat.le_of_ble_eq_true rfl) rfl fun hk=>?_
 replace h:=h hk.1 hk.2.1 hk.2.2.1
 have z1:lZ t_.Prefixes:=ok_len (Ok.agg_at hk.1 1 rfl)
 have z2:lZ t_.Suffixes:=ok_len (Ok.agg_at hk.1 2 rfl)
 have z3:lZ o_.Traces:=ok_len (Ok.agg_at hk.2.1 1 rfl)
 have z4:lZ w_:=ok_len hk.2.2.1
 unfold R23_find at h
 conv=>whnf
 obtain ⟨c51,hc51,h⟩:=bind_some h
 refine ⟨_,(sp_R23_row o_ t_.Suffixes w_ c51 (fun _ _ _=>hc51)),?_⟩
 conv=>whnf
 obtain ⟨oc,hc,hk52⟩:=bind_some h
 clear h
 have h:=hc
 clear hc
 refine Cut.mkS oc (Y:=Unit) (fun (_:Unit)=>mkSt [] [] []) (fun (_:Unit)=>True) (by rintro ⟨⟩;exact (hT)) ?_ ?_
 conv=>whnf
 refine Loops.iter (fun (s:Nat)=>R23_find.s2 t_ o_ c51 s) (fun i76=>mkSt [(3,.im (.ref (c_api_Table t_))),(4,.im (.ref (c_api_Obs o_))),(7,.im (nL (cL cI) c51.1)),(9,.im (nI (↑i76:Int)))] [] []) (fun i76=>lZ c51.1∧True) h (eA []) (by rintro i76;exact ((Holds.avl 7 rfl).and (hT))) ?_
 clear h
 rintro k i76 o hp h ho82
 replace h:R23_find.s2 t_ o_ c51 i76=some o:=h
 unfold R23_find.s2 at h
 obtain ⟨z88,_⟩:=hp
 conv=>whnf
 refine Nf.mk (List.length t_.Prefixes) len_map ?_
 conv=>whnf
 refine Both.mk ?_ ?_<;>intro b83
 obtain ⟨h,b83d⟩:=ctd b83 h
 conv=>whnf
 obtain ⟨e84,he84,h⟩:=idxn_some h
 refine ⟨_,⟨(by omega),map_at he84,rfl⟩,?_⟩
 conv=>whnf
 obtain ⟨c85,hc85,h⟩:=bind_some h
 refine ⟨_,(sp_R23_row o_ t_.Suffixes e84 c85 (fun _ _ _=>hc85)),?_⟩
 conv=>whnf
 obtain ⟨c86,hc86,h⟩:=bind_some h
 refine ⟨_,(sp_R06_Lists c85.1 c51.1 c86 (fun _ _=>hc86)),?_⟩
 conv=>whnf
 refine Both.mk ?_ ?_<;>intro b87
 replace h:=cond_t b87 h
 conv=>whnf
 cases h
 have ho82:_=_:=ho82
 cases ho82
 replace h:some _=some _:=hk52
 cases h
 conv=>whnf
 exact ⟨rfl,rfl⟩
 replace h:=cond_f b87 h
 conv=>whnf
 refine Arith.mk (by show inR _;unfold inR;omega) ?_
 conv=>whnf
 cases h
 exact Nxt.mk _ ho82 (eA [])
 obtain ⟨h,b83d⟩:=cfd b83 h
 conv=>whnf
 cases h
 have ho82:_=_:=ho82
 cases ho82
 exact JoinS.mk' _ rfl (eA [])
 rintro ⟨⟩ rfl hp
 replace h:=sum_inl hk52
 conv=>whnf
 cases h
 conv=>whnf
 exact ⟨rfl,rfl⟩
theorem sp_R23_complete (t_:T_api_Table) (o_:T_api_Obs) (r:Int) (h:Ok (.agg (c_api_Table t_))→Ok (.agg (c_api_Obs o_))→R23_complete t_ o_=some r):Sp Tryz.prog 173 [.im (.agg (c_api_Table t_)),.im (.agg (c_api_Obs o_))] (.im (nI r)):=by
 refine sp_of rfl [700002,700003] rfl rfl rfl (Nat.le_of_ble_eq_true rfl) rfl fun hk=>?_
 replace h:=h hk.1 hk.2.1
 have z1:lZ t_.Prefixes:=ok_len (Ok.agg_at hk.1 1 rfl)
 have z2:lZ t_.Suffixes:=ok_len (Ok.agg_at hk.1 2 rfl)
 have z3:lZ o_.Traces:=ok_len (Ok.agg_at hk.2.1 1 rfl)
 unfold R23_complete at h
 conv=>whnf
 obtain ⟨c51,hc51,h⟩:=bind_some h
 refine ⟨_,(sp_R23_Needed t_ o_ c51 (fun _ _=>hc51)),?_⟩
 conv=>whnf
 refine Both.mk ?_ ?_<;>intro b52
 obtain ⟨h,b52d⟩:=ctd b52 h
 conv=>whnf
 cases h
 conv=>whnf
 exact ⟨rfl,rfl⟩
 obtain ⟨h,b52d⟩:=cfd b52 h
 conv=>whnf
 refine Nf.mk (List.length c51.1) len_map ?_
 conv=>whnf
 refine Both.mk ?_ ?_<;>intro b53
 obtain ⟨h,b53d⟩:=ctd b53 h
 conv=>whnf
 cases h
 conv=>whnf
 exact ⟨rfl,rfl⟩
 obtain ⟨h,b53d⟩:=cfd b53 h
 conv=>whnf
 cases h
 conv=>whnf
 exact ⟨rfl,rfl⟩
theorem sp_R23_Unclosed (t_:T_api_Table) (o_:T_api_Obs) (r:List Int×Bool×Int) (h:Ok (.agg (c_api_Table t_))→Ok (.agg (c_api_Obs o_))→R23_Unclosed t_ o_=some r):Sp Tryz.prog 108 [.im (.agg (c_api_Table t_)),.im (.agg (c_api_Obs o_))] (.tup [nL cI r.1,nB r.2.1,nI r.2.2]):=by
 refine sp_of rfl [700002,700003] rfl rfl rfl (Nat.le_of_ble_eq_true rfl) rfl fun hk=>?_
 replace h:=h hk.1 hk.2.1
 have z1:lZ t_.Prefixes:=ok_len (Ok.agg_at hk.1 1 rfl)
 have z2:lZ t_.Suffixes:=ok_len (Ok.agg_at hk.1 2 rfl)
 have z3:lZ o_.Traces:=ok_len (Ok.agg_at hk.2.1 1 rfl)
 unfold R23_Unclosed at h
 conv=>whnf
 obtain ⟨c51,hc51,h⟩:=bind_some h
 refine ⟨_,(sp_R23_complete t_ o_ c51 (fun _ _=>hc51)),?_⟩
 conv=>whnf
 refine Both.mk ?_ ?_<;>intro b52
 obtain ⟨h,b52d⟩:=ctd b52 h
 conv=>whnf
 cases h
 conv=>whnf
 exact ⟨rfl,rfl⟩
 obtain ⟨h,b52d⟩:=cfd b52 h
 conv=>whnf
 obtain ⟨c53,hc53,h⟩:=bind_some h
 refine ⟨_,(sp_R23_Extensions t_ c53 (fun _=>hc53)),?_⟩
 conv=>whnf
 obtain ⟨oc,hc,hk54⟩:=bind_some h
 clear h
 have h:=hc
 clear hc
 refine Cut.mkS oc (Y:=Unit) (fun (_:Unit)=>mkSt [] [] []) (fun (_:Unit)=>True) (by rintro ⟨⟩;exact (hT)) ?_ ?_
 conv=>whnf
 refine Loops.iter (fun (s:Nat)=>R23_Unclosed.s2 t_ o_ c53 s) (fun i78=>mkSt [(2,.im (.ref (c_api_Table t_))),(3,.im (.ref (c_api_Obs o_))),(8,.im (nL (cL cI) c53)),(9,.im (nI (↑i78:Int)))] [] []) (fun i78=>lZ c53∧True) h (eA []) (by rintro i78;exact ((Holds.avl 8 rfl).and (hT))) ?_
 clear h
 rintro k i78 o hp h ho84
 replace h:R23_Unclosed.s2 t_ o_ c53 i78=some o:=h
 unfold R23_Unclosed.s2 at h
 obtain ⟨z90,_⟩:=hp
 conv=>whnf
 refine Nf.mk (List.length c53) len_map ?_
 conv=>whnf
 refine Both.mk ?_ ?_<;>intro b85
 obtain ⟨h,b85d⟩:=ctd b85 h
 conv=>whnf
 obtain ⟨e86,he86,h⟩:=idxn_some h
 refine ⟨_,⟨(by omega),map_at he86,rfl⟩,?_⟩
 conv=>whnf
 obtain ⟨c87,hc87,h⟩:=bind_some h
 refine ⟨_,(sp_R23_find t_ o_ e86 c87 (fun _ _ _=>hc87)),?_⟩
 conv=>whnf
 refine Both.mk ?_ ?_<;>intro b88
 obtain ⟨h,b88d⟩:=ctd b88 h
 conv=>whnf
 obtain ⟨e89,he89,h⟩:=idxn_some h
 refine ⟨_,⟨(by omega),map_at he89,rfl⟩,?_⟩
 conv=>whnf
 cases h
 have ho84:_=_:=ho84
 cases ho84
 replace h:some _=some _:=hk54
 cases h
 conv=>whnf
 exact ⟨rfl,rfl⟩
 obtain ⟨h,b88d⟩:=cfd b88 h
 conv=>whnf
 refine Arith.mk (by show inR _;unfold inR;omega) ?_
 conv=>whnf
 cases h
 exact Nxt.mk _ ho84 (eA [])
 obtain ⟨h,b85d⟩:=cfd b85 h
 conv=>whnf
 cases h
 have ho84:_=_:=ho84
 cases ho84
 exact JoinS.mk' _ rfl (eA [])
 rintro ⟨⟩ rfl hp
 replace h:=sum_inl hk54
 conv=>whnf
 cases h
 conv=>whnf
 exact ⟨rfl,rfl⟩
theorem sp_R23_parting (t_:T_api_Table) (o_:T_api_Obs) (p_:List Int) (q_:List Int) (r:List Int×Bool) (h:Ok (.agg (c_api_Table t_))→Ok (.agg (c_api_Obs o_))→Ok (nL cI p_)→Ok (nL cI q_)→R23_parting t_ o_ p_ q_=some r):Sp Tryz.prog 177 [.im (.agg (c_api_Table t_)),.im (.agg (c_api_Obs o_)),.im (nL cI p_),.im (nL cI q_)] (.tup [nL cI r.1,nB r.2]):=by
 refine sp_of rfl [700004,700005] rfl rfl rfl (Nat.le_of_ble_eq_true rfl) rfl fun hk=>?_
 replace h:=h hk.1 hk.2.1 hk.2.2.1 hk.2.2.2.1
 have z1:lZ t_.Prefixes:=ok_len (Ok.agg_at hk.1 1 rfl)
 have z2:lZ t_.Suffixes:=ok_len (Ok.agg_at hk.1 2 rfl)
 have z3:lZ o_.Traces:=ok_len (Ok.agg_at hk.2.1 1 rfl)
 have z4:lZ p_:=ok_len hk.2.2.1
 have z5:lZ q_:=ok_len hk.2.2.2.1
 unfold R23_parting at h
 conv=>whnf
 obtain ⟨oc,hc,hk51⟩:=bind_some h
 clear h
 have h:=hc
 clear hc
 refine Cut.mkS oc (Y:=Unit) (fun (_:Unit)=>mkSt [] [] []) (fun (_:Unit)=>True) (by rintro ⟨⟩;exact (hT)) ?_ ?_
 conv=>whnf
 refine Loops.iter (fun (s:Nat)=>R23_parting.s14 t_ o_ p_ q_ s) (fun a306=>mkSt [(2,.im (nL cI p_)),(3,.im (nL cI q_)),(4,.im (.ref (c_api_Table t_))),(5,.im (.ref (c_api_Obs o_))),(10,.im (nI (↑a306:Int)))] [] []) (fun a306=>lZ p_∧lZ q_∧True) h (eA []) (by rintro a306;exact ((Holds.avl 2 rfl).and ((Holds.avl 3 rfl).and (hT)))) ?_
 clear h
 rintro k a306 o hp h ho370
 replace h:R23_parting.s14 t_ o_ p_ q_ a306=some o:=h
 unfold R23_parting.s14 at h
 obtain ⟨z434,z435,_⟩:=hp
 conv=>whnf
 refine Both.mk ?_ ?_<;>intro b371
 obtain ⟨h,b371d⟩:=ctd b371 h
 conv=>whnf
 obtain ⟨c372,hc372,h⟩:=bind_some h
 refine ⟨_,(sp_R23_Joined p_ [(↑a306:Int)] c372 (fun _ _=>hc372)),?_⟩
 conv=>whnf
 obtain ⟨c373,hc373,h⟩:=bind_some h
 refine ⟨_,(sp_R23_row o_ t_.Suffixes c372 c373 (fun _ _ _=>hc373)),?_⟩
 conv=>whnf
 obtain ⟨c374,hc374,h⟩:=bind_some h
 refine ⟨_,(sp_R23_Joined q_ [(↑a306:Int)] c374 (fun _ _=>hc374)),?_⟩
 conv=>whnf
 obtain ⟨c375,hc375,h⟩:=bind_some h
 refine ⟨_,(sp_R23_row o_ t_.Suffixes c374 c375 (fun _ _ _=>hc375)),?_⟩
 conv=>whnf
 obtain ⟨oc,hc,hk376⟩:=bind_some h
 clear h
 have h:=hc
 clear hc
 refine Cut.mkS oc (Y:=Unit) (fun (_:Unit)=>mkSt [(2,.im (nL cI p_)),(3,.im (nL cI q_)),(4,.im (.ref (c_api_Table t_))),(5,.im (.ref (c_api_Obs o_))),(10,.im (nI (↑a306:Int)))] [] []) (fun (_:Unit)=>lZ p_∧lZ q_∧True) (by rintro ⟨⟩;exact ((Holds.avl 2 rfl).and ((Holds.avl 3 rfl).and (hT)))) ?_ ?_
 conv=>whnf
 refine Loops.iter (fun (s:Nat)=>R23_parting.s13 t_ a306 c373 c375 s) (fun k411=>mkSt [(2,.im (nL cI p_)),(3,.im (nL cI q_)),(4,.im (.ref (c_api_Table t_))),(5,.im (.ref (c_api_Obs o_))),(10,.im (nI (↑a306:Int))),(11,.im (nL (cL cI) c373.1)),(13,.im (nL (cL cI) c375.1)),(15,.im (nI (↑k411:Int)))] [] []) (fun k411=>lZ p_∧lZ q_∧lZ c373.1∧lZ c375.1∧True) h (eA []) (by rintro k411;exact ((Holds.avl 2 rfl).and ((Holds.avl 3 rfl).and ((Holds.avl 11 rfl).and ((Holds.avl 13 rfl).and (hT)))))) ?_
 clear h
 rintro k k411 o hp h ho419
 replace h:R23_parting.s13 t_ a306 c373 c375 k411=some o:=h
 unfold R23_parting.s13 at h
 obtain ⟨z427,z428,z429,z430,_⟩:=hp
 conv=>whnf
 refine Nf.mk (List.length c373.1) len_map ?_
 conv=>whnf
 refine Both.mk ?_ ?_<;>intro b420
 obtain ⟨h,b420d⟩:=ctd b420 h
 conv=>whnf
 obtain ⟨e421,he421,h⟩:=idxn_some h
 refine ⟨_,⟨(by omega),map_at he421,rfl⟩,?_⟩
 conv=>whnf
 obtain ⟨e422,he422,h⟩:=idxn_some h
 refine ⟨_,⟨(by omega),map_at he422,rfl⟩,?_⟩
 conv=>whnf
 obtain ⟨c423,hc423,h⟩:=bind_some h
 refine ⟨_,(sp_R06_Ints e421 e422 c423 (fun _ _=>hc423)),?_⟩
 conv=>whnf
 refine Both.mk ?_ ?_<;>intro b424
 replace h:=cond_t b424 h
 conv=>whnf
 obtain ⟨e425,he425,h⟩:=idxn_some h
 refine ⟨_,⟨(by omega),map_at he425,rfl⟩,?_⟩
 conv=>whnf
 obtain ⟨c426,hc426,h⟩:=bind_some h
 refine ⟨_,(sp_R23_Joined [(↑a306:Int)] e425 c426 (fun _ _=>hc426)),?_⟩
 conv=>whnf
 cases h
 have ho419:_=_:=ho419
 cases ho419
 replace h:some _=some _:=hk376
 cases h
 have ho370:_=_:=ho370
 cases ho370
 replace h:some _=some _:=hk51
 cases h
 conv=>whnf
 exact ⟨rfl,rfl⟩
 replace h:=cond_f b424 h
 conv=>whnf
 refine Arith.mk (by show inR _;unfold inR;omega) ?_
 conv=>whnf
 cases h
 exact Nxt.mk _ ho419 (eA [])
 obtain ⟨h,b420d⟩:=cfd b420 h
 conv=>whnf
 cases h
 have ho419:_=_:=ho419
 cases ho419
 exact JoinS.mk' _ rfl (eA [])
 rintro ⟨⟩ rfl hp
 replace h:=sum_inl hk376
 obtain ⟨z431,z432,_⟩:=hp
 conv=>whnf
 obtain ⟨c433,h⟩:=chk_some h
 refine Arith.mk c433 ?_
 conv=>whnf
 cases h
 exact Nxt.mk _ ho370 (eA [])
 obtain ⟨h,b371d⟩:=cfd b371 h
 conv=>whnf
 cases h
 have ho370:_=_:=ho370
 cases ho370
 exact JoinS.mk' _ rfl (eA [])
 rintro ⟨⟩ rfl hp
 replace h:=sum_inl hk51
 conv=>whnf
 cases h
 conv=>whnf
 exact ⟨rfl,rfl⟩
theorem sp_R23_Inconsistent (t_:T_api_Table) (o_:T_api_Obs) (r:List Int×Bool×Int) (h:Ok (.agg (c_api_Table t_))→Ok (.agg (c_api_Obs o_))→R23_Inconsistent t_ o_=some r):Sp Tryz.prog 110 [.im (.agg (c_api_Table t_)),.im (.agg (c_api_Obs o_))] (.tup [nL cI r.1,nB r.2.1,nI r.2.2]):=by
 refine sp_of rfl [700002,700003] rfl rfl rfl (Nat.le_of_ble_eq_true rfl) rfl fun hk=>?_
 replace h:=h hk.1 hk.2.1
 have z1:lZ t_.Prefixes:=ok_len (Ok.agg_at hk.1 1 rfl)
 have z2:lZ t_.Suffixes:=ok_len (Ok.agg_at hk.1 2 rfl)
 have z3:lZ o_.Traces:=ok_len (Ok.agg_at hk.2.1 1 rfl)
 unfold R23_Inconsistent at h
 conv=>whnf
 obtain ⟨c51,hc51,h⟩:=bind_some h
 refine ⟨_,(sp_R23_complete t_ o_ c51 (fun _ _=>hc51)),?_⟩
 conv=>whnf
 refine Both.mk ?_ ?_<;>intro b52
 obtain ⟨h,b52d⟩:=ctd b52 h
 conv=>whnf
 cases h
 conv=>whnf
 exact ⟨rfl,rfl⟩
 obtain ⟨h,b52d⟩:=cfd b52 h
 conv=>whnf
 obtain ⟨oc,hc,hk53⟩:=bind_some h
 clear h
 have h:=hc
 clear hc
 refine Cut.mkS oc (Y:=Unit) (fun (_:Unit)=>mkSt [] [] []) (fun (_:Unit)=>True) (by rintro ⟨⟩;exact (hT)) ?_ ?_
 conv=>whnf
 refine Loops.iter (fun (s:Nat)=>R23_Inconsistent.s14 t_ o_ s) (fun i608=>mkSt [(2,.im (.ref (c_api_Table t_))),(3,.im (.ref (c_api_Obs o_))),(8,.im (nI (↑i608:Int)))] [] []) (fun i608=>True) h (eA []) (by rintro i608;exact (hT)) ?_
 clear h
 rintro k i608 o hp h ho747
 replace h:R23_Inconsistent.s14 t_ o_ i608=some o:=h
 unfold R23_Inconsistent.s14 at h
 conv=>whnf
 refine Nf.mk (List.length t_.Prefixes) len_map ?_
 conv=>whnf
 refine Both.mk ?_ ?_<;>intro b748
 obtain ⟨h,b748d⟩:=ctd b748 h
 conv=>whnf
 refine Arith.mk (by show inR _;unfold inR;omega) ?_
 conv=>whnf
 obtain ⟨oc,hc,hk749⟩:=bind_some h
 clear h
 have h:=hc
 clear hc
 refine Cut.mkS oc (Y:=Unit) (fun (_:Unit)=>mkSt [(2,.im (.ref (c_api_Table t_))),(3,.im (.ref (c_api_Obs o_))),(8,.im (nI (↑i608:Int)))] [] []) (fun (_:Unit)=>True) (by rintro ⟨⟩;exact (hT)) ?_ ?_
 conv=>whnf
 refine Loops.iter (fun (s:Nat)=>R23_Inconsistent.s13 t_ o_ i608 s) (fun k840=>mkSt [(2,.im (.ref (c_api_Table t_))),(3,.im (.ref (c_api_Obs o_))),(8,.im (nI (↑i608:Int))),(9,.im (nI (↑k840:Int)))] [] []) (fun k840=>True) h (eA []) (by rintro k840;exact (hT)) ?_
 clear h
 rintro k k840 o hp h ho863
 replace h:R23_Inconsistent.s13 t_ o_ i608 k840=some o:=h
 unfold R23_Inconsistent.s13 at h
 conv=>whnf
 refine Nf.mk (List.length t_.Prefixes) len_map ?_
 conv=>whnf
 refine Both.mk ?_ ?_<;>intro b864
 obtain ⟨h,b864d⟩:=ctd b864 h
 conv=>whnf
 obtain ⟨oc,hc,hk865⟩:=bind_some h
 clear h
 have h:=hc
 clear hc
 refine Cut.mkS oc (Y:=Unit) (fun (_:Unit)=>mkSt [(2,.im (.ref (c_api_Table t_))),(3,.im (.ref (c_api_Obs o_))),(8,.im (nI (↑i608:Int))),(9,.im (nI (↑k840:Int)))] [] []) (fun (_:Unit)=>True) (by rintro ⟨⟩;exact (hT)) ?_ ?_
 conv=>whnf
 obtain ⟨e876,he876,h⟩:=idxn_some h
 refine ⟨_,⟨(by omega),map_at he876,rfl⟩,?_⟩
 conv=>whnf
 obtain ⟨c877,hc877,h⟩:=bind_some h
 refine ⟨_,(sp_R23_row o_ t_.Suffixes e876 c877 (fun _ _ _=>hc877)),?_⟩
 conv=>whnf
 obtain ⟨e878,he878,h⟩:=idxn_some h
 refine ⟨_,⟨(by omega),map_at he878,rfl⟩,?_⟩
 conv=>whnf
 obtain ⟨c879,hc879,h⟩:=bind_some h
 refine ⟨_,(sp_R23_row o_ t_.Suffixes e878 c879 (fun _ _ _=>hc879)),?_⟩
 conv=>whnf
 obtain ⟨c880,hc880,h⟩:=bind_some h
 refine ⟨_,(sp_R06_Lists c877.1 c879.1 c880 (fun _ _=>hc880)),?_⟩
 conv=>whnf
 refine Both.mk ?_ ?_<;>intro b881
 replace h:=cond_t b881 h
 conv=>whnf
 cases h
 exact JoinS.mk' _ rfl (eA [])
 replace h:=cond_f b881 h
 conv=>whnf
 obtain ⟨e882,he882,h⟩:=idxn_some h
 refine ⟨_,⟨(by omega),map_at he882,rfl⟩,?_⟩
 conv=>whnf
 obtain ⟨e883,he883,h⟩:=idxn_some h
 refine ⟨_,⟨(by omega),map_at he883,rfl⟩,?_⟩
 conv=>whnf
 obtain ⟨c884,hc884,h⟩:=bind_some h
 refine ⟨_,(sp_R23_parting t_ o_ e882 e883 c884 (fun _ _ _ _=>hc884)),?_⟩
 conv=>whnf
 refine Both.mk ?_ ?_<;>intro b885
 replace h:=cond_t b885 h
 conv=>whnf
 cases h
 replace h:some _=some _:=hk865
 cases h
 have ho863:_=_:=ho863
 cases ho863
 replace h:some _=some _:=hk749
 cases h
 have ho747:_=_:=ho747
 cases ho747
 replace h:some _=some _:=hk53
 cases h
 conv=>whnf
 exact ⟨rfl,rfl⟩
 replace h:=cond_f b885 h
 conv=>whnf
 cases h
 exact JoinS.mk' _ rfl (eA [])
 rintro ⟨⟩ rfl hp
 replace h:=sum_inl hk865
 conv=>whnf
 refine Arith.mk (by show inR _;unfold inR;omega) ?_
 conv=>whnf
 cases h
 exact Nxt.mk _ ho863 (eA [])
 obtain ⟨h,b864d⟩:=cfd b864 h
 conv=>whnf
 cases h
 have ho863:_=_:=ho863
 cases ho863
 exact JoinS.mk' _ rfl (eA [])
 rintro ⟨⟩ rfl hp
 replace h:=sum_inl hk749
 conv=>whnf
 refine Arith.mk (by show inR _;unfold inR;omega) ?_
 conv=>whnf
 cases h
 exact Nxt.mk _ ho747 (eA [])
 obtain ⟨h,b748d⟩:=cfd b748 h
 conv=>whnf
 cases h
 have ho747:_=_:=ho747
 cases ho747
 exact JoinS.mk' _ rfl (eA [])
 rintro ⟨⟩ rfl hp
 replace h:=sum_inl hk53
 conv=>whnf
 cases h
 conv=>whnf
 exact ⟨rfl,rfl⟩
theorem sp_R24_Step (t_:T_api_Table) (o_:T_api_Obs) (r:T_api_Table×List (List Int)×Bool×Int) (h:Ok (.agg (c_api_Table t_))→Ok (.agg (c_api_Obs o_))→R24_Step t_ o_=some r):Sp Tryz.prog 52 [.im (.agg (c_api_Table t_)),.im (.agg (c_api_Obs o_))] (.tup [.agg (c_api_Table r.1),nL (cL cI) r.2.1,nB r.2.2.1,nI r.2.2.2]):=by
 refine sp_of rfl [700002,700003] rfl rfl rfl (Nat.le_of_ble_eq_true rfl) rfl fun hk=>?_
 replace h:=h hk.1 hk.2.1
 have z1:lZ t_.Prefixes:=ok_len (Ok.agg_at hk.1 1 rfl)
 have z2:lZ t_.Suffixes:=ok_len (Ok.agg_at hk.1 2 rfl)
 have z3:lZ o_.Traces:=ok_len (Ok.agg_at hk.2.1 1 rfl)
 unfold R24_Step at h
 conv=>whnf
 obtain ⟨c51,hc51,h⟩:=bind_some h
 refine ⟨_,(sp_R23_Needed t_ o_ c51 (fun _ _=>hc51)),?_⟩
 conv=>whnf
 obtain ⟨y55,hc,hk53⟩:=bind_some h
 clear h
 have h:=hc
 clear hc
 refine Cut.mk (mkSt [(2,.im (.ref (c_api_Table t_))),(3,.im (.ref (c_api_Obs o_))),(4,.own 69 1 0),(8,.im (nL (cL cI) c51.1)),(9,.im (nI c51.2)),(32,.im (nB y55))] [(69,.box 78 3)] [(69,0,.im (nI 0)),(69,1,.im (.val (.slice none 0 0))),(69,2,.im (.val (.slice none 0 0)))]) (lZ c51.1∧True) ((Holds.avl 8 rfl).and (hT)) ?_ (fun hp=>?_)
 conv=>whnf
 refine Both.mk ?_ ?_<;>intro b56
 replace b56:=beq_ff b56
 obtain ⟨h,b56d⟩:=cfd b56 h
 conv=>whnf
 refine Both.yes (ff_beq b56) ?_
 conv=>whnf
 refine Nf.mk (List.length c51.1) len_map ?_
 conv=>whnf
 refine Both.yes (ff_beq b56) ?_
 conv=>whnf
 refine Both.no b56 ?_
 conv=>whnf
 cases h
 exact Join.mk (eA [(69,some 4)])
 replace b56:=beq_ft b56
 obtain ⟨h,b56d⟩:=ctd b56 h
 conv=>whnf
 iterate 2 (refine Both.no (tf_beq b56) ?_;(conv=>whnf))
 refine Both.yes b56 ?_
 conv=>whnf
 cases h
 exact Join.mk (eA [(69,some 4)])
 replace h:=hk53
 obtain ⟨z57,_⟩:=hp
 conv=>whnf
 refine Both.mk ?_ ?_<;>intro b58
 replace h:=cond_t b58 h
 conv=>whnf
 refine Side.mk rfl ?_
 conv=>whnf
 cases h
 conv=>whnf
 refine Side.mk ⟨rfl,trivial⟩ ?_
 conv=>whnf
 exact ⟨rfl,rfl⟩
 replace h:=cond_f b58 h
 conv=>whnf
 obtain ⟨c59,hc59,h⟩:=bind_some h
 refine ⟨_,(sp_R23_Unclosed t_ o_ c59 (fun _ _=>hc59)),?_⟩
 conv=>whnf
 refine Both.mk ?_ ?_<;>intro b60
 replace h:=cond_t b60 h
 conv=>whnf
 obtain ⟨c61,hc61,h⟩:=bind_some h
 refine ⟨_,(sp_R23_Prefix t_ c59.1 c61 (fun _ _=>hc61)),?_⟩
 conv=>whnf
 refine Side.mk rfl ?_
 conv=>whnf
 refine Side.mk rfl ?_
 conv=>whnf
 refine Side.mk rfl ?_
 conv=>whnf
 cases h
 conv=>whnf
 refine Side.mk ⟨rfl,trivial⟩ ?_
 conv=>whnf
 exact ⟨rfl,rfl⟩
 replace h:=cond_f b60 h
 conv=>whnf
 obtain ⟨c62,hc62,h⟩:=bind_some h
 refine ⟨_,(sp_R23_Inconsistent t_ o_ c62 (fun _ _=>hc62)),?_⟩
 conv=>whnf
 refine Both.mk ?_ ?_<;>intro b63
 replace h:=cond_t b63 h
 conv=>whnf
 obtain ⟨c64,hc64,h⟩:=bind_some h
 refine ⟨_,(sp_R23_Suffix t_ c62.1 c64 (fun _ _=>hc64)),?_⟩
 conv=>whnf
 refine Side.mk rfl ?_
 conv=>whnf
 refine Side.mk rfl ?_
 conv=>whnf
 refine Side.mk rfl ?_
 conv=>whnf
 cases h
 conv=>whnf
 refine Side.mk ⟨rfl,trivial⟩ ?_
 conv=>whnf
 exact ⟨rfl,rfl⟩
 replace h:=cond_f b63 h
 conv=>whnf
 refine Side.mk rfl ?_
 conv=>whnf
 cases h
 conv=>whnf
 refine Side.mk ⟨rfl,trivial⟩ ?_
 conv=>whnf
 exact ⟨rfl,rfl⟩
theorem sp_R28_Step (l_:T_api_Lazy) (o_:T_api_Obs) (r:T_api_Lazy×List (List Int)×Bool×Int) (h:Ok (.agg (c_api_Lazy l_))→Ok (.agg (c_api_Obs o_))→R28_Step l_ o_=some r):Sp Tryz.prog 15 [.im (.agg (c_api_Lazy l_)),.im (.agg (c_api_Obs o_))] (.tup [.agg (c_api_Lazy r.1),nL (cL cI) r.2.1,nB r.2.2.1,nI r.2.2.2]):=by
 refine sp_of rfl [700002,700003] rfl rfl rfl (Nat.le_of_ble_eq_true rfl) rfl fun hk=>?_
 replace h:=h hk.1 hk.2.1
 have z1:lZ l_.Short:=ok_len (Ok.agg_at hk.1 1 rfl)
 have z2:lZ l_.Suffixes:=ok_len (Ok.agg_at hk.1 2 rfl)
 have z3:lZ o_.Traces:=ok_len (Ok.agg_at hk.2.1 1 rfl)
 unfold R28_Step at h
 conv=>whnf
 obtain ⟨c51,hc51,h⟩:=bind_some h
 refine ⟨_,(sp_R28_checked l_ o_ c51 (fun _ _=>hc51)),?_⟩
 conv=>whnf
 refine Both.mk ?_ ?_<;>intro b52
 obtain ⟨h,b52d⟩:=ctd b52 h
 conv=>whnf
 refine Side.mk rfl ?_
 conv=>whnf
 cases h
 conv=>whnf
 refine Side.mk ⟨rfl,trivial⟩ ?_
 conv=>whnf
 exact ⟨rfl,rfl⟩
 obtain ⟨h,b52d⟩:=cfd b52 h
 conv=>whnf
 obtain ⟨c53,hc53,h⟩:=bind_some h
 refine ⟨_,(sp_R28_Table l_ c53 (fun _=>hc53)),?_⟩
 conv=>whnf
 obtain ⟨c54,hc54,h⟩:=bind_some h
 refine ⟨_,(sp_R24_Step c53 o_ c54 (fun _ _=>hc54)),?_⟩
 conv=>whnf
 refine Side.mk rfl ?_
 conv=>whnf
 refine Side.mk rfl ?_
 conv=>whnf
 obtain ⟨c55,hc55,h⟩:=bind_some h
 refine ⟨_,(sp_R28_Of c54.1 c55 (fun _=>hc55)),?_⟩
 conv=>whnf
 refine Side.mk rfl ?_
 conv=>whnf
 cases h
 conv=>whnf
 refine Side.mk ⟨rfl,trivial⟩ ?_
 conv=>whnf
 exact ⟨rfl,rfl⟩
theorem sp_R23_Same (a_:T_api_Table) (b_:T_api_Table) (r:Bool) (h:Ok (.agg (c_api_Table a_))→Ok (.agg (c_api_Table b_))→R23_Same a_ b_=some r):Sp Tryz.prog 53 [.im (.agg (c_api_Table a_)),.im (.agg (c_api_Table b_))] (.im (nB r)):=by
 refine sp_of rfl [700002,700003] rfl rfl rfl (Nat.le_of_ble_eq_true rfl) rfl fun hk=>?_
 replace h:=h hk.1 hk.2.1
 have z1:lZ a_.Prefixes:=ok_len (Ok.agg_at hk.1 1 rfl)
 have z2:lZ a_.Suffixes:=ok_len (Ok.agg_at hk.1 2 rfl)
 have z3:lZ b_.Prefixes:=ok_len (Ok.agg_at hk.2.1 1 rfl)
 have z4:lZ b_.Suffixes:=ok_len (Ok.agg_at hk.2.1 2 rfl)
 unfold R23_Same at h
 conv=>whnf
 obtain ⟨y57,hc,hk52⟩:=bind_some h
 clear h
 have h:=hc
 clear hc
 refine Cut.mk (mkSt [(4,.im (nB y57))] [] []) (True) (hT) ?_ (fun hp=>?_)
 conv=>whnf
 refine Both.mk ?_ ?_<;>intro b58
 replace b58:=beq_tt b58
 obtain ⟨h,b58d⟩:=ctd b58 h
 conv=>whnf
 iterate 4 (refine Both.yes (tt_beq b58) ?_;(conv=>whnf))
 obtain ⟨c59,hc59,h⟩:=bind_some h
 refine ⟨_,(sp_R06_Lists a_.Prefixes b_.Prefixes c59 (fun _ _=>hc59)),?_⟩
 conv=>whnf
 refine Both.yes b58 ?_
 conv=>whnf
 refine Both.mk ?_ ?_<;>intro b60
 replace b60:=beq_tt b60
 replace h:=cond_t b60 h
 conv=>whnf
 iterate 4 (refine Both.yes (tt_beq b60) ?_;(conv=>whnf))
 obtain ⟨c61,hc61,h⟩:=bind_some h
 refine ⟨_,(sp_R06_Lists a_.Suffixes b_.Suffixes c61 (fun _ _=>hc61)),?_⟩
 conv=>whnf
 refine Both.yes b60 ?_
 conv=>whnf
 cases h
 exact Join.mk (eA [])
 replace b60:=beq_tf b60
 replace h:=cond_f b60 h
 conv=>whnf
 iterate 4 (refine Both.no (ft_beq b60) ?_;(conv=>whnf))
 refine Both.no b60 ?_
 conv=>whnf
 cases h
 exact Join.mk (eA [])
 replace b58:=beq_tf b58
 obtain ⟨h,b58d⟩:=cfd b58 h
 conv=>whnf
 iterate 4 (refine Both.no (ft_beq b58) ?_;(conv=>whnf))
 refine Both.no b58 ?_
 conv=>whnf
 iterate 6 (refine Both.no rfl ?_;(conv=>whnf))
 cases h
 exact Join.mk (eA [])
 replace h:=hk52
 conv=>whnf
 cases h
 conv=>whnf
 exact ⟨rfl,rfl⟩
theorem sp_R28_Same (a_:T_api_Lazy) (b_:T_api_Lazy) (r:Bool) (h:Ok (.agg (c_api_Lazy a_))→Ok (.agg (c_api_Lazy b_))→R28_Same a_ b_=some r):Sp Tryz.prog 16 [.im (.agg (c_api_Lazy a_)),.im (.agg (c_api_Lazy b_))] (.im (nB r)):=by
 refine sp_of rfl [700002,700003] rfl rfl rfl (Nat.le_of_ble_eq_true rfl) rfl fun hk=>?_
 replace h:=h hk.1 hk.2.1
 have z1:lZ a_.Short:=ok_len (Ok.agg_at hk.1 1 rfl)
 have z2:lZ a_.Suffixes:=ok_len (Ok.agg_at hk.1 2 rfl)
 have z3:lZ b_.Short:=ok_len (Ok.agg_at hk.2.1 1 rfl)
 have z4:lZ b_.Suffixes:=ok_len (Ok.agg_at hk.2.1 2 rfl)
 unfold R28_Same at h
 conv=>whnf
 obtain ⟨c51,hc51,h⟩:=bind_some h
 refine ⟨_,(sp_R28_Table a_ c51 (fun _=>hc51)),?_⟩
 conv=>whnf
 obtain ⟨c52,hc52,h⟩:=bind_some h
 refine ⟨_,(sp_R28_Table b_ c52 (fun _=>hc52)),?_⟩
 conv=>whnf
 obtain ⟨c53,hc53,h⟩:=bind_some h
 refine ⟨_,(sp_R23_Same c51 c52 c53 (fun _ _=>hc53)),?_⟩
 conv=>whnf
 cases h
 conv=>whnf
 exact ⟨rfl,rfl⟩
theorem sp_L28_LazySteps (l_:T_api_Lazy) (o_:T_api_Obs) (inputs_:Int) (r:Bool) (h:Ok (.agg (c_api_Lazy l_))→Ok (.agg (c_api_Obs o_))→Ok (nI inputs_)→L28_LazySteps l_ o_ inputs_=some r):Sp Tryz.prog 3 [.im (.agg (c_api_Lazy l_)),.im (.agg (c_api_Obs o_)),.im (nI inputs_)] (.im (nB r)):=by
 refine sp_of rfl [700003,700004] rfl rfl rfl (Nat.le_of_ble_eq_true rfl) rfl fun hk=>?_
 replace h:=h hk.1 hk.2.1 hk.2.2.1
 have z1:lZ l_.Short:=ok_len (Ok.agg_at hk.1 1 rfl)
 have z2:lZ l_.Suffixes:=ok_len (Ok.agg_at hk.1 2 rfl)
 have z3:lZ o_.Traces:=ok_len (Ok.agg_at hk.2.1 1 rfl)
 unfold L28_LazySteps at h
 conv=>whnf
 obtain ⟨c51,hc51,h⟩:=bind_some h
 refine ⟨_,(sp_L28_great l_ o_ c51 (fun _ _=>hc51)),?_⟩
 conv=>whnf
 refine Both.mk ?_ ?_<;>intro b52
 replace h:=cond_t b52 h
 conv=>whnf
 obtain ⟨c53,hc53,h⟩:=bind_some h
 refine ⟨_,(sp_L28_awake  c53 (hc53)),?_⟩
 conv=>whnf
 cases h
 conv=>whnf
 exact ⟨rfl,rfl⟩
 replace h:=cond_f b52 h
 conv=>whnf
 obtain ⟨c54,hc54,h⟩:=bind_some h
 refine ⟨_,(sp_lazy_New inputs_ c54 (fun _=>hc54)),?_⟩
 conv=>whnf
 refine Side.mk rfl ?_
 conv=>whnf
 obtain ⟨c55,hc55,h⟩:=bind_some h
 refine ⟨_,(sp_R28_New inputs_ c55 (fun _=>hc55)),?_⟩
 conv=>whnf
 refine Side.mk rfl ?_
 conv=>whnf
 obtain ⟨c56,hc56,h⟩:=bind_some h
 refine ⟨_,(sp_lazy_Step l_ o_ c56 (fun _ _=>hc56)),?_⟩
 conv=>whnf
 refine Side.mk rfl ?_
 conv=>whnf
 obtain ⟨c57,hc57,h⟩:=bind_some h
 refine ⟨_,(sp_R28_Step l_ o_ c57 (fun _ _=>hc57)),?_⟩
 conv=>whnf
 refine Side.mk rfl ?_
 conv=>whnf
 obtain ⟨y70,hc,hk59⟩:=bind_some h
 clear h
 have h:=hc
 clear hc
 refine Cut.mk (mkSt [(6,.im (nB y70))] [] []) (True) (hT) ?_ (fun hp=>?_)
 conv=>whnf
 refine Side.mk rfl ?_
 conv=>whnf
 refine Side.mk rfl ?_
 conv=>whnf
 obtain ⟨c71,hc71,h⟩:=bind_some h
 refine ⟨_,(sp_R28_Same c54.1 c55.1 c71 (fun _ _=>hc71)),?_⟩
 conv=>whnf
 refine Both.mk ?_ ?_<;>intro b72
 replace b72:=beq_tt b72
 replace h:=cond_t b72 h
 conv=>whnf
 iterate 2 (refine Both.yes (tt_beq b72) ?_;(conv=>whnf))
 refine Both.yes b72 ?_
 conv=>whnf
 refine Both.mk ?_ ?_<;>intro b73
 replace b73:=beq_tt b73
 obtain ⟨h,b73d⟩:=ctd b73 h
 conv=>whnf
 refine Side.mk rfl ?_
 conv=>whnf
 refine Both.yes (tt_beq b73) ?_
 conv=>whnf
 refine Side.mk rfl ?_
 conv=>whnf
 refine Both.yes (tt_beq b73) ?_
 conv=>whnf
 obtain ⟨c74,hc74,h⟩:=bind_some h
 refine ⟨_,(sp_R28_Same c56.1 c57.1 c74 (fun _ _=>hc74)),?_⟩
 conv=>whnf
 refine Both.yes b73 ?_
 conv=>whnf
 refine Both.mk ?_ ?_<;>intro b75
 replace b75:=beq_tt b75
 replace h:=cond_t b75 h
 conv=>whnf
 iterate 2 (refine Both.yes (tt_beq b75) ?_;(conv=>whnf))
 obtain ⟨c76,hc76,h⟩:=bind_some h
 refine ⟨_,(sp_R01_SameWords c56.2.1 c57.2.1 c76 (fun _ _=>hc76)),?_⟩
 conv=>whnf
 refine Both.yes b75 ?_
 conv=>whnf
 refine Both.mk ?_ ?_<;>intro b77
 replace b77:=beq_tt b77
 replace h:=cond_t b77 h
 conv=>whnf
 iterate 2 (refine Both.yes (tt_beq b77) ?_;(conv=>whnf))
 refine Both.yes b77 ?_
 conv=>whnf
 refine Both.mk ?_ ?_<;>intro b78
 replace b78:=beq_tt b78
 replace h:=cond_t b78 h
 conv=>whnf
 iterate 2 (refine Both.yes (tt_beq b78) ?_;(conv=>whnf))
 refine Both.yes b78 ?_
 conv=>whnf
 refine Both.mk ?_ ?_<;>intro b79
 replace b79:=beq_tt b79
 obtain ⟨h,b79d⟩:=ctd b79 h
 conv=>whnf
 obtain ⟨c80,hc80,h⟩:=bind_some h
 refine ⟨_,(sp_L28_awake  c80 (hc80)),?_⟩
 conv=>whnf
 refine Both.yes b79 ?_
 conv=>whnf
 cases h
 exact Join.mk (eA [])
 replace b79:=beq_tf b79
 obtain ⟨h,b79d⟩:=cfd b79 h
 conv=>whnf
 refine Both.no b79 ?_
 conv=>whnf
 cases h
 exact Join.mk (eA [])
 replace b78:=beq_tf b78
 replace h:=cond_f b78 h
 conv=>whnf
 iterate 2 (refine Both.no (ft_beq b78) ?_;(conv=>whnf))
 refine Both.no b78 ?_
 conv=>whnf
 iterate 2 (refine Both.no rfl ?_;(conv=>whnf))
 cases h
 exact Join.mk (eA [])
 replace b77:=beq_tf b77
 replace h:=cond_f b77 h
 conv=>whnf
 iterate 2 (refine Both.no (ft_beq b77) ?_;(conv=>whnf))
 refine Both.no b77 ?_
 conv=>whnf
 iterate 6 (refine Both.no rfl ?_;(conv=>whnf))
 cases h
 exact Join.mk (eA [])
 replace b75:=beq_tf b75
 replace h:=cond_f b75 h
 conv=>whnf
 iterate 2 (refine Both.no (ft_beq b75) ?_;(conv=>whnf))
 refine Both.no b75 ?_
 conv=>whnf
 iterate 10 (refine Both.no rfl ?_;(conv=>whnf))
 cases h
 exact Join.mk (eA [])
 replace b73:=beq_tf b73
 obtain ⟨h,b73d⟩:=cfd b73 h
 conv=>whnf
 iterate 2 (refine Both.no (ft_beq b73) ?_;(conv=>whnf))
 refine Both.no b73 ?_
 conv=>whnf
 iterate 14 (refine Both.no rfl ?_;(conv=>whnf))
 cases h
 exact Join.mk (eA [])
 replace b72:=beq_tf b72
 replace h:=cond_f b72 h
 conv=>whnf
 iterate 2 (refine Both.no (ft_beq b72) ?_;(conv=>whnf))
 refine Both.no b72 ?_
 conv=>whnf
 iterate 18 (refine Both.no rfl ?_;(conv=>whnf))
 cases h
 exact Join.mk (eA [])
 replace h:=hk59
 conv=>whnf
 cases h
 conv=>whnf
 exact ⟨rfl,rfl⟩
end Go.Proofs.YtedabpfahmealaaGreatDoor.Sym

/-
  The contracts of the functions, read from the code by a program (ext.py): each function has its plain twin as its contract.
-/
import Derived.Test.YtkfaepfljlphoaaM4
set_option linter.all false
namespace Go.Proofs.Ytkfaepfljlphoaa.Sym
open Go.RowKit
set_option maxRecDepth 100000
set_option linter.unusedVariables false
set_option maxHeartbeats 4000000
theorem sp_equiv_search (a_:T_api_Mealy) (b_:T_api_Mealy) (first_:T_equiv_pair) (r:List Int×Bool) (h:Ok (.agg (c_api_Mealy a_))→Ok (.agg (c_api_Mealy b_))→Ok (.agg (c_equiv_pair first_))→equiv_search a_ b_ first_=some r):Sp Try.prog 65 [.im (.agg (c_api_Mealy a_)),.im (.agg (c_api_Mealy b_)),.im (.agg (c_equiv_pair first_))] (.tup [nL cI r.1,nB r.2]):=by
 refine sp_of rfl [42,600018,700003,700004,700005] rfl rfl rfl (Nat.le_of_ble_eq_true rfl) rfl fun hk=>?_
 replace h:=h hk.1 hk.2.1 hk.2.2.1
 have z1:lZ a_.Next:=ok_len (Ok.agg_at hk.1 2 rfl)
 have z2:lZ a_.Out:=ok_len (Ok.agg_at hk.1 3 rfl)
 have z3:lZ b_.Next:=ok_len (Ok.agg_at hk.2.1 2 rfl)
 have z4:lZ b_.Out:=ok_len (Ok.agg_at hk.2.1 3 rfl)
 unfold equiv_search at h
 conv=>whnf
 refine Nf.mk (List.length a_.Next) len_map ?_
 conv=>whnf
 obtain ⟨c51,h⟩:=chk_some h
 refine Side.mk c51 ?_
 conv=>whnf
 refine Nf.mk (List.map (cL cB) (List.replicate (List.length a_.Next) ([]:List Bool))) (rep_map (c:=(cL cB)) (z:=([]:List Bool)) (n:=(List.length a_.Next)) rfl rfl) ?_
 conv=>whnf
 refine Side.mk rfl ?_
 conv=>whnf
 refine Nf.mk (List.length (List.replicate (List.length a_.Next) ([]:List Bool))) len_map ?_
 conv=>whnf
 obtain ⟨y68,hc,hk52⟩:=bind_some h
 clear h
 have h:=hc
 clear hc
 refine Cut.mk (mkSt [(3,.im (.ref (c_api_Mealy a_))),(4,.im (.ref (c_api_Mealy b_))),(5,.im (.ref (c_equiv_pair first_))),(8,.osl 144 1)] [(144,.grid 86 4 1 (List.map (cL cB) y68) none)] []) (lZ y68∧True) ((Holds.kdg 144 rfl).and (hT)) ?_ (fun hp=>?_)
 conv=>whnf
 refine Loops.iter (fun (s:List (List Bool)×Nat)=>equiv_search.s2 a_ b_ s.1 s.2) (fun (y72,y73)=>mkSt [(3,.im (.ref (c_api_Mealy a_))),(4,.im (.ref (c_api_Mealy b_))),(5,.im (.ref (c_equiv_pair first_))),(8,.osl 144 1),(20,.im (nI (↑(List.length (List.replicate (List.length a_.Next) ([]:List Bool))):Int))),(21,.im (nI (↑y73:Int)))] [(144,.grid 86 4 1 (List.map (cL cB) y72) none)] []) (fun (y72,y73)=>lZ y72∧True) h (eA [(144,some 18)]) (by rintro ⟨y72,y73⟩;exact ((Holds.kdg 144 rfl).and (hT))) ?_
 clear h
 rintro k ⟨y72,y73⟩ o hp h ho78
 replace h:equiv_search.s2 a_ b_ y72 y73=some o:=h
 unfold equiv_search.s2 at h
 obtain ⟨z83,_⟩:=hp
 conv=>whnf
 refine Both.mk ?_ ?_<;>intro b79
 obtain ⟨h,b79d⟩:=ctd b79 h
 conv=>whnf
 refine Nf.mk (List.length b_.Next) len_map ?_
 conv=>whnf
 obtain ⟨c80,h⟩:=chk_some h
 refine Side.mk c80 ?_
 conv=>whnf
 refine Nf.mk (List.map cB (List.replicate (List.length b_.Next) false)) (rep_map (c:=cB) (z:=false) (n:=(List.length b_.Next)) rfl rfl) ?_
 conv=>whnf
 obtain ⟨e81,he81,h⟩:=idxn_some h
 refine Side.mk ⟨(by omega),rfl,map_lt he81⟩ ?_
 conv=>whnf
 refine Side.mk ⟨rfl,rfl,map_lt he81,trivial⟩ ?_
 conv=>whnf
 refine Nf.mk (List.map (cL cB) (List.set y72 y73 (List.replicate (List.length b_.Next) false))) set_grid1 ?_
 conv=>whnf
 obtain ⟨c82,h⟩:=chk_some h
 refine Arith.mk c82 ?_
 conv=>whnf
 cases h
 exact Nxt.mk _ ho78 (eA [(144,some 144)])
 obtain ⟨h,b79d⟩:=cfd b79 h
 conv=>whnf
 cases h
 have ho78:_=_:=ho78
 cases ho78
 exact Join.mk (eA [(144,some 144)])
 replace h:=hk52
 obtain ⟨z84,_⟩:=hp
 conv=>whnf
 obtain ⟨e85,he85z,he85,h⟩:=idx_some h
 refine Side.mk ⟨he85z,rfl,map_lt he85⟩ ?_
 conv=>whnf
 refine Side.mk ⟨rfl,map_lt he85⟩ ?_
 conv=>whnf
 obtain ⟨e86,he86z,he86,h⟩:=idx_some h
 refine ⟨_,⟨he86z,rfl,map_at he85,map_lt he86⟩,?_⟩
 conv=>whnf
 refine ⟨_,_,⟨rfl,map_at he85,map_at he86⟩,?_⟩
 conv=>whnf
 refine Nf.mk (List.map (cL cB) (List.set y68 (Int.toNat first_.s) (List.set e85 (Int.toNat first_.t) true))) (set_grid2 rfl) ?_
 conv=>whnf
 obtain ⟨oc,hc,hk87⟩:=bind_some h
 clear h
 have h:=hc
 clear hc
 refine Cut.mkS oc (Y:=Unit) (fun (_:Unit)=>mkSt [] [] []) (fun (_:Unit)=>True) (by rintro ⟨⟩;exact (hT)) ?_ ?_
 conv=>whnf
 refine Loops.iter (fun (s:List (List Bool)×List T_equiv_place×Nat)=>equiv_search.s22 a_ b_ s.1 s.2.1 s.2.2) (fun (y898,y899,i900)=>mkSt [(3,.im (.ref (c_api_Mealy a_))),(4,.im (.ref (c_api_Mealy b_))),(8,.osl 144 1),(10,.osl 145 1),(11,.im (nI (↑i900:Int)))] [(144,.grid 86 4 1 (List.map (cL cB) y898) none),(145,.row 116 3 (List.map c_equiv_place y899))] []) (fun (y898,y899,i900)=>lZ y898∧lZ y899∧True) h (eA [(144,some 144),(145,some 42)]) (by rintro ⟨y898,y899,i900⟩;exact ((Holds.kdg 144 rfl).and ((Holds.kdl 145 rfl).and (hT)))) ?_
 clear h
 rintro k ⟨y898,y899,i900⟩ o hp h ho1102
 replace h:equiv_search.s22 a_ b_ y898 y899 i900=some o:=h
 unfold equiv_search.s22 at h
 obtain ⟨z1304,z1305,_⟩:=hp
 conv=>whnf
 refine Side.mk rfl ?_
 conv=>whnf
 refine Nf.mk (List.length y899) len_map ?_
 conv=>whnf
 refine Both.mk ?_ ?_<;>intro b1103
 obtain ⟨h,b1103d⟩:=ctd b1103 h
 conv=>whnf
 obtain ⟨e1104,he1104,h⟩:=idxn_some h
 refine Side.mk ⟨(by omega),rfl,map_lt he1104⟩ ?_
 conv=>whnf
 refine Side.mk rfl ?_
 conv=>whnf
 refine ⟨_,⟨rfl,map_at he1104,of_decide_eq_true rfl,rfl⟩,?_⟩
 conv=>whnf
 refine Side.mk rfl ?_
 conv=>whnf
 obtain ⟨oc,hc,hk1105⟩:=bind_some h
 clear h
 have h:=hc
 clear hc
 refine Cut.mkS oc (Y:=List (List Bool)×List T_equiv_place) (fun (y1203,y1204)=>mkSt [(3,.im (.ref (c_api_Mealy a_))),(4,.im (.ref (c_api_Mealy b_))),(8,.osl 144 1),(10,.osl 145 1),(11,.im (nI (↑i900:Int)))] [(144,.grid 86 4 1 (List.map (cL cB) y1203) none),(145,.row 116 3 (List.map c_equiv_place y1204))] []) (fun (y1203,y1204)=>lZ y1203∧lZ y1204∧True) (by rintro ⟨y1203,y1204⟩;exact ((Holds.kdg 144 rfl).and ((Holds.kdl 145 rfl).and (hT)))) ?_ ?_
 conv=>whnf
 refine Loops.iter (fun (s:List (List Bool)×List T_equiv_place×Nat)=>equiv_search.s20 a_ b_ i900 e1104 s.1 s.2.1 s.2.2) (fun (y1234,y1235,y1236)=>mkSt [(3,.im (.ref (c_api_Mealy a_))),(4,.im (.ref (c_api_Mealy b_))),(8,.osl 144 1),(10,.osl 145 1),(11,.im (nI (↑i900:Int))),(12,.own 146 1 0),(55,.im (nI a_.Inputs)),(56,.im (nI (↑y1236:Int)))] [(144,.grid 86 4 1 (List.map (cL cB) y1234) none),(145,.row 116 3 (List.map c_equiv_place y1235)),(146,.box 100 2)] [(146,0,.im (nI e1104.at_.s)),(146,1,.im (nI e1104.at_.t))]) (fun (y1234,y1235,y1236)=>lZ y1234∧lZ y1235∧True) h (eA [(144,some 144),(145,some 145),(146,some 12)]) (by rintro ⟨y1234,y1235,y1236⟩;exact ((Holds.kdg 144 rfl).and ((Holds.kdl 145 rfl).and (hT)))) ?_
 clear h
 rintro k ⟨y1234,y1235,y1236⟩ o hp h ho1268
 replace h:equiv_search.s20 a_ b_ i900 e1104 y1234 y1235 y1236=some o:=h
 unfold equiv_search.s20 at h
 obtain ⟨z1300,z1301,_⟩:=hp
 conv=>whnf
 refine Both.mk ?_ ?_<;>intro b1269
 obtain ⟨h,b1269d⟩:=ctd b1269 h
 conv=>whnf
 refine Side.mk rfl ?_
 conv=>whnf
 refine Side.mk rfl ?_
 conv=>whnf
 obtain ⟨e1270,he1270z,he1270,h⟩:=idx_some h
 refine ⟨_,⟨he1270z,map_at he1270,rfl⟩,?_⟩
 conv=>whnf
 obtain ⟨e1271,he1271,h⟩:=idxn_some h
 refine ⟨_,⟨(by omega),map_at he1271,rfl⟩,?_⟩
 conv=>whnf
 refine Side.mk rfl ?_
 conv=>whnf
 refine Side.mk rfl ?_
 conv=>whnf
 obtain ⟨e1272,he1272z,he1272,h⟩:=idx_some h
 refine ⟨_,⟨he1272z,map_at he1272,rfl⟩,?_⟩
 conv=>whnf
 obtain ⟨e1273,he1273,h⟩:=idxn_some h
 refine ⟨_,⟨(by omega),map_at he1273,rfl⟩,?_⟩
 conv=>whnf
 refine Both.mk ?_ ?_<;>intro b1274
 obtain ⟨h,b1274d⟩:=ctd b1274 h
 conv=>whnf
 obtain ⟨e1275,he1275,h⟩:=idxn_some h
 refine Side.mk ⟨(by omega),rfl,map_lt he1275⟩ ?_
 conv=>whnf
 refine Side.mk rfl ?_
 conv=>whnf
 refine ⟨_,_,⟨rfl,map_at he1275,rfl,rfl⟩,?_⟩
 conv=>whnf
 obtain ⟨c1276,hc1276,h⟩:=bind_some h
 refine ⟨_,(sp_word_Join [e1275.word,[(↑y1236:Int)]] c1276 (fun _=>hc1276)),?_⟩
 conv=>whnf
 cases h
 have ho1268:_=_:=ho1268
 cases ho1268
 replace h:some _=some _:=hk1105
 cases h
 have ho1102:_=_:=ho1102
 cases ho1102
 replace h:some _=some _:=hk87
 cases h
 conv=>whnf
 exact ⟨rfl,rfl⟩
 obtain ⟨h,b1274d⟩:=cfd b1274 h
 conv=>whnf
 refine Side.mk rfl ?_
 conv=>whnf
 refine Side.mk rfl ?_
 conv=>whnf
 obtain ⟨e1277,he1277z,he1277,h⟩:=idx_some h
 refine ⟨_,⟨he1277z,map_at he1277,rfl⟩,?_⟩
 conv=>whnf
 obtain ⟨e1278,he1278,h⟩:=idxn_some h
 refine ⟨_,⟨(by omega),map_at he1278,rfl⟩,?_⟩
 conv=>whnf
 refine Side.mk rfl ?_
 conv=>whnf
 refine Side.mk rfl ?_
 conv=>whnf
 obtain ⟨e1279,he1279z,he1279,h⟩:=idx_some h
 refine ⟨_,⟨he1279z,map_at he1279,rfl⟩,?_⟩
 conv=>whnf
 obtain ⟨e1280,he1280,h⟩:=idxn_some h
 refine ⟨_,⟨(by omega),map_at he1280,rfl⟩,?_⟩
 conv=>whnf
 refine Side.mk rfl ?_
 conv=>whnf
 obtain ⟨y1286,hc,hk1282⟩:=bind_some h
 clear h
 have h:=hc
 clear hc
 refine Cut.mk (mkSt [(3,.im (.ref (c_api_Mealy a_))),(4,.im (.ref (c_api_Mealy b_))),(8,.osl 144 1),(10,.osl 145 1),(11,.im (nI (↑i900:Int))),(12,.own 146 1 0),(13,.im (nI (↑y1236:Int))),(14,.own 147 1 0),(55,.im (nI a_.Inputs)),(56,.im (nI (↑y1236:Int))),(120,.im (nB y1286))] [(144,.grid 86 4 1 (List.map (cL cB) y1234) none),(145,.row 116 3 (List.map c_equiv_place y1235)),(146,.box 100 2),(147,.box 100 2)] [(146,0,.im (nI e1104.at_.s)),(146,1,.im (nI e1104.at_.t)),(147,0,.im (nI e1278)),(147,1,.im (nI e1280))]) (lZ y1234∧lZ y1235∧True) ((Holds.kdg 144 rfl).and ((Holds.kdl 145 rfl).and (hT))) ?_ (fun hp=>?_)
 conv=>whnf
 refine Side.mk rfl ?_
 conv=>whnf
 refine Side.mk rfl ?_
 conv=>whnf
 refine Side.mk (by kernel_rfl) ?_
 conv=>whnf
 refine Nf.mk (decide (e1278=e1104.at_.s)&&(decide (e1280=e1104.at_.t)&&true)) rfl ?_
 conv=>whnf
 refine Both.mk ?_ ?_<;>intro b1287
 replace b1287:=beq_tt b1287
 replace h:=cond_t b1287 h
 conv=>whnf
 refine Both.yes (tt_beq b1287) ?_
 conv=>whnf
 refine Side.mk rfl ?_
 conv=>whnf
 refine Both.yes (tt_beq b1287) ?_
 conv=>whnf
 refine Side.mk rfl ?_
 conv=>whnf
 refine Both.yes (tt_beq b1287) ?_
 conv=>whnf
 obtain ⟨e1288,he1288z,he1288,h⟩:=idx_some h
 refine Side.mk ⟨he1288z,rfl,map_lt he1288⟩ ?_
 conv=>whnf
 refine Both.yes (tt_beq b1287) ?_
 conv=>whnf
 refine Side.mk ⟨rfl,map_lt he1288⟩ ?_
 conv=>whnf
 refine Both.yes (tt_beq b1287) ?_
 conv=>whnf
 refine Side.mk rfl ?_
 conv=>whnf
 refine Both.yes (tt_beq b1287) ?_
 conv=>whnf
 refine Side.mk rfl ?_
 conv=>whnf
 refine Both.yes (tt_beq b1287) ?_
 conv=>whnf
 obtain ⟨e1289,he1289z,he1289,h⟩:=idx_some h
 refine ⟨_,⟨he1289z,rfl,map_at he1288,map_lt he1289⟩,?_⟩
 conv=>whnf
 refine Both.yes (tt_beq b1287) ?_
 conv=>whnf
 refine ⟨_,_,_,⟨rfl,map_at he1288,map_at he1289,rfl⟩,?_⟩
 conv=>whnf
 refine Both.yes (tt_beq b1287) ?_
 conv=>whnf
 refine Both.yes b1287 ?_
 conv=>whnf
 cases h
 exact Join.mk (eA [(144,some 144),(145,some 145),(146,some 146),(147,some 14)])
 replace b1287:=beq_tf b1287
 replace h:=cond_f b1287 h
 conv=>whnf
 iterate 9 (refine Both.no (ft_beq b1287) ?_;(conv=>whnf))
 refine Both.no b1287 ?_
 conv=>whnf
 cases h
 exact Join.mk (eA [(144,some 144),(145,some 145),(146,some 146),(147,some 14)])
 replace h:=hk1282
 obtain ⟨z1290,z1291,_⟩:=hp
 conv=>whnf
 refine Both.mk ?_ ?_<;>intro b1292
 replace h:=cond_t b1292 h
 conv=>whnf
 refine Side.mk rfl ?_
 conv=>whnf
 refine Side.mk rfl ?_
 conv=>whnf
 obtain ⟨e1293,he1293z,he1293,h⟩:=idx_some h
 refine Side.mk ⟨he1293z,rfl,map_lt he1293⟩ ?_
 conv=>whnf
 refine Side.mk ⟨rfl,map_lt he1293⟩ ?_
 conv=>whnf
 refine Side.mk rfl ?_
 conv=>whnf
 refine Side.mk rfl ?_
 conv=>whnf
 obtain ⟨e1294,he1294z,he1294,h⟩:=idx_some h
 refine ⟨_,⟨he1294z,rfl,map_at he1293,map_lt he1294⟩,?_⟩
 conv=>whnf
 refine ⟨_,_,⟨rfl,map_at he1293,map_at he1294⟩,?_⟩
 conv=>whnf
 refine Nf.mk (List.map (cL cB) (List.set y1234 (Int.toNat e1278) (List.set e1293 (Int.toNat e1280) true))) (set_grid2 rfl) ?_
 conv=>whnf
 refine Side.mk rfl ?_
 conv=>whnf
 obtain ⟨e1295,he1295,h⟩:=idxn_some h
 refine Side.mk ⟨(by omega),rfl,map_lt he1295⟩ ?_
 conv=>whnf
 refine Side.mk rfl ?_
 conv=>whnf
 refine ⟨_,_,⟨rfl,map_at he1295,rfl,rfl⟩,?_⟩
 conv=>whnf
 obtain ⟨c1296,hc1296,h⟩:=bind_some h
 refine ⟨_,(sp_word_Join [e1295.word,[(↑y1236:Int)]] c1296 (fun _=>hc1296)),?_⟩
 conv=>whnf
 obtain ⟨c1297,h⟩:=chk_some h
 refine Side.mk ⟨rfl,map_len (l:=[(⟨(⟨e1278,e1280⟩:T_equiv_pair),c1296⟩:T_equiv_place)]) (c:=c_equiv_place) fun _=>rfl,show capOk _ 40 by simpa only [List.length_map,List.length_cons,List.length_nil,Nat.zero_add] using c1297⟩ ?_
 conv=>whnf
 refine Nf.mk (List.map c_equiv_place (y1235++[(⟨(⟨e1278,e1280⟩:T_equiv_pair),c1296⟩:T_equiv_place)])) (app_map (l:=y1235) (m:=[(⟨(⟨e1278,e1280⟩:T_equiv_pair),c1296⟩:T_equiv_place)]) (c:=c_equiv_place)) ?_
 conv=>whnf
 obtain ⟨c1298,h⟩:=chk_some h
 refine Arith.mk c1298 ?_
 conv=>whnf
 cases h
 exact Nxt.mk _ ho1268 (eA [(144,some 144),(145,some 145),(146,some 146)])
 replace h:=cond_f b1292 h
 conv=>whnf
 obtain ⟨c1299,h⟩:=chk_some h
 refine Arith.mk c1299 ?_
 conv=>whnf
 cases h
 exact Nxt.mk _ ho1268 (eA [(144,some 144),(145,some 145),(146,some 146)])
 obtain ⟨h,b1269d⟩:=cfd b1269 h
 conv=>whnf
 cases h
 have ho1268:_=_:=ho1268
 cases ho1268
 exact JoinS.mk' _ rfl (eA [(144,some 144),(145,some 145)])
 rintro ⟨y1203,y1204⟩ rfl hp
 have hx_:=sum_inl hk1105
 replace h:equiv_search.k21 i900 y1203 y1204=some _:=hx_
 clear hx_
 unfold equiv_search.k21 at h
 obtain ⟨z1302,z1303,_⟩:=hp
 conv=>whnf
 refine Arith.mk (by show inR _;unfold inR;omega) ?_
 conv=>whnf
 cases h
 exact Nxt.mk _ ho1102 (eA [(144,some 144),(145,some 145)])
 obtain ⟨h,b1103d⟩:=cfd b1103 h
 conv=>whnf
 cases h
 have ho1102:_=_:=ho1102
 cases ho1102
 exact JoinS.mk' _ rfl (eA [])
 rintro ⟨⟩ rfl hp
 replace h:=sum_inl hk87
 conv=>whnf
 cases h
 conv=>whnf
 exact ⟨rfl,rfl⟩
theorem sp_equiv_States (m_:T_api_Mealy) (s_:Int) (t_:Int) (r:List Int×Bool×Int) (h:Ok (.agg (c_api_Mealy m_))→Ok (nI s_)→Ok (nI t_)→equiv_States m_ s_ t_=some r):Sp Try.prog 41 [.im (.agg (c_api_Mealy m_)),.im (nI s_),.im (nI t_)] (.tup [nL cI r.1,nB r.2.1,nI r.2.2]):=by
 refine sp_of rfl [700003] rfl rfl rfl (Nat.le_of_ble_eq_true rfl) rfl fun hk=>?_
 replace h:=h hk.1 hk.2.1 hk.2.2.1
 have z1:lZ m_.Next:=ok_len (Ok.agg_at hk.1 2 rfl)
 have z2:lZ m_.Out:=ok_len (Ok.agg_at hk.1 3 rfl)
 unfold equiv_States at h
 conv=>whnf
 obtain ⟨c51,hc51,h⟩:=bind_some h
 refine ⟨_,(sp_mealy_Valid m_ c51 (fun _=>hc51)),?_⟩
 conv=>whnf
 refine Both.mk ?_ ?_<;>intro b52
 obtain ⟨h,b52d⟩:=ctd b52 h
 conv=>whnf
 cases h
 conv=>whnf
 exact ⟨rfl,rfl⟩
 obtain ⟨h,b52d⟩:=cfd b52 h
 conv=>whnf
 obtain ⟨y58,hc,hk54⟩:=bind_some h
 clear h
 have h:=hc
 clear hc
 refine Cut.mk (mkSt [(1,.im (nI s_)),(2,.im (nI t_)),(3,.im (.ref (c_api_Mealy m_))),(36,.im (nB y58))] [] []) (True) (hT) ?_ (fun hp=>?_)
 conv=>whnf
 refine Both.mk ?_ ?_<;>intro b59
 replace b59:=beq_ff b59
 obtain ⟨h,b59d⟩:=cfd b59 h
 conv=>whnf
 iterate 3 (refine Both.yes (ff_beq b59) ?_;(conv=>whnf))
 refine Nf.mk (List.length m_.Next) len_map ?_
 conv=>whnf
 refine Both.yes (ff_beq b59) ?_
 conv=>whnf
 refine Both.no b59 ?_
 conv=>whnf
 refine Both.mk ?_ ?_<;>intro b60
 replace b60:=beq_ff b60
 obtain ⟨h,b60d⟩:=cfd b60 h
 conv=>whnf
 refine Both.yes (ff_beq b60) ?_
 conv=>whnf
 refine Both.no b60 ?_
 conv=>whnf
 refine Both.mk ?_ ?_<;>intro b61
 replace b61:=beq_ff b61
 obtain ⟨h,b61d⟩:=cfd b61 h
 conv=>whnf
 iterate 3 (refine Both.yes (ff_beq b61) ?_;(conv=>whnf))
 refine Nf.mk (List.length m_.Next) len_map ?_
 conv=>whnf
 refine Both.yes (ff_beq b61) ?_
 conv=>whnf
 refine Both.no b61 ?_
 conv=>whnf
 cases h
 exact Join.mk (eA [])
 replace b61:=beq_ft b61
 obtain ⟨h,b61d⟩:=ctd b61 h
 conv=>whnf
 iterate 4 (refine Both.no (tf_beq b61) ?_;(conv=>whnf))
 refine Both.yes b61 ?_
 conv=>whnf
 cases h
 exact Join.mk (eA [])
 replace b60:=beq_ft b60
 obtain ⟨h,b60d⟩:=ctd b60 h
 conv=>whnf
 refine Both.no (tf_beq b60) ?_
 conv=>whnf
 refine Both.yes b60 ?_
 conv=>whnf
 iterate 5 (refine Both.no rfl ?_;(conv=>whnf))
 refine Both.yes rfl ?_
 conv=>whnf
 cases h
 exact Join.mk (eA [])
 replace b59:=beq_ft b59
 obtain ⟨h,b59d⟩:=ctd b59 h
 conv=>whnf
 iterate 4 (refine Both.no (tf_beq b59) ?_;(conv=>whnf))
 refine Both.yes b59 ?_
 conv=>whnf
 iterate 2 (refine Both.no rfl ?_;(conv=>whnf))
 refine Both.yes rfl ?_
 conv=>whnf
 iterate 5 (refine Both.no rfl ?_;(conv=>whnf))
 refine Both.yes rfl ?_
 conv=>whnf
 cases h
 exact Join.mk (eA [])
 replace h:=hk54
 conv=>whnf
 refine Both.mk ?_ ?_<;>intro b62
 replace h:=cond_t b62 h
 conv=>whnf
 cases h
 conv=>whnf
 exact ⟨rfl,rfl⟩
 replace h:=cond_f b62 h
 conv=>whnf
 obtain ⟨c63,hc63,h⟩:=bind_some h
 refine ⟨_,(sp_equiv_search m_ m_ (⟨s_,t_⟩:T_equiv_pair) c63 (fun _ _ _=>hc63)),?_⟩
 conv=>whnf
 cases h
 conv=>whnf
 exact ⟨rfl,rfl⟩
theorem sp_separate_Identifiers (m_:T_api_Mealy) (r:List (List (List Int))×Int) (h:Ok (.agg (c_api_Mealy m_))→separate_Identifiers m_=some r):Sp Try.prog 17 [.im (.agg (c_api_Mealy m_))] (.tup [nL (cL (cL cI)) r.1,nI r.2]):=by
 refine sp_of rfl [600022,700001,8000073] rfl rfl rfl (Nat.le_of_ble_eq_true rfl) rfl fun hk=>?_
 replace h:=h hk.1
 have z1:lZ m_.Next:=ok_len (Ok.agg_at hk.1 2 rfl)
 have z2:lZ m_.Out:=ok_len (Ok.agg_at hk.1 3 rfl)
 unfold separate_Identifiers at h
 conv=>whnf
 obtain ⟨c51,hc51,h⟩:=bind_some h
 refine ⟨_,(sp_separate_check m_ c51 (fun _=>hc51)),?_⟩
 conv=>whnf
 refine Both.mk ?_ ?_<;>intro b52
 obtain ⟨h,b52d⟩:=ctd b52 h
 conv=>whnf
 cases h
 conv=>whnf
 exact ⟨rfl,rfl⟩
 obtain ⟨h,b52d⟩:=cfd b52 h
 conv=>whnf
 refine Nf.mk (List.length m_.Next) len_map ?_
 conv=>whnf
 obtain ⟨c53,h⟩:=chk_some h
 refine Side.mk c53 ?_
 conv=>whnf
 refine Nf.mk (List.map (cL (cL cI)) (List.replicate (List.length m_.Next) ([]:List (List Int)))) (rep_map (c:=(cL (cL cI))) (z:=([]:List (List Int))) (n:=(List.length m_.Next)) rfl rfl) ?_
 conv=>whnf
 refine Nf.mk (List.length m_.Next) len_map ?_
 conv=>whnf
 obtain ⟨oc,hc,hk54⟩:=bind_some h
 clear h
 have h:=hc
 clear hc
 refine Cut.mkS oc (Y:=List (List (List Int))) (fun y257=>mkSt [(5,.osl 86 1)] [(86,.grid 22 26 1 (List.map (cL (cL cI)) y257) none)] []) (fun y257=>lZ y257∧True) (by rintro y257;exact ((Holds.kdg 86 rfl).and (hT))) ?_ ?_
 conv=>whnf
 refine Loops.iter (fun (s:List (List (List Int))×Nat)=>separate_Identifiers.s14 m_ s.1 s.2) (fun (y324,y325)=>mkSt [(1,.im (.ref (c_api_Mealy m_))),(5,.osl 86 1),(25,.im (nI (↑(List.length m_.Next):Int))),(26,.im (nI (↑y325:Int)))] [(86,.grid 22 26 1 (List.map (cL (cL cI)) y324) none)] []) (fun (y324,y325)=>lZ y324∧True) h (eA [(86,some 22)]) (by rintro ⟨y324,y325⟩;exact ((Holds.kdg 86 rfl).and (hT))) ?_
 clear h
 rintro k ⟨y324,y325⟩ o hp h ho392
 replace h:separate_Identifiers.s14 m_ y324 y325=some o:=h
 unfold separate_Identifiers.s14 at h
 obtain ⟨z459,_⟩:=hp
 conv=>whnf
 refine Both.mk ?_ ?_<;>intro b393
 obtain ⟨h,b393d⟩:=ctd b393 h
 conv=>whnf
 refine Arith.mk (by show inR _;unfold inR;omega) ?_
 conv=>whnf
 obtain ⟨oc,hc,hk394⟩:=bind_some h
 clear h
 have h:=hc
 clear hc
 refine Cut.mkS oc (Y:=List (List (List Int))) (fun y426=>mkSt [(1,.im (.ref (c_api_Mealy m_))),(5,.osl 86 1),(25,.im (nI (↑(List.length m_.Next):Int))),(26,.im (nI (↑y325:Int)))] [(86,.grid 22 26 1 (List.map (cL (cL cI)) y426) none)] []) (fun y426=>lZ y426∧True) (by rintro y426;exact ((Holds.kdg 86 rfl).and (hT))) ?_ ?_
 conv=>whnf
 refine Loops.iter (fun (s:List (List (List Int))×Nat)=>separate_Identifiers.s13 m_ y325 s.1 s.2) (fun (y436,t437)=>mkSt [(1,.im (.ref (c_api_Mealy m_))),(5,.osl 86 1),(6,.im (nI (↑y325:Int))),(7,.im (nI (↑t437:Int))),(25,.im (nI (↑(List.length m_.Next):Int))),(26,.im (nI (↑y325:Int)))] [(86,.grid 22 26 1 (List.map (cL (cL cI)) y436) none)] []) (fun (y436,t437)=>lZ y436∧True) h (eA [(86,some 86)]) (by rintro ⟨y436,t437⟩;exact ((Holds.kdg 86 rfl).and (hT))) ?_
 clear h
 rintro k ⟨y436,t437⟩ o hp h ho447
 replace h:separate_Identifiers.s13 m_ y325 y436 t437=some o:=h
 unfold separate_Identifiers.s13 at h
 obtain ⟨z457,_⟩:=hp
 conv=>whnf
 refine Nf.mk (List.length m_.Next) len_map ?_
 conv=>whnf
 refine Both.mk ?_ ?_<;>intro b448
 obtain ⟨h,b448d⟩:=ctd b448 h
 conv=>whnf
 obtain ⟨c449,hc449,h⟩:=bind_some h
 refine ⟨_,(sp_equiv_States m_ (↑y325:Int) (↑t437:Int) c449 (fun _ _ _=>hc449)),?_⟩
 conv=>whnf
 refine Both.mk ?_ ?_<;>intro b450
 obtain ⟨h,b450d⟩:=ctd b450 h
 conv=>whnf
 cases h
 have ho447:_=_:=ho447
 cases ho447
 replace h:some _=some _:=hk394
 cases h
 have ho392:_=_:=ho392
 cases ho392
 replace h:some _=some _:=hk54
 cases h
 conv=>whnf
 exact ⟨rfl,rfl⟩
 obtain ⟨h,b450d⟩:=cfd b450 h
 conv=>whnf
 obtain ⟨e451,he451,h⟩:=idxn_some h
 refine Side.mk ⟨(by omega),rfl,map_lt he451⟩ ?_
 conv=>whnf
 refine Side.mk ⟨rfl,map_lt he451⟩ ?_
 conv=>whnf
 obtain ⟨c452,h⟩:=chk_some h
 refine ⟨_,⟨rfl,map_at he451,map_len (l:=[c449.1]) (c:=cL cI) fun _=>rfl,show capOk _ 24 by simpa only [List.length_map,List.length_cons,List.length_nil,Nat.zero_add] using c452⟩,?_⟩
 conv=>whnf
 refine Nf.mk (List.map (cL cI) (e451++[c449.1])) (app_map (l:=e451) (m:=[c449.1]) (c:=cL cI)) ?_
 conv=>whnf
 obtain ⟨e453,he453,h⟩:=idxn_some h
 refine Side.mk ⟨(by omega),rfl,map_lt he453⟩ ?_
 conv=>whnf
 refine Side.mk ⟨rfl,rfl,map_lt he453,rfl⟩ ?_
 conv=>whnf
 refine Nf.mk (List.map (cL (cL cI)) (List.set y436 y325 (e451++[c449.1]))) set_grid1 ?_
 conv=>whnf
 obtain ⟨e454,he454,h⟩:=idxn_some h
 refine Side.mk ⟨(by omega),rfl,map_lt he454⟩ ?_
 conv=>whnf
 refine Side.mk ⟨rfl,map_lt he454⟩ ?_
 conv=>whnf
 obtain ⟨c455,h⟩:=chk_some h
 refine ⟨_,⟨rfl,map_at he454,map_len (l:=[c449.1]) (c:=cL cI) fun _=>rfl,show capOk _ 24 by simpa only [List.length_map,List.length_cons,List.length_nil,Nat.zero_add] using c455⟩,?_⟩
 conv=>whnf
 refine Nf.mk (List.map (cL cI) (e454++[c449.1])) (app_map (l:=e454) (m:=[c449.1]) (c:=cL cI)) ?_
 conv=>whnf
 obtain ⟨e456,he456,h⟩:=idxn_some h
 refine Side.mk ⟨(by omega),rfl,map_lt he456⟩ ?_
 conv=>whnf
 refine Side.mk ⟨rfl,rfl,map_lt he456,rfl⟩ ?_
 conv=>whnf
 refine Nf.mk (List.map (cL (cL cI)) (List.set (List.set y436 y325 (e451++[c449.1])) t437 (e454++[c449.1]))) set_grid1 ?_
 conv=>whnf
 refine Arith.mk (by show inR _;unfold inR;omega) ?_
 conv=>whnf
 cases h
 exact Nxt.mk _ ho447 (eA [(86,some 86)])
 obtain ⟨h,b448d⟩:=cfd b448 h
 conv=>whnf
 cases h
 have ho447:_=_:=ho447
 cases ho447
 exact JoinS.mk' _ rfl (eA [(86,some 86)])
 rintro y426 rfl hp
 replace h:=sum_inl hk394
 obtain ⟨z458,_⟩:=hp
 conv=>whnf
 refine Arith.mk (by show inR _;unfold inR;omega) ?_
 conv=>whnf
 cases h
 exact Nxt.mk _ ho392 (eA [(86,some 86)])
 obtain ⟨h,b393d⟩:=cfd b393 h
 conv=>whnf
 cases h
 have ho392:_=_:=ho392
 cases ho392
 exact JoinS.mk' _ rfl (eA [(86,some 86)])
 rintro y257 rfl hp
 replace h:=sum_inl hk54
 obtain ⟨z460,_⟩:=hp
 conv=>whnf
 refine Side.mk rfl ?_
 conv=>whnf
 refine Nf.mk (List.length y257) len_map ?_
 conv=>whnf
 obtain ⟨c461,h⟩:=chk_some h
 refine Side.mk c461 ?_
 conv=>whnf
 refine Nf.mk (List.map (cL (cL cI)) []) rfl ?_
 conv=>whnf
 refine Side.mk ⟨rfl,trivial⟩ ?_
 conv=>whnf
 refine Nf.mk (List.length y257) len_map ?_
 conv=>whnf
 obtain ⟨y480,hc,hk462⟩:=bind_some h
 clear h
 have h:=hc
 clear hc
 refine Cut.mk (mkSt [(11,.osl 86 1)] [(86,.row 22 1 (List.map (cL (cL cI)) y480))] []) (lZ y480∧True) ((Holds.kdl 86 rfl).and (hT)) ?_ (fun hp=>?_)
 conv=>whnf
 refine Loops.iter (fun (s:List (List (List Int))×Nat)=>separate_Identifiers.s16 y257 s.1 s.2) (fun (y485,y486)=>mkSt [(11,.osl 86 1),(73,.im (nL (cL (cL cI)) y257)),(74,.im (nI (↑(List.length y257):Int))),(75,.im (nI (↑y486:Int)))] [(86,.row 22 1 (List.map (cL (cL cI)) y485))] []) (fun (y485,y486)=>lZ y257∧lZ y485∧True) h (eA [(86,some 72)]) (by rintro ⟨y485,y486⟩;exact ((Holds.avl 73 rfl).and ((Holds.kdl 86 rfl).and (hT)))) ?_
 clear h
 rintro k ⟨y485,y486⟩ o hp h ho491
 replace h:separate_Identifiers.s16 y257 y485 y486=some o:=h
 unfold separate_Identifiers.s16 at h
 obtain ⟨z496,z497,_⟩:=hp
 conv=>whnf
 refine Both.mk ?_ ?_<;>intro b492
 obtain ⟨h,b492d⟩:=ctd b492 h
 conv=>whnf
 obtain ⟨e493,he493,h⟩:=idxn_some h
 refine ⟨_,⟨(by omega),map_at he493,rfl⟩,?_⟩
 conv=>whnf
 obtain ⟨c494,hc494,h⟩:=bind_some h
 refine ⟨_,(sp_wordset_Sorted e493 c494 (fun _=>hc494)).im,?_⟩
 conv=>whnf
 obtain ⟨c495,h⟩:=chk_some h
 refine Side.mk ⟨rfl,map_len (l:=[c494]) (c:=cL (cL cI)) fun _=>rfl,show capOk _ 24 by simpa only [List.length_map,List.length_cons,List.length_nil,Nat.zero_add] using c495⟩ ?_
 conv=>whnf
 refine Nf.mk (List.map (cL (cL cI)) (y485++[c494])) (app_map (l:=y485) (m:=[c494]) (c:=cL (cL cI))) ?_
 conv=>whnf
 refine Arith.mk (by show inR _;unfold inR;omega) ?_
 conv=>whnf
 cases h
 exact Nxt.mk _ ho491 (eA [(86,some 86)])
 obtain ⟨h,b492d⟩:=cfd b492 h
 conv=>whnf
 cases h
 have ho491:_=_:=ho491
 cases ho491
 exact Join.mk (eA [(86,some 86)])
 replace h:=hk462
 obtain ⟨z498,_⟩:=hp
 conv=>whnf
 cases h
 conv=>whnf
 exact Side.mk ⟨rfl,trivial⟩ ⟨rfl,rfl⟩
theorem sp_hsuite_Suite (m_:T_api_Mealy) (extra_:Int) (r:List (List Int)×Int) (h:Ok (.agg (c_api_Mealy m_))→Ok (nI extra_)→hsuite_Suite m_ extra_=some r):Sp Try.prog 27 [.im (.agg (c_api_Mealy m_)),.im (nI extra_)] (.tup [nL (cL cI) r.1,nI r.2]):=by
 refine sp_of rfl [700002] rfl rfl rfl (Nat.le_of_ble_eq_true rfl) rfl fun hk=>?_
 replace h:=h hk.1 hk.2.1
 have z1:lZ m_.Next:=ok_len (Ok.agg_at hk.1 2 rfl)
 have z2:lZ m_.Out:=ok_len (Ok.agg_at hk.1 3 rfl)
 unfold hsuite_Suite at h
 conv=>whnf
 obtain ⟨c51,hc51,h⟩:=bind_some h
 refine ⟨_,(sp_mealy_Valid m_ c51 (fun _=>hc51)),?_⟩
 conv=>whnf
 refine Both.mk ?_ ?_<;>intro b52
 obtain ⟨h,b52d⟩:=ctd b52 h
 conv=>whnf
 cases h
 conv=>whnf
 exact ⟨rfl,rfl⟩
 obtain ⟨h,b52d⟩:=cfd b52 h
 conv=>whnf
 obtain ⟨y56,hc,hk54⟩:=bind_some h
 clear h
 have h:=hc
 clear hc
 refine Cut.mk (mkSt [(1,.im (nI extra_)),(2,.im (.ref (c_api_Mealy m_))),(30,.im (nB y56))] [] []) (True) (hT) ?_ (fun hp=>?_)
 conv=>whnf
 refine Both.mk ?_ ?_<;>intro b57
 replace b57:=beq_ff b57
 obtain ⟨h,b57d⟩:=cfd b57 h
 conv=>whnf
 refine Both.yes (ff_beq b57) ?_
 conv=>whnf
 refine Both.no b57 ?_
 conv=>whnf
 cases h
 exact Join.mk (eA [])
 replace b57:=beq_ft b57
 obtain ⟨h,b57d⟩:=ctd b57 h
 conv=>whnf
 refine Both.no (tf_beq b57) ?_
 conv=>whnf
 refine Both.yes b57 ?_
 conv=>whnf
 cases h
 exact Join.mk (eA [])
 replace h:=hk54
 conv=>whnf
 refine Both.mk ?_ ?_<;>intro b58
 replace h:=cond_t b58 h
 conv=>whnf
 cases h
 conv=>whnf
 exact ⟨rfl,rfl⟩
 replace h:=cond_f b58 h
 conv=>whnf
 obtain ⟨c59,hc59,h⟩:=bind_some h
 refine ⟨_,(sp_minimize_Min m_ c59 (fun _=>hc59)),?_⟩
 conv=>whnf
 refine Side.mk rfl ?_
 conv=>whnf
 refine Both.mk ?_ ?_<;>intro b60
 obtain ⟨h,b60d⟩:=ctd b60 h
 conv=>whnf
 cases h
 conv=>whnf
 exact ⟨rfl,rfl⟩
 obtain ⟨h,b60d⟩:=cfd b60 h
 conv=>whnf
 refine Side.mk rfl ?_
 conv=>whnf
 obtain ⟨c61,hc61,h⟩:=bind_some h
 refine ⟨_,(sp_cover_StateCover c59.1 c61 (fun _=>hc61)),?_⟩
 conv=>whnf
 refine Both.mk ?_ ?_<;>intro b62
 obtain ⟨h,b62d⟩:=ctd b62 h
 conv=>whnf
 cases h
 conv=>whnf
 exact ⟨rfl,rfl⟩
 obtain ⟨h,b62d⟩:=cfd b62 h
 conv=>whnf
 refine Side.mk rfl ?_
 conv=>whnf
 refine Side.mk rfl ?_
 conv=>whnf
 obtain ⟨c63,h⟩:=chk_some h
 refine Arith.mk c63 ?_
 conv=>whnf
 obtain ⟨c64,hc64,h⟩:=bind_some h
 refine ⟨_,(sp_wordset_Upto c59.1.Inputs (extra_+1) c64 (fun _ _=>hc64)),?_⟩
 conv=>whnf
 refine Both.mk ?_ ?_<;>intro b65
 obtain ⟨h,b65d⟩:=ctd b65 h
 conv=>whnf
 cases h
 conv=>whnf
 exact ⟨rfl,rfl⟩
 obtain ⟨h,b65d⟩:=cfd b65 h
 conv=>whnf
 refine Side.mk rfl ?_
 conv=>whnf
 obtain ⟨c66,hc66,h⟩:=bind_some h
 refine ⟨_,(sp_separate_Identifiers c59.1 c66 (fun _=>hc66)),?_⟩
 conv=>whnf
 refine Both.mk ?_ ?_<;>intro b67
 obtain ⟨h,b67d⟩:=ctd b67 h
 conv=>whnf
 cases h
 conv=>whnf
 exact ⟨rfl,rfl⟩
 obtain ⟨h,b67d⟩:=cfd b67 h
 conv=>whnf
 refine Nf.mk (List.length c61.1) len_map ?_
 conv=>whnf
 refine Nf.mk (List.length c64.1) len_map ?_
 conv=>whnf
 obtain ⟨c68,h⟩:=chk_some h
 refine Arith.mk c68 ?_
 conv=>whnf
 obtain ⟨c69,hc69,h⟩:=bind_some h
 refine ⟨_,(sp_hsuite_most c66.1 c69 (fun _=>hc69)),?_⟩
 conv=>whnf
 obtain ⟨c70,h⟩:=chk_some h
 refine Arith.mk c70 ?_
 conv=>whnf
 refine Both.mk ?_ ?_<;>intro b71
 obtain ⟨h,b71d⟩:=ctd b71 h
 conv=>whnf
 cases h
 conv=>whnf
 exact ⟨rfl,rfl⟩
 obtain ⟨h,b71d⟩:=cfd b71 h
 conv=>whnf
 refine Nf.mk (List.length c61.1) len_map ?_
 conv=>whnf
 obtain ⟨oc,hc,hk72⟩:=bind_some h
 clear h
 have h:=hc
 clear hc
 refine Cut.mkS oc (Y:=List (List Int)) (fun y298=>mkSt [(12,.osl 110 1)] [(110,.row 26 1 (List.map (cL cI) y298))] []) (fun y298=>lZ y298∧True) (by rintro y298;exact ((Holds.kdl 110 rfl).and (hT))) ?_ ?_
 conv=>whnf
 refine Loops.iter (fun (s:List (List Int)×Nat)=>hsuite_Suite.s14 c59 c61 c64 c66 s.1 s.2) (fun (y371,y372)=>mkSt [(7,.own 110 1 0),(10,.im (nL (cL cI) c64.1)),(11,.im (nL (cL (cL cI)) c66.1)),(12,.osl 111 1),(75,.im (nL (cL cI) c61.1)),(76,.im (nI (↑(List.length c61.1):Int))),(77,.im (nI (↑y372:Int)))] [(110,.box 24 4),(111,.row 26 1 (List.map (cL cI) y371))] [(110,0,.im (nI c59.1.Inputs)),(110,1,.im (nI c59.1.Start)),(110,2,.im (nL (cL cI) c59.1.Next)),(110,3,.im (nL (cL cI) c59.1.Out))]) (fun (y371,y372)=>lZ c64.1∧lZ c66.1∧lZ c61.1∧lZ c59.1.Next∧lZ c59.1.Out∧lZ y371∧True) h (eA [(110,some 7),(111,none)]) (by rintro ⟨y371,y372⟩;exact ((Holds.avl 10 rfl).and ((Holds.avl 11 rfl).and ((Holds.avl 75 rfl).and ((Holds.cel 110 2 rfl (by decide) rfl).and ((Holds.cel 110 3 rfl (by decide) rfl).and ((Holds.kdl 111 rfl).and (hT)))))))) ?_
 clear h
 rintro k ⟨y371,y372⟩ o hp h ho445
 replace h:hsuite_Suite.s14 c59 c61 c64 c66 y371 y372=some o:=h
 unfold hsuite_Suite.s14 at h
 obtain ⟨z518,z519,z520,z521,z522,z523,_⟩:=hp
 conv=>whnf
 refine Both.mk ?_ ?_<;>intro b446
 obtain ⟨h,b446d⟩:=ctd b446 h
 conv=>whnf
 obtain ⟨e447,he447,h⟩:=idxn_some h
 refine ⟨_,⟨(by omega),map_at he447,rfl⟩,?_⟩
 conv=>whnf
 refine Nf.mk (List.length c64.1) len_map ?_
 conv=>whnf
 obtain ⟨oc,hc,hk448⟩:=bind_some h
 clear h
 have h:=hc
 clear hc
 refine Cut.mkS oc (Y:=List (List Int)) (fun y480=>mkSt [(7,.own 110 1 0),(10,.im (nL (cL cI) c64.1)),(11,.im (nL (cL (cL cI)) c66.1)),(12,.osl 111 1),(75,.im (nL (cL cI) c61.1)),(76,.im (nI (↑(List.length c61.1):Int))),(77,.im (nI (↑y372:Int)))] [(110,.box 24 4),(111,.row 26 1 (List.map (cL cI) y480))] [(110,0,.im (nI c59.1.Inputs)),(110,1,.im (nI c59.1.Start)),(110,2,.im (nL (cL cI) c59.1.Next)),(110,3,.im (nL (cL cI) c59.1.Out))]) (fun y480=>lZ c64.1∧lZ c66.1∧lZ c61.1∧lZ c59.1.Next∧lZ c59.1.Out∧lZ y480∧True) (by rintro y480;exact ((Holds.avl 10 rfl).and ((Holds.avl 11 rfl).and ((Holds.avl 75 rfl).and ((Holds.cel 110 2 rfl (by decide) rfl).and ((Holds.cel 110 3 rfl (by decide) rfl).and ((Holds.kdl 111 rfl).and (hT)))))))) ?_ ?_
 conv=>whnf
 refine Loops.iter (fun (s:List (List Int)×Nat)=>hsuite_Suite.s13 c59 c64 c66 e447 s.1 s.2) (fun (y488,y489)=>mkSt [(7,.own 110 1 0),(10,.im (nL (cL cI) c64.1)),(11,.im (nL (cL (cL cI)) c66.1)),(12,.osl 111 1),(14,.im (nL cI e447)),(75,.im (nL (cL cI) c61.1)),(76,.im (nI (↑(List.length c61.1):Int))),(77,.im (nI (↑y372:Int))),(81,.im (nL (cL cI) c64.1)),(82,.im (nI (↑(List.length c64.1):Int))),(83,.im (nI (↑y489:Int)))] [(110,.box 24 4),(111,.row 26 1 (List.map (cL cI) y488))] [(110,0,.im (nI c59.1.Inputs)),(110,1,.im (nI c59.1.Start)),(110,2,.im (nL (cL cI) c59.1.Next)),(110,3,.im (nL (cL cI) c59.1.Out))]) (fun (y488,y489)=>lZ c64.1∧lZ c66.1∧lZ e447∧lZ c61.1∧lZ c59.1.Next∧lZ c59.1.Out∧lZ y488∧True) h (eA [(110,some 110),(111,some 111)]) (by rintro ⟨y488,y489⟩;exact ((Holds.avl 10 rfl).and ((Holds.avl 11 rfl).and ((Holds.avl 14 rfl).and ((Holds.avl 75 rfl).and ((Holds.cel 110 2 rfl (by decide) rfl).and ((Holds.cel 110 3 rfl (by decide) rfl).and ((Holds.kdl 111 rfl).and (hT))))))))) ?_
 clear h
 rintro k ⟨y488,y489⟩ o hp h ho497
 replace h:hsuite_Suite.s13 c59 c64 c66 e447 y488 y489=some o:=h
 unfold hsuite_Suite.s13 at h
 obtain ⟨z505,z506,z507,z508,z509,z510,z511,_⟩:=hp
 conv=>whnf
 refine Both.mk ?_ ?_<;>intro b498
 obtain ⟨h,b498d⟩:=ctd b498 h
 conv=>whnf
 obtain ⟨e499,he499,h⟩:=idxn_some h
 refine ⟨_,⟨(by omega),map_at he499,rfl⟩,?_⟩
 conv=>whnf
 obtain ⟨c500,hc500,h⟩:=bind_some h
 refine ⟨_,(sp_word_Join [e447,e499] c500 (fun _=>hc500)),?_⟩
 conv=>whnf
 refine Side.mk rfl ?_
 conv=>whnf
 obtain ⟨c501,hc501,h⟩:=bind_some h
 refine ⟨_,(sp_hsuite_Tails c59.1 c66.1 c500 c501 (fun _ _ _=>hc501)),?_⟩
 conv=>whnf
 refine Both.mk ?_ ?_<;>intro b502
 obtain ⟨h,b502d⟩:=ctd b502 h
 conv=>whnf
 cases h
 have ho497:_=_:=ho497
 cases ho497
 replace h:some _=some _:=hk448
 cases h
 have ho445:_=_:=ho445
 cases ho445
 replace h:some _=some _:=hk72
 cases h
 conv=>whnf
 exact ⟨rfl,rfl⟩
 obtain ⟨h,b502d⟩:=cfd b502 h
 conv=>whnf
 obtain ⟨c503,hc503,h⟩:=bind_some h
 refine ⟨_,(sp_hsuite_behind c500 c501.1 c503 (fun _ _=>hc503)).im,?_⟩
 conv=>whnf
 obtain ⟨c504,h⟩:=chk_some h
 refine Side.mk ⟨rfl,map_len (l:=c503) (c:=cL cI) fun _=>rfl,show capOk _ 24 by simpa only [List.length_map,List.length_cons,List.length_nil,Nat.zero_add] using c504⟩ ?_
 conv=>whnf
 refine Nf.mk (List.map (cL cI) (y488++c503)) (app_map (l:=y488) (m:=c503) (c:=cL cI)) ?_
 conv=>whnf
 refine Arith.mk (by show inR _;unfold inR;omega) ?_
 conv=>whnf
 cases h
 exact Nxt.mk _ ho497 (eA [(110,some 110),(111,some 111)])
 obtain ⟨h,b498d⟩:=cfd b498 h
 conv=>whnf
 cases h
 have ho497:_=_:=ho497
 cases ho497
 exact JoinS.mk' _ rfl (eA [(110,some 110),(111,some 111)])
 rintro y480 rfl hp
 replace h:=sum_inl hk448
 obtain ⟨z512,z513,z514,z515,z516,z517,_⟩:=hp
 conv=>whnf
 refine Arith.mk (by show inR _;unfold inR;omega) ?_
 conv=>whnf
 cases h
 exact Nxt.mk _ ho445 (eA [(110,some 110),(111,some 111)])
 obtain ⟨h,b446d⟩:=cfd b446 h
 conv=>whnf
 cases h
 have ho445:_=_:=ho445
 cases ho445
 exact JoinS.mk' _ rfl (eA [(110,some 111)])
 rintro y298 rfl hp
 replace h:=sum_inl hk72
 obtain ⟨z524,_⟩:=hp
 conv=>whnf
 refine Side.mk ⟨rfl,trivial⟩ ?_
 conv=>whnf
 obtain ⟨c525,hc525,h⟩:=bind_some h
 refine ⟨_,(sp_wordset_Maximal y298 c525 (fun _=>hc525)),?_⟩
 conv=>whnf
 cases h
 conv=>whnf
 exact ⟨rfl,rfl⟩
theorem sp_L30_exampleHolds (r:Bool) (h:L30_exampleHolds=some r):Sp Try.prog 11 [] (.im (nB r)):=by
 refine sp_of rfl [] rfl rfl rfl (Nat.le_of_ble_eq_true rfl) rfl fun hk=>?_
 unfold L30_exampleHolds at h
 conv=>whnf
 refine Side.mk rfl ?_
 conv=>whnf
 refine Side.mk rfl ?_
 conv=>whnf
 obtain ⟨c51,hc51,h⟩:=bind_some h
 refine ⟨_,(sp_hsuite_Suite (⟨1,0,[[1],[2],[0]],[[0],[0],[1]]⟩:T_api_Mealy) 0 c51 (fun _ _=>hc51)),?_⟩
 conv=>whnf
 obtain ⟨c52,hc52,h⟩:=bind_some h
 refine ⟨_,(sp_hsuite_Suite (⟨1,0,[[0]],[[0]]⟩:T_api_Mealy) 0 c52 (fun _ _=>hc52)),?_⟩
 conv=>whnf
 refine Side.mk rfl ?_
 conv=>whnf
 obtain ⟨c53,hc53,h⟩:=bind_some h
 refine ⟨_,(sp_hsuite_Tails (⟨1,0,[[1],[2],[0]],[[0],[0],[1]]⟩:T_api_Mealy) [[[0],[0,0]],[[0],[0,0]],[[0]]] [0,0] c53 (fun _ _ _=>hc53)),?_⟩
 conv=>whnf
 refine Side.mk rfl ?_
 conv=>whnf
 obtain ⟨c54,hc54,h⟩:=bind_some h
 refine ⟨_,(sp_hsuite_Tails (⟨1,0,[[1],[2],[0]],[[0],[0],[1]]⟩:T_api_Mealy) [[[0],[0,0]],[[0],[0,0]],[[0]]] [] c54 (fun _ _ _=>hc54)),?_⟩
 conv=>whnf
 refine Side.mk rfl ?_
 conv=>whnf
 obtain ⟨c55,h⟩:=chk_some h
 refine Side.mk (show (0:Int)≤(0:Int)∧(0:Int)≤2∧2≤(↑(List.length (List.map (cL (cL cI)) [[[0],[0,0]],[[0],[0,0]],[[0]]])):Int)∧(∀ e∈List.map (cL (cL cI)) [[[0],[0,0]],[[0],[0,0]],[[0]]],List.length e=1) from ⟨by omega,by first | omega | (simp only [List.length_map];omega),by first | omega | (simp only [List.length_map];omega),map_len fun _=>rfl⟩) ?_
 conv=>whnf
 refine Nf.mk (List.map (cL (cL cI)) (List.take 2 [[[0],[0,0]],[[0],[0,0]],[[0]]])) take_map ?_
 conv=>whnf
 obtain ⟨c56,hc56,h⟩:=bind_some h
 refine ⟨_,(sp_hsuite_Tails (⟨1,0,[[1],[2],[0]],[[0],[0],[1]]⟩:T_api_Mealy) (List.take 2 [[[0],[0,0]],[[0],[0,0]],[[0]]]) [] c56 (fun _ _ _=>hc56)),?_⟩
 conv=>whnf
 obtain ⟨y72,hc,hk58⟩:=bind_some h
 clear h
 have h:=hc
 clear hc
 refine Cut.mk (mkSt [(0,.im (nB y72))] [] []) (True) (hT) ?_ (fun hp=>?_)
 conv=>whnf
 refine Both.mk ?_ ?_<;>intro b73
 replace b73:=beq_tt b73
 obtain ⟨h,b73d⟩:=ctd b73 h
 conv=>whnf
 refine Both.yes (tt_beq b73) ?_
 conv=>whnf
 refine Both.yes b73 ?_
 conv=>whnf
 refine Both.mk ?_ ?_<;>intro b74
 replace b74:=beq_tt b74
 obtain ⟨h,b74d⟩:=ctd b74 h
 conv=>whnf
 refine Both.yes (tt_beq b74) ?_
 conv=>whnf
 refine Both.yes b74 ?_
 conv=>whnf
 refine Both.mk ?_ ?_<;>intro b75
 replace b75:=beq_tt b75
 obtain ⟨h,b75d⟩:=ctd b75 h
 conv=>whnf
 refine Both.yes (tt_beq b75) ?_
 conv=>whnf
 refine Both.yes b75 ?_
 conv=>whnf
 refine Both.mk ?_ ?_<;>intro b76
 replace b76:=beq_tt b76
 obtain ⟨h,b76d⟩:=ctd b76 h
 conv=>whnf
 refine Both.yes (tt_beq b76) ?_
 conv=>whnf
 refine Both.yes b76 ?_
 conv=>whnf
 refine Both.mk ?_ ?_<;>intro b77
 replace b77:=beq_tt b77
 obtain ⟨h,b77d⟩:=ctd b77 h
 conv=>whnf
 iterate 3 (refine Both.yes (tt_beq b77) ?_;(conv=>whnf))
 obtain ⟨c78,hc78,h⟩:=bind_some h
 refine ⟨_,(sp_R10_Same c51.1 [[0,0,0,0,0]] c78 (fun _ _=>hc78)),?_⟩
 conv=>whnf
 refine Both.yes b77 ?_
 conv=>whnf
 refine Both.mk ?_ ?_<;>intro b79
 replace b79:=beq_tt b79
 replace h:=cond_t b79 h
 conv=>whnf
 iterate 3 (refine Both.yes (tt_beq b79) ?_;(conv=>whnf))
 obtain ⟨c80,hc80,h⟩:=bind_some h
 refine ⟨_,(sp_R10_Same c52.1 [[0]] c80 (fun _ _=>hc80)),?_⟩
 conv=>whnf
 refine Both.yes b79 ?_
 conv=>whnf
 refine Both.mk ?_ ?_<;>intro b81
 replace b81:=beq_tt b81
 replace h:=cond_t b81 h
 conv=>whnf
 iterate 3 (refine Both.yes (tt_beq b81) ?_;(conv=>whnf))
 obtain ⟨c82,hc82,h⟩:=bind_some h
 refine ⟨_,(sp_R10_Same c53.1 [[0]] c82 (fun _ _=>hc82)),?_⟩
 conv=>whnf
 refine Both.yes b81 ?_
 conv=>whnf
 refine Both.mk ?_ ?_<;>intro b83
 replace b83:=beq_tt b83
 replace h:=cond_t b83 h
 conv=>whnf
 iterate 2 (refine Both.yes (tt_beq b83) ?_;(conv=>whnf))
 obtain ⟨e84,he84,h⟩:=idxn_some h
 refine ⟨_,⟨(by omega),map_at (l:=[[[0],[0,0]],[[0],[0,0]],[[0]]]) (c:=(cL (cL cI))) he84,rfl⟩,?_⟩
 conv=>whnf
 iterate 2 (refine Both.yes (tt_beq b83) ?_;(conv=>whnf))
 obtain ⟨c85,hc85,h⟩:=bind_some h
 refine ⟨_,(sp_R10_Same c54.1 e84 c85 (fun _ _=>hc85)),?_⟩
 conv=>whnf
 refine Both.yes b83 ?_
 conv=>whnf
 cases h
 exact Join.mk (eA [])
 replace b83:=beq_tf b83
 replace h:=cond_f b83 h
 conv=>whnf
 iterate 4 (refine Both.no (ft_beq b83) ?_;(conv=>whnf))
 refine Both.no b83 ?_
 conv=>whnf
 cases h
 exact Join.mk (eA [])
 replace b81:=beq_tf b81
 replace h:=cond_f b81 h
 conv=>whnf
 iterate 3 (refine Both.no (ft_beq b81) ?_;(conv=>whnf))
 refine Both.no b81 ?_
 conv=>whnf
 iterate 6 (refine Both.no rfl ?_;(conv=>whnf))
 cases h
 exact Join.mk (eA [])
 replace b79:=beq_tf b79
 replace h:=cond_f b79 h
 conv=>whnf
 iterate 3 (refine Both.no (ft_beq b79) ?_;(conv=>whnf))
 refine Both.no b79 ?_
 conv=>whnf
 iterate 11 (refine Both.no rfl ?_;(conv=>whnf))
 cases h
 exact Join.mk (eA [])
 replace b77:=beq_tf b77
 obtain ⟨h,b77d⟩:=cfd b77 h
 conv=>whnf
 iterate 3 (refine Both.no (ft_beq b77) ?_;(conv=>whnf))
 refine Both.no b77 ?_
 conv=>whnf
 iterate 16 (refine Both.no rfl ?_;(conv=>whnf))
 cases h
 exact Join.mk (eA [])
 replace b76:=beq_tf b76
 obtain ⟨h,b76d⟩:=cfd b76 h
 conv=>whnf
 refine Both.no (ft_beq b76) ?_
 conv=>whnf
 refine Both.no b76 ?_
 conv=>whnf
 iterate 21 (refine Both.no rfl ?_;(conv=>whnf))
 cases h
 exact Join.mk (eA [])
 replace b75:=beq_tf b75
 obtain ⟨h,b75d⟩:=cfd b75 h
 conv=>whnf
 refine Both.no (ft_beq b75) ?_
 conv=>whnf
 refine Both.no b75 ?_
 conv=>whnf
 iterate 24 (refine Both.no rfl ?_;(conv=>whnf))
 cases h
 exact Join.mk (eA [])
 replace b74:=beq_tf b74
 obtain ⟨h,b74d⟩:=cfd b74 h
 conv=>whnf
 refine Both.no (ft_beq b74) ?_
 conv=>whnf
 refine Both.no b74 ?_
 conv=>whnf
 iterate 27 (refine Both.no rfl ?_;(conv=>whnf))
 cases h
 exact Join.mk (eA [])
 replace b73:=beq_tf b73
 obtain ⟨h,b73d⟩:=cfd b73 h
 conv=>whnf
 refine Both.no (ft_beq b73) ?_
 conv=>whnf
 refine Both.no b73 ?_
 conv=>whnf
 iterate 30 (refine Both.no rfl ?_;(conv=>whnf))
 cases h
 exact Join.mk (eA [])
 replace h:=hk58
 conv=>whnf
 cases h
 conv=>whnf
 exact ⟨rfl,rfl⟩
theorem sp_mealy_Run (m_:T_api_Mealy) (w_:List Int) (r:List Int×Int) (h:Ok (.agg (c_api_Mealy m_))→Ok (nL cI w_)→mealy_Run m_ w_=some r):Sp Try.prog 26 [.im (.agg (c_api_Mealy m_)),.im (nL cI w_)] (.tup [nL cI r.1,nI r.2]):=by
 refine sp_of rfl [700002] rfl rfl rfl (Nat.le_of_ble_eq_true rfl) rfl fun hk=>?_
 replace h:=h hk.1 hk.2.1
 have z1:lZ m_.Next:=ok_len (Ok.agg_at hk.1 2 rfl)
 have z2:lZ m_.Out:=ok_len (Ok.agg_at hk.1 3 rfl)
 have z3:lZ w_:=ok_len hk.2.1
 unfold mealy_Run at h
 conv=>whnf
 obtain ⟨c51,hc51,h⟩:=bind_some h
 refine ⟨_,(sp_mealy_From m_ m_.Start w_ c51 (fun _ _ _=>hc51)),?_⟩
 conv=>whnf
 cases h
 conv=>whnf
 exact ⟨rfl,rfl⟩
theorem sp_wsuite_Passes (m_:T_api_Mealy) (impl_:T_api_Mealy) (words_:List (List Int)) (r:List Int×Bool×Int) (h:Ok (.agg (c_api_Mealy m_))→Ok (.agg (c_api_Mealy impl_))→Ok (nL (cL cI) words_)→wsuite_Passes m_ impl_ words_=some r):Sp Try.prog 22 [.im (.agg (c_api_Mealy m_)),.im (.agg (c_api_Mealy impl_)),.im (nL (cL cI) words_)] (.tup [nL cI r.1,nB r.2.1,nI r.2.2]):=by
 refine sp_of rfl [700003,700004] rfl rfl rfl (Nat.le_of_ble_eq_true rfl) rfl fun hk=>?_
 replace h:=h hk.1 hk.2.1 hk.2.2.1
 have z1:lZ m_.Next:=ok_len (Ok.agg_at hk.1 2 rfl)
 have z2:lZ m_.Out:=ok_len (Ok.agg_at hk.1 3 rfl)
 have z3:lZ impl_.Next:=ok_len (Ok.agg_at hk.2.1 2 rfl)
 have z4:lZ impl_.Out:=ok_len (Ok.agg_at hk.2.1 3 rfl)
 have z5:lZ words_:=ok_len hk.2.2.1
 unfold wsuite_Passes at h
 conv=>whnf
 obtain ⟨c51,hc51,h⟩:=bind_some h
 refine ⟨_,(sp_mealy_Valid m_ c51 (fun _=>hc51)),?_⟩
 conv=>whnf
 refine Both.mk ?_ ?_<;>intro b52
 obtain ⟨h,b52d⟩:=ctd b52 h
 conv=>whnf
 cases h
 conv=>whnf
 exact ⟨rfl,rfl⟩
 obtain ⟨h,b52d⟩:=cfd b52 h
 conv=>whnf
 obtain ⟨c53,hc53,h⟩:=bind_some h
 refine ⟨_,(sp_mealy_Valid impl_ c53 (fun _=>hc53)),?_⟩
 conv=>whnf
 refine Both.mk ?_ ?_<;>intro b54
 obtain ⟨h,b54d⟩:=ctd b54 h
 conv=>whnf
 cases h
 conv=>whnf
 exact ⟨rfl,rfl⟩
 obtain ⟨h,b54d⟩:=cfd b54 h
 conv=>whnf
 refine Both.mk ?_ ?_<;>intro b55
 obtain ⟨h,b55d⟩:=ctd b55 h
 conv=>whnf
 cases h
 conv=>whnf
 exact ⟨rfl,rfl⟩
 obtain ⟨h,b55d⟩:=cfd b55 h
 conv=>whnf
 refine Nf.mk (List.length words_) len_map ?_
 conv=>whnf
 obtain ⟨oc,hc,hk56⟩:=bind_some h
 clear h
 have h:=hc
 clear hc
 refine Cut.mkS oc (Y:=Unit) (fun (_:Unit)=>mkSt [(2,.im (nL (cL cI) words_)),(3,.im (.ref (c_api_Mealy m_))),(4,.im (.ref (c_api_Mealy impl_)))] [] []) (fun (_:Unit)=>lZ words_∧True) (by rintro ⟨⟩;exact ((Holds.avl 2 rfl).and (hT))) ?_ ?_
 conv=>whnf
 refine Loops.iter (fun (s:Nat)=>wsuite_Passes.s2 m_ words_ s) (fun y76=>mkSt [(2,.im (nL (cL cI) words_)),(3,.im (.ref (c_api_Mealy m_))),(4,.im (.ref (c_api_Mealy impl_))),(35,.im (nL (cL cI) words_)),(36,.im (nI (↑(List.length words_):Int))),(37,.im (nI (↑y76:Int)))] [] []) (fun y76=>lZ words_∧True) h (eA []) (by rintro y76;exact ((Holds.avl 2 rfl).and (hT))) ?_
 clear h
 rintro k y76 o hp h ho81
 replace h:wsuite_Passes.s2 m_ words_ y76=some o:=h
 unfold wsuite_Passes.s2 at h
 obtain ⟨z86,_⟩:=hp
 conv=>whnf
 refine Both.mk ?_ ?_<;>intro b82
 obtain ⟨h,b82d⟩:=ctd b82 h
 conv=>whnf
 obtain ⟨e83,he83,h⟩:=idxn_some h
 refine ⟨_,⟨(by omega),map_at he83,rfl⟩,?_⟩
 conv=>whnf
 obtain ⟨c84,hc84,h⟩:=bind_some h
 refine ⟨_,(sp_word_Check e83 m_.Inputs c84 (fun _ _=>hc84)),?_⟩
 conv=>whnf
 refine Both.mk ?_ ?_<;>intro b85
 obtain ⟨h,b85d⟩:=ctd b85 h
 conv=>whnf
 cases h
 have ho81:_=_:=ho81
 cases ho81
 replace h:some _=some _:=hk56
 cases h
 conv=>whnf
 exact ⟨rfl,rfl⟩
 obtain ⟨h,b85d⟩:=cfd b85 h
 conv=>whnf
 refine Arith.mk (by show inR _;unfold inR;omega) ?_
 conv=>whnf
 cases h
 exact Nxt.mk _ ho81 (eA [])
 obtain ⟨h,b82d⟩:=cfd b82 h
 conv=>whnf
 cases h
 have ho81:_=_:=ho81
 cases ho81
 exact JoinS.mk' _ rfl (eA [])
 rintro ⟨⟩ rfl hp
 replace h:=sum_inl hk56
 obtain ⟨z87,_⟩:=hp
 conv=>whnf
 refine Nf.mk (List.length words_) len_map ?_
 conv=>whnf
 obtain ⟨oc,hc,hk88⟩:=bind_some h
 clear h
 have h:=hc
 clear hc
 refine Cut.mkS oc (Y:=Unit) (fun (_:Unit)=>mkSt [] [] []) (fun (_:Unit)=>True) (by rintro ⟨⟩;exact (hT)) ?_ ?_
 conv=>whnf
 refine Loops.iter (fun (s:Nat)=>wsuite_Passes.s4 m_ impl_ words_ s) (fun y136=>mkSt [(3,.im (.ref (c_api_Mealy m_))),(4,.im (.ref (c_api_Mealy impl_))),(49,.im (nL (cL cI) words_)),(50,.im (nI (↑(List.length words_):Int))),(51,.im (nI (↑y136:Int)))] [] []) (fun y136=>lZ words_∧True) h (eA []) (by rintro y136;exact ((Holds.avl 49 rfl).and (hT))) ?_
 clear h
 rintro k y136 o hp h ho148
 replace h:wsuite_Passes.s4 m_ impl_ words_ y136=some o:=h
 unfold wsuite_Passes.s4 at h
 obtain ⟨z160,_⟩:=hp
 conv=>whnf
 refine Both.mk ?_ ?_<;>intro b149
 obtain ⟨h,b149d⟩:=ctd b149 h
 conv=>whnf
 obtain ⟨e150,he150,h⟩:=idxn_some h
 refine ⟨_,⟨(by omega),map_at he150,rfl⟩,?_⟩
 conv=>whnf
 obtain ⟨c151,hc151,h⟩:=bind_some h
 refine ⟨_,(sp_mealy_Run m_ e150 c151 (fun _ _=>hc151)),?_⟩
 conv=>whnf
 refine Both.mk ?_ ?_<;>intro b152
 obtain ⟨h,b152d⟩:=ctd b152 h
 conv=>whnf
 cases h
 have ho148:_=_:=ho148
 cases ho148
 replace h:some _=some _:=hk88
 cases h
 conv=>whnf
 exact ⟨rfl,rfl⟩
 obtain ⟨h,b152d⟩:=cfd b152 h
 conv=>whnf
 obtain ⟨c153,hc153,h⟩:=bind_some h
 refine ⟨_,(sp_mealy_Run impl_ e150 c153 (fun _ _=>hc153)),?_⟩
 conv=>whnf
 refine Both.mk ?_ ?_<;>intro b154
 obtain ⟨h,b154d⟩:=ctd b154 h
 conv=>whnf
 cases h
 have ho148:_=_:=ho148
 cases ho148
 replace h:some _=some _:=hk88
 cases h
 conv=>whnf
 exact ⟨rfl,rfl⟩
 obtain ⟨h,b154d⟩:=cfd b154 h
 conv=>whnf
 obtain ⟨c155,hc155,h⟩:=bind_some h
 refine ⟨_,(sp_word_Common c151.1 c153.1 c155 (fun _ _=>hc155)),?_⟩
 conv=>whnf
 refine Nf.mk (List.length e150) len_map ?_
 conv=>whnf
 refine Both.mk ?_ ?_<;>intro b156
 obtain ⟨h,b156d⟩:=ctd b156 h
 conv=>whnf
 obtain ⟨c157,h⟩:=chk_some h
 refine Arith.mk c157 ?_
 conv=>whnf
 obtain ⟨c158,h⟩:=chk_some h
 refine Side.mk (show (0:Int)≤(0:Int)∧(0:Int)≤(c155+1)∧(c155+1)≤(↑(List.length (List.map cI e150)):Int)∧(∀ e∈List.map cI e150,List.length e=1) from ⟨by omega,by first | omega | (simp only [List.length_map];omega),by first | omega | (simp only [List.length_map];omega),map_len fun _=>rfl⟩) ?_
 conv=>whnf
 refine Nf.mk (List.map cI (List.take (Int.toNat (c155+1)) e150)) take_map ?_
 conv=>whnf
 obtain ⟨c159,hc159,h⟩:=bind_some h
 refine ⟨_,(sp_word_Join [(List.take (Int.toNat (c155+1)) e150)] c159 (fun _=>hc159)),?_⟩
 conv=>whnf
 cases h
 have ho148:_=_:=ho148
 cases ho148
 replace h:some _=some _:=hk88
 cases h
 conv=>whnf
 exact ⟨rfl,rfl⟩
 obtain ⟨h,b156d⟩:=cfd b156 h
 conv=>whnf
 refine Arith.mk (by show inR _;unfold inR;omega) ?_
 conv=>whnf
 cases h
 exact Nxt.mk _ ho148 (eA [])
 obtain ⟨h,b149d⟩:=cfd b149 h
 conv=>whnf
 cases h
 have ho148:_=_:=ho148
 cases ho148
 exact JoinS.mk' _ rfl (eA [])
 rintro ⟨⟩ rfl hp
 replace h:=sum_inl hk88
 conv=>whnf
 cases h
 conv=>whnf
 exact ⟨rfl,rfl⟩
theorem sp_R09_Check (a_:T_api_Mealy) (b_:T_api_Mealy) (r:Int) (h:Ok (.agg (c_api_Mealy a_))→Ok (.agg (c_api_Mealy b_))→R09_Check a_ b_=some r):Sp Try.prog 25 [.im (.agg (c_api_Mealy a_)),.im (.agg (c_api_Mealy b_))] (.im (nI r)):=by
 refine sp_of rfl [700002,700003] rfl rfl rfl (Nat.le_of_ble_eq_true rfl) rfl fun hk=>?_
 replace h:=h hk.1 hk.2.1
 have z1:lZ a_.Next:=ok_len (Ok.agg_at hk.1 2 rfl)
 have z2:lZ a_.Out:=ok_len (Ok.agg_at hk.1 3 rfl)
 have z3:lZ b_.Next:=ok_len (Ok.agg_at hk.2.1 2 rfl)
 have z4:lZ b_.Out:=ok_len (Ok.agg_at hk.2.1 3 rfl)
 unfold R09_Check at h
 conv=>whnf
 obtain ⟨c51,hc51,h⟩:=bind_some h
 refine ⟨_,(sp_R06_Valid a_ c51 (fun _=>hc51)),?_⟩
 conv=>whnf
 refine Both.mk ?_ ?_<;>intro b52
 obtain ⟨h,b52d⟩:=ctd b52 h
 conv=>whnf
 cases h
 conv=>whnf
 exact ⟨rfl,rfl⟩
 obtain ⟨h,b52d⟩:=cfd b52 h
 conv=>whnf
 obtain ⟨c53,hc53,h⟩:=bind_some h
 refine ⟨_,(sp_R06_Valid b_ c53 (fun _=>hc53)),?_⟩
 conv=>whnf
 refine Both.mk ?_ ?_<;>intro b54
 obtain ⟨h,b54d⟩:=ctd b54 h
 conv=>whnf
 cases h
 conv=>whnf
 exact ⟨rfl,rfl⟩
 obtain ⟨h,b54d⟩:=cfd b54 h
 conv=>whnf
 refine Both.mk ?_ ?_<;>intro b55
 obtain ⟨h,b55d⟩:=ctd b55 h
 conv=>whnf
 cases h
 conv=>whnf
 exact ⟨rfl,rfl⟩
 obtain ⟨h,b55d⟩:=cfd b55 h
 conv=>whnf
 cases h
 conv=>whnf
 exact ⟨rfl,rfl⟩
theorem sp_equiv_check (a_:T_api_Mealy) (b_:T_api_Mealy) (r:Int) (h:Ok (.agg (c_api_Mealy a_))→Ok (.agg (c_api_Mealy b_))→equiv_check a_ b_=some r):Sp Try.prog 76 [.im (.agg (c_api_Mealy a_)),.im (.agg (c_api_Mealy b_))] (.im (nI r)):=by
 refine sp_of rfl [700002,700003] rfl rfl rfl (Nat.le_of_ble_eq_true rfl) rfl fun hk=>?_
 replace h:=h hk.1 hk.2.1
 have z1:lZ a_.Next:=ok_len (Ok.agg_at hk.1 2 rfl)
 have z2:lZ a_.Out:=ok_len (Ok.agg_at hk.1 3 rfl)
 have z3:lZ b_.Next:=ok_len (Ok.agg_at hk.2.1 2 rfl)
 have z4:lZ b_.Out:=ok_len (Ok.agg_at hk.2.1 3 rfl)
 unfold equiv_check at h
 conv=>whnf
 obtain ⟨oc,hc,hk51⟩:=bind_some h
 clear h
 have h:=hc
 clear hc
 refine Cut.mkS oc (Y:=Unit) (fun (_:Unit)=>mkSt [(2,.im (.ref (c_api_Mealy a_))),(3,.im (.ref (c_api_Mealy b_)))] [] []) (fun (_:Unit)=>True) (by rintro ⟨⟩;exact (hT)) ?_ ?_
 conv=>whnf
 refine Loops.iter (fun (s:Nat)=>equiv_check.s2 a_ b_ s) (fun y82=>mkSt [(2,.im (.ref (c_api_Mealy a_))),(3,.im (.ref (c_api_Mealy b_))),(10,.im (.agg [nI a_.Inputs,nI a_.Start,nL (cL cI) a_.Next,nL (cL cI) a_.Out,nI b_.Inputs,nI b_.Start,nL (cL cI) b_.Next,nL (cL cI) b_.Out])),(11,.im (nI (↑y82:Int)))] [] []) (fun y82=>True) h (Ent.mk [] rfl ⟨eI rfl rfl,eI rfl rfl,⟨.im _,rfl,.im (Sub.nz' rfl)⟩,eI rfl rfl,trivial⟩ trivial trivial) (by rintro y82;exact (hT)) ?_
 clear h
 rintro k y82 o hp h ho90
 replace h:equiv_check.s2 a_ b_ y82=some o:=h
 unfold equiv_check.s2 at h
 conv=>whnf
 refine Both.mk ?_ ?_<;>intro b91
 obtain ⟨h,b91d⟩:=ctd b91 h
 conv=>whnf
 refine Both.mk ?_ ?_<;>intro b92
 obtain ⟨h,b92d⟩:=ctd b92 h
 conv=>whnf
 refine Side.mk rfl ?_
 conv=>whnf
 refine Side.mk rfl ?_
 conv=>whnf
 obtain ⟨c93,hc93,h⟩:=bind_some h
 refine ⟨_,(sp_mealy_Valid a_ c93 (fun _=>hc93)),?_⟩
 conv=>whnf
 refine Both.mk ?_ ?_<;>intro b94
 obtain ⟨h,b94d⟩:=ctd b94 h
 conv=>whnf
 cases h
 have ho90:_=_:=ho90
 cases ho90
 replace h:some _=some _:=hk51
 cases h
 conv=>whnf
 exact ⟨rfl,rfl⟩
 obtain ⟨h,b94d⟩:=cfd b94 h
 conv=>whnf
 refine Arith.mk (by show inR _;unfold inR;omega) ?_
 conv=>whnf
 cases h
 exact Nxt.mk _ ho90 (Ent.mk [] rfl ⟨eI rfl rfl,eI rfl rfl,⟨.im _,rfl,.im (Sub.nz' rfl)⟩,eI rfl rfl,trivial⟩ trivial trivial)
 obtain ⟨h,b92d⟩:=cfd b92 h
 conv=>whnf
 obtain ⟨c95,h⟩:=chk_some h
 refine Side.mk c95 ?_
 conv=>whnf
 refine Side.mk rfl ?_
 conv=>whnf
 refine Side.mk rfl ?_
 conv=>whnf
 obtain ⟨c96,hc96,h⟩:=bind_some h
 refine ⟨_,(sp_mealy_Valid b_ c96 (fun _=>hc96)),?_⟩
 conv=>whnf
 refine Both.mk ?_ ?_<;>intro b97
 obtain ⟨h,b97d⟩:=ctd b97 h
 conv=>whnf
 cases h
 have ho90:_=_:=ho90
 cases ho90
 replace h:some _=some _:=hk51
 cases h
 conv=>whnf
 exact ⟨rfl,rfl⟩
 obtain ⟨h,b97d⟩:=cfd b97 h
 conv=>whnf
 refine Arith.mk (by show inR _;unfold inR;omega) ?_
 conv=>whnf
 cases h
 exact Nxt.mk _ ho90 (Ent.mk [] rfl ⟨eI rfl rfl,eI rfl rfl,⟨.im _,rfl,.im (Sub.nz' rfl)⟩,eI rfl rfl,trivial⟩ trivial trivial)
 obtain ⟨h,b91d⟩:=cfd b91 h
 conv=>whnf
 cases h
 have ho90:_=_:=ho90
 cases ho90
 exact JoinS.mk' _ rfl (eA [])
 rintro ⟨⟩ rfl hp
 replace h:=sum_inl hk51
 conv=>whnf
 refine Both.mk ?_ ?_<;>intro b98
 obtain ⟨h,b98d⟩:=ctd b98 h
 conv=>whnf
 cases h
 conv=>whnf
 exact ⟨rfl,rfl⟩
 obtain ⟨h,b98d⟩:=cfd b98 h
 conv=>whnf
 cases h
 conv=>whnf
 exact ⟨rfl,rfl⟩
theorem sp_equiv_Distinguish (a_:T_api_Mealy) (b_:T_api_Mealy) (r:List Int×Bool×Int) (h:Ok (.agg (c_api_Mealy a_))→Ok (.agg (c_api_Mealy b_))→equiv_Distinguish a_ b_=some r):Sp Try.prog 54 [.im (.agg (c_api_Mealy a_)),.im (.agg (c_api_Mealy b_))] (.tup [nL cI r.1,nB r.2.1,nI r.2.2]):=by
 refine sp_of rfl [700002,700003] rfl rfl rfl (Nat.le_of_ble_eq_true rfl) rfl fun hk=>?_
 replace h:=h hk.1 hk.2.1
 have z1:lZ a_.Next:=ok_len (Ok.agg_at hk.1 2 rfl)
 have z2:lZ a_.Out:=ok_len (Ok.agg_at hk.1 3 rfl)
 have z3:lZ b_.Next:=ok_len (Ok.agg_at hk.2.1 2 rfl)
 have z4:lZ b_.Out:=ok_len (Ok.agg_at hk.2.1 3 rfl)
 unfold equiv_Distinguish at h
 conv=>whnf
 obtain ⟨c51,hc51,h⟩:=bind_some h
 refine ⟨_,(sp_equiv_check a_ b_ c51 (fun _ _=>hc51)),?_⟩
 conv=>whnf
 refine Both.mk ?_ ?_<;>intro b52
 obtain ⟨h,b52d⟩:=ctd b52 h
 conv=>whnf
 cases h
 conv=>whnf
 exact ⟨rfl,rfl⟩
 obtain ⟨h,b52d⟩:=cfd b52 h
 conv=>whnf
 obtain ⟨c53,hc53,h⟩:=bind_some h
 refine ⟨_,(sp_equiv_search a_ b_ (⟨a_.Start,b_.Start⟩:T_equiv_pair) c53 (fun _ _ _=>hc53)),?_⟩
 conv=>whnf
 cases h
 conv=>whnf
 exact ⟨rfl,rfl⟩
theorem sp_equiv_Equal (a_:T_api_Mealy) (b_:T_api_Mealy) (r:Bool×Int) (h:Ok (.agg (c_api_Mealy a_))→Ok (.agg (c_api_Mealy b_))→equiv_Equal a_ b_=some r):Sp Try.prog 29 [.im (.agg (c_api_Mealy a_)),.im (.agg (c_api_Mealy b_))] (.tup [nB r.1,nI r.2]):=by
 refine sp_of rfl [700002,700003] rfl rfl rfl (Nat.le_of_ble_eq_true rfl) rfl fun hk=>?_
 replace h:=h hk.1 hk.2.1
 have z1:lZ a_.Next:=ok_len (Ok.agg_at hk.1 2 rfl)
 have z2:lZ a_.Out:=ok_len (Ok.agg_at hk.1 3 rfl)
 have z3:lZ b_.Next:=ok_len (Ok.agg_at hk.2.1 2 rfl)
 have z4:lZ b_.Out:=ok_len (Ok.agg_at hk.2.1 3 rfl)
 unfold equiv_Equal at h
 conv=>whnf
 obtain ⟨c51,hc51,h⟩:=bind_some h
 refine ⟨_,(sp_equiv_Distinguish a_ b_ c51 (fun _ _=>hc51)),?_⟩
 conv=>whnf
 obtain ⟨y55,hc,hk53⟩:=bind_some h
 clear h
 have h:=hc
 clear hc
 refine Cut.mk (mkSt [(4,.im (nB y55)),(5,.im (nI c51.2.2))] [] []) (True) (hT) ?_ (fun hp=>?_)
 conv=>whnf
 refine Both.mk ?_ ?_<;>intro b56
 replace b56:=beq_tt b56
 obtain ⟨h,b56d⟩:=ctd b56 h
 conv=>whnf
 refine Both.yes (tt_beq b56) ?_
 conv=>whnf
 refine Both.yes b56 ?_
 conv=>whnf
 cases h
 exact Join.mk (eA [])
 replace b56:=beq_tf b56
 obtain ⟨h,b56d⟩:=cfd b56 h
 conv=>whnf
 refine Both.no (ft_beq b56) ?_
 conv=>whnf
 refine Both.no b56 ?_
 conv=>whnf
 cases h
 exact Join.mk (eA [])
 replace h:=hk53
 conv=>whnf
 cases h
 conv=>whnf
 exact ⟨rfl,rfl⟩
theorem sp_L30_HsuiteComplete (m_:T_api_Mealy) (impl_:T_api_Mealy) (extra_:Int) (r:Bool) (h:Ok (.agg (c_api_Mealy m_))→Ok (.agg (c_api_Mealy impl_))→Ok (nY extra_)→L30_HsuiteComplete m_ impl_ extra_=some r):Sp Try.prog 7 [.im (.agg (c_api_Mealy m_)),.im (.agg (c_api_Mealy impl_)),.im (nY extra_)] (.im (nB r)):=by
 refine sp_of rfl [700003,700004] rfl rfl rfl (Nat.le_of_ble_eq_true rfl) rfl fun hk=>?_
 replace h:=h hk.1 hk.2.1 hk.2.2.1
 have z1:lZ m_.Next:=ok_len (Ok.agg_at hk.1 2 rfl)
 have z2:lZ m_.Out:=ok_len (Ok.agg_at hk.1 3 rfl)
 have z3:lZ impl_.Next:=ok_len (Ok.agg_at hk.2.1 2 rfl)
 have z4:lZ impl_.Out:=ok_len (Ok.agg_at hk.2.1 3 rfl)
 unfold L30_HsuiteComplete at h
 conv=>whnf
 obtain ⟨y59,hc,hk52⟩:=bind_some h
 clear h
 have h:=hc
 clear hc
 refine Cut.mk (mkSt [(2,.im (nY extra_)),(3,.im (.ref (c_api_Mealy m_))),(4,.im (.ref (c_api_Mealy impl_))),(33,.im (nB y59))] [] []) (True) (hT) ?_ (fun hp=>?_)
 conv=>whnf
 obtain ⟨c60,hc60,h⟩:=bind_some h
 refine ⟨_,(sp_L11_Small m_ c60 (fun _=>hc60)),?_⟩
 conv=>whnf
 refine Both.mk ?_ ?_<;>intro b61
 replace b61:=beq_ff b61
 replace h:=cond_f b61 h
 conv=>whnf
 refine Both.yes (ff_beq b61) ?_
 conv=>whnf
 obtain ⟨c62,hc62,h⟩:=bind_some h
 refine ⟨_,(sp_L11_Small impl_ c62 (fun _=>hc62)),?_⟩
 conv=>whnf
 refine Both.yes (ff_beq b61) ?_
 conv=>whnf
 refine Both.no b61 ?_
 conv=>whnf
 refine Both.mk ?_ ?_<;>intro b63
 replace b63:=beq_ff b63
 replace h:=cond_f b63 h
 conv=>whnf
 refine Both.yes (ff_beq b63) ?_
 conv=>whnf
 refine Both.no b63 ?_
 conv=>whnf
 refine Both.mk ?_ ?_<;>intro b64
 replace b64:=beq_ff b64
 obtain ⟨h,b64d⟩:=cfd b64 h
 conv=>whnf
 iterate 2 (refine Both.yes (ff_beq b64) ?_;(conv=>whnf))
 obtain ⟨c65,hc65,h⟩:=bind_some h
 refine ⟨_,(sp_R09_Check m_ impl_ c65 (fun _ _=>hc65)),?_⟩
 conv=>whnf
 refine Both.yes (ff_beq b64) ?_
 conv=>whnf
 refine Both.no b64 ?_
 conv=>whnf
 cases h
 exact Join.mk (eA [])
 replace b64:=beq_ft b64
 obtain ⟨h,b64d⟩:=ctd b64 h
 conv=>whnf
 iterate 3 (refine Both.no (tf_beq b64) ?_;(conv=>whnf))
 refine Both.yes b64 ?_
 conv=>whnf
 cases h
 exact Join.mk (eA [])
 replace b63:=beq_ft b63
 replace h:=cond_t b63 h
 conv=>whnf
 refine Both.no (tf_beq b63) ?_
 conv=>whnf
 refine Both.yes b63 ?_
 conv=>whnf
 iterate 4 (refine Both.no rfl ?_;(conv=>whnf))
 refine Both.yes rfl ?_
 conv=>whnf
 cases h
 exact Join.mk (eA [])
 replace b61:=beq_ft b61
 replace h:=cond_t b61 h
 conv=>whnf
 iterate 2 (refine Both.no (tf_beq b61) ?_;(conv=>whnf))
 refine Both.yes b61 ?_
 conv=>whnf
 iterate 2 (refine Both.no rfl ?_;(conv=>whnf))
 refine Both.yes rfl ?_
 conv=>whnf
 iterate 4 (refine Both.no rfl ?_;(conv=>whnf))
 refine Both.yes rfl ?_
 conv=>whnf
 cases h
 exact Join.mk (eA [])
 replace h:=hk52
 conv=>whnf
 refine Both.mk ?_ ?_<;>intro b66
 replace h:=cond_t b66 h
 conv=>whnf
 obtain ⟨c67,hc67,h⟩:=bind_some h
 refine ⟨_,(sp_L30_exampleHolds  c67 (hc67)),?_⟩
 conv=>whnf
 cases h
 conv=>whnf
 exact ⟨rfl,rfl⟩
 replace h:=cond_f b66 h
 conv=>whnf
 obtain ⟨c68,h⟩:=chk_some h
 refine Side.mk c68 ?_
 conv=>whnf
 obtain ⟨c69,hc69,h⟩:=bind_some h
 refine ⟨_,(sp_hsuite_Suite m_ extra_ c69 (fun _ _=>hc69)),?_⟩
 conv=>whnf
 refine Both.mk ?_ ?_<;>intro b70
 obtain ⟨h,b70d⟩:=ctd b70 h
 conv=>whnf
 obtain ⟨y76,hc,hk72⟩:=bind_some h
 clear h
 have h:=hc
 clear hc
 refine Cut.mk (mkSt [(6,.im (nB y76))] [] []) (True) (hT) ?_ (fun hp=>?_)
 conv=>whnf
 refine Both.mk ?_ ?_<;>intro b77
 replace b77:=beq_tt b77
 obtain ⟨h,b77d⟩:=ctd b77 h
 conv=>whnf
 refine Both.yes (tt_beq b77) ?_
 conv=>whnf
 refine Nf.mk (List.length c69.1) len_map ?_
 conv=>whnf
 refine Both.yes (tt_beq b77) ?_
 conv=>whnf
 refine Both.yes b77 ?_
 conv=>whnf
 refine Both.mk ?_ ?_<;>intro b78
 replace b78:=beq_tt b78
 obtain ⟨h,b78d⟩:=ctd b78 h
 conv=>whnf
 obtain ⟨c79,hc79,h⟩:=bind_some h
 refine ⟨_,(sp_L30_exampleHolds  c79 (hc79)),?_⟩
 conv=>whnf
 refine Both.yes b78 ?_
 conv=>whnf
 cases h
 exact Join.mk (eA [])
 replace b78:=beq_tf b78
 obtain ⟨h,b78d⟩:=cfd b78 h
 conv=>whnf
 refine Both.no b78 ?_
 conv=>whnf
 cases h
 exact Join.mk (eA [])
 replace b77:=beq_tf b77
 obtain ⟨h,b77d⟩:=cfd b77 h
 conv=>whnf
 iterate 2 (refine Both.no (ft_beq b77) ?_;(conv=>whnf))
 refine Both.no b77 ?_
 conv=>whnf
 iterate 2 (refine Both.no rfl ?_;(conv=>whnf))
 cases h
 exact Join.mk (eA [])
 replace h:=hk72
 conv=>whnf
 cases h
 conv=>whnf
 exact ⟨rfl,rfl⟩
 obtain ⟨h,b70d⟩:=cfd b70 h
 conv=>whnf
 obtain ⟨c80,hc80,h⟩:=bind_some h
 refine ⟨_,(sp_minimize_Min m_ c80 (fun _=>hc80)),?_⟩
 conv=>whnf
 refine Side.mk rfl ?_
 conv=>whnf
 obtain ⟨c81,hc81,h⟩:=bind_some h
 refine ⟨_,(sp_wsuite_Passes m_ impl_ c69.1 c81 (fun _ _ _=>hc81)),?_⟩
 conv=>whnf
 obtain ⟨c82,hc82,h⟩:=bind_some h
 refine ⟨_,(sp_equiv_Equal m_ impl_ c82 (fun _ _=>hc82)),?_⟩
 conv=>whnf
 obtain ⟨y89,hc,hk84⟩:=bind_some h
 clear h
 have h:=hc
 clear hc
 refine Cut.mk (mkSt [(2,.im (nY extra_)),(4,.im (.ref (c_api_Mealy impl_))),(9,.own 110 1 0),(12,.im (nB c81.2.1)),(14,.im (nB c82.1)),(89,.im (nB y89))] [(110,.box 24 4)] [(110,0,.im (nI c80.1.Inputs)),(110,1,.im (nI c80.1.Start)),(110,2,.im (nL (cL cI) c80.1.Next)),(110,3,.im (nL (cL cI) c80.1.Out))]) (lZ c80.1.Next∧lZ c80.1.Out∧True) ((Holds.cel 110 2 rfl (by decide) rfl).and ((Holds.cel 110 3 rfl (by decide) rfl).and (hT))) ?_ (fun hp=>?_)
 conv=>whnf
 refine Both.mk ?_ ?_<;>intro b90
 replace b90:=beq_ff b90
 obtain ⟨h,b90d⟩:=cfd b90 h
 conv=>whnf
 refine Both.yes (ff_beq b90) ?_
 conv=>whnf
 refine Both.no b90 ?_
 conv=>whnf
 refine Both.mk ?_ ?_<;>intro b91
 replace b91:=beq_ff b91
 obtain ⟨h,b91d⟩:=cfd b91 h
 conv=>whnf
 refine Both.yes (ff_beq b91) ?_
 conv=>whnf
 refine Both.no b91 ?_
 conv=>whnf
 refine Both.mk ?_ ?_<;>intro b92
 replace b92:=beq_ff b92
 obtain ⟨h,b92d⟩:=cfd b92 h
 conv=>whnf
 refine Both.yes (ff_beq b92) ?_
 conv=>whnf
 refine Both.mk ?_ ?_<;>intro b93
 replace b93:=beq_tt b93
 replace h:=cond_t b93 h
 conv=>whnf
 refine Both.yes (tt_beq b93) ?_
 conv=>whnf
 refine Both.yes (ff_beq b92) ?_
 conv=>whnf
 refine Both.yes b93 ?_
 conv=>whnf
 refine Both.no b92 ?_
 conv=>whnf
 cases h
 exact Join.mk (eA [(110,some 9)])
 replace b93:=beq_tf b93
 replace h:=cond_f b93 h
 conv=>whnf
 refine Both.no (ft_beq b93) ?_
 conv=>whnf
 refine Both.yes (ff_beq b92) ?_
 conv=>whnf
 refine Both.no b93 ?_
 conv=>whnf
 refine Both.no b92 ?_
 conv=>whnf
 cases h
 exact Join.mk (eA [(110,some 9)])
 replace b92:=beq_ft b92
 obtain ⟨h,b92d⟩:=ctd b92 h
 conv=>whnf
 iterate 2 (refine Both.no (tf_beq b92) ?_;(conv=>whnf))
 refine Both.yes b92 ?_
 conv=>whnf
 cases h
 exact Join.mk (eA [(110,some 9)])
 replace b91:=beq_ft b91
 obtain ⟨h,b91d⟩:=ctd b91 h
 conv=>whnf
 refine Both.no (tf_beq b91) ?_
 conv=>whnf
 refine Both.yes b91 ?_
 conv=>whnf
 iterate 3 (refine Both.no rfl ?_;(conv=>whnf))
 refine Both.yes rfl ?_
 conv=>whnf
 cases h
 exact Join.mk (eA [(110,some 9)])
 replace b90:=beq_ft b90
 obtain ⟨h,b90d⟩:=ctd b90 h
 conv=>whnf
 refine Both.no (tf_beq b90) ?_
 conv=>whnf
 refine Both.yes b90 ?_
 conv=>whnf
 iterate 2 (refine Both.no rfl ?_;(conv=>whnf))
 refine Both.yes rfl ?_
 conv=>whnf
 iterate 3 (refine Both.no rfl ?_;(conv=>whnf))
 refine Both.yes rfl ?_
 conv=>whnf
 cases h
 exact Join.mk (eA [(110,some 9)])
 replace h:=hk84
 obtain ⟨z94,z95,_⟩:=hp
 conv=>whnf
 refine Both.mk ?_ ?_<;>intro b96
 replace h:=cond_t b96 h
 conv=>whnf
 cases h
 conv=>whnf
 exact ⟨rfl,rfl⟩
 replace h:=cond_f b96 h
 conv=>whnf
 obtain ⟨y108,hc,hk98⟩:=bind_some h
 clear h
 have h:=hc
 clear hc
 refine Cut.mk (mkSt [(6,.im (nB y108))] [] []) (True) (hT) ?_ (fun hp=>?_)
 conv=>whnf
 refine Both.mk ?_ ?_<;>intro b109
 replace b109:=beq_ff b109
 replace h:=cond_f b109 h
 conv=>whnf
 refine Both.yes (ff_beq b109) ?_
 conv=>whnf
 refine Both.no b109 ?_
 conv=>whnf
 refine Both.mk ?_ ?_<;>intro b111
 replace b111:=beq_ff b111
 replace h:=cond_f b111 h
 conv=>whnf
 refine Both.yes (ff_beq b111) ?_
 conv=>whnf
 obtain ⟨c113,hc113,h⟩:=bind_some h
 refine ⟨_,(sp_mealy_Reach impl_ c113 (fun _=>hc113)).im,?_⟩
 conv=>whnf
 refine Both.yes (ff_beq b111) ?_
 conv=>whnf
 refine Nf.mk (List.length c113) len_map ?_
 conv=>whnf
 refine Both.yes (ff_beq b111) ?_
 conv=>whnf
 refine Side.mk rfl ?_
 conv=>whnf
 refine Both.yes (ff_beq b111) ?_
 conv=>whnf
 refine Side.mk rfl ?_
 conv=>whnf
 refine Both.yes (ff_beq b111) ?_
 conv=>whnf
 refine Nf.mk (List.length c80.1.Next) len_map ?_
 conv=>whnf
 iterate 2 (refine Both.yes (ff_beq b111) ?_;(conv=>whnf))
 obtain ⟨c114,h⟩:=chk_some h
 refine Side.mk c114 ?_
 conv=>whnf
 refine Both.yes (ff_beq b111) ?_
 conv=>whnf
 obtain ⟨c115,h⟩:=chk_some h
 refine Arith.mk c115 ?_
 conv=>whnf
 refine Both.yes (ff_beq b111) ?_
 conv=>whnf
 refine Both.no b111 ?_
 conv=>whnf
 refine Both.mk ?_ ?_<;>intro b116
 replace b116:=beq_tt b116
 obtain ⟨h,b116d⟩:=ctd b116 h
 conv=>whnf
 obtain ⟨c117,hc117,h⟩:=bind_some h
 refine ⟨_,(sp_L30_exampleHolds  c117 (hc117)),?_⟩
 conv=>whnf
 refine Both.yes b116 ?_
 conv=>whnf
 cases h
 exact Join.mk (eA [])
 replace b116:=beq_tf b116
 obtain ⟨h,b116d⟩:=cfd b116 h
 conv=>whnf
 refine Both.no b116 ?_
 conv=>whnf
 cases h
 exact Join.mk (eA [])
 replace b111:=beq_ft b111
 replace h:=cond_t b111 h
 conv=>whnf
 iterate 9 (refine Both.no (tf_beq b111) ?_;(conv=>whnf))
 refine Both.yes b111 ?_
 conv=>whnf
 refine Both.yes rfl ?_
 conv=>whnf
 obtain ⟨c112,hc112,h⟩:=bind_some h
 refine ⟨_,(sp_L30_exampleHolds  c112 (hc112)),?_⟩
 conv=>whnf
 refine Both.yes rfl ?_
 conv=>whnf
 cases h
 exact Join.mk (eA [])
 replace b109:=beq_ft b109
 replace h:=cond_t b109 h
 conv=>whnf
 refine Both.no (tf_beq b109) ?_
 conv=>whnf
 refine Both.yes b109 ?_
 conv=>whnf
 iterate 10 (refine Both.no rfl ?_;(conv=>whnf))
 iterate 2 (refine Both.yes rfl ?_;(conv=>whnf))
 obtain ⟨c110,hc110,h⟩:=bind_some h
 refine ⟨_,(sp_L30_exampleHolds  c110 (hc110)),?_⟩
 conv=>whnf
 refine Both.yes rfl ?_
 conv=>whnf
 cases h
 exact Join.mk (eA [])
 replace h:=hk98
 conv=>whnf
 cases h
 conv=>whnf
 exact ⟨rfl,rfl⟩
end Go.Proofs.Ytkfaepfljlphoaa.Sym
